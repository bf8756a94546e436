/- A part of the proof that TopAnewTrack returns true at every input of bulk at most 1048576: a heap of what came in. -/
import Derived.Test.YtliohlkclfcigaaAbsI
import Derived.DataReads
set_option linter.unusedVariables false
set_option linter.unusedSimpArgs false
namespace Go.Abs
def WT (P : Program) (G : Nat → Blk) : Nat → TypeId → List Value → Prop
  | 0, _, _ => False
  | n + 1, t, cs =>
    match P.underlying t with
    | some .bool => ∃ b, cs = [.bool b]
    | some (.int k) => ∃ i, cs = [.int k i] ∧ (Lit.int k i).wf = true
    | some .string => ∃ s, cs = [.string s] ∧ s.size ≤ 1048576
    | some (.slice e) => cs = [.slice none 0 0] ∨ ∃ b len cap l, cs = [.slice (some ⟨b, 0, none⟩) len cap] ∧ len ≤ cap ∧ cap ≤ 1048576 ∧ G b = .cells false 0 l ∧ l.length = cap * P.cellsOf e ∧
        ∀ i, i < cap → WT P G n e ((l.drop (i * P.cellsOf e)).take (P.cellsOf e))
    | some (.struct fs) => cs.length = P.cellsOf t ∧ ∀ f ∈ fs.toList, WT P G n f.type ((cs.drop f.offset).take (P.cellsOf f.type))
    | some (.array m e) => cs.length = P.cellsOf t ∧ ∀ i, i < m → WT P G n e ((cs.drop (i * P.cellsOf e)).take (P.cellsOf e))
    | _ => False
theorem WT.mono {P : Program} {G G' : Nat → Blk} (hG : ∀ b g l, G b = .cells false g l → G' b = .cells false g l) : ∀ (n : Nat) (t : TypeId) (cs : List Value), WT P G n t cs → WT P G' n t cs := by
  intro n
  induction n with
  | zero => intro t cs h; exact h
  | succ n ih =>
    intro t cs h; simp only [WT] at h ⊢; split at h
    · exact h
    · exact h
    · exact h
    · rcases h with h | ⟨b, len, cap, l, h1, h2, h3, h4, h5, h6⟩
      · exact .inl h
      · exact .inr ⟨b, len, cap, l, h1, h2, h3, hG _ _ _ h4, h5, fun i hi => ih _ _ (h6 i hi)⟩
    · exact ⟨h.1, fun f hf => ih _ _ (h.2 f hf)⟩
    · exact ⟨h.1, fun i hi => ih _ _ (h.2 i hi)⟩
    · exact h.elim
end Go.Abs
namespace Go.Abs
variable {P : Program} {w : World} {base : Nat}
structure Laid (w : World) (base K : Nat) (G : Nat → Blk) (φ : Phi) : Prop where
  top : ∀ b, K ≤ b → G b = .none ∧ φ b = none
  blk : ∀ b, b < K → ∃ l p, G b = .cells false 0 l ∧ φ b = some p ∧ p.blk < base ∧ p.blk < w.heap.size ∧ p.grow = 0 ∧ (∀ v ∈ l, Low K v) ∧
    ∃ cc ty fr, w.heap[p.blk]? = some (.cells cc ty fr) ∧ cc.size = p.csize ∧ CellsAt φ l cc p.off
theorem Low.mono {K K' : Nat} (h : K ≤ K') {v : Value} (hl : Low K v) : Low K' v := by
  intro φ v' hv; have := hl φ v' hv; refine this.mono fun b p hb => ?_; unfold cutP at hb ⊢; by_cases hk : b < K
  · rw [if_pos hk] at hb; rw [if_pos (by omega)]; exact hb
  · rw [if_neg hk] at hb; cases hb
theorem Laid.rel {K : Nat} {G : Nat → Blk} {φ : Phi} (h : Laid w base K G φ) (hb : base ≤ w.heap.size) : Rel φ base G w := by
  have key : ∀ b p, φ b = some p → b < K := by
    intro b p hp; rcases Nat.lt_or_ge b K with h' | h'
    · exact h'
    · rw [(h.top b h').2] at hp; cases hp
  refine ⟨fun b p hp => ?_, fun b b' p p' hp hp' hne hbk hw => ?_, hb, fun b p hp => ?_⟩
  · obtain ⟨l, q, h1, h2, h3, h4, h5, h6, cc, ty, fr, h7, h8, h9⟩ := h.blk b (key b p hp); rw [hp] at h2; cases h2; rw [h1]; exact ⟨h5, cc, ty, fr, h7, h8, h9, (fun hc => by cases hc), fun _ => h3⟩
  · obtain ⟨l, q, h1, _⟩ := h.blk b (key b p hp); rw [h1] at hw; exact hw.elim
  · obtain ⟨l, q, h1, h2, h3, h4, _⟩ := h.blk b (key b p hp); rw [hp] at h2; cases h2; exact h4
theorem Laid.wf {K : Nat} {G : Nat → Blk} {φ : Phi} (h : Laid w base K G φ) : (⟨K, G⟩ : AW).wf := fun b hb => (h.top b hb).1
theorem Laid.empty : Laid w base 0 (fun _ => .none) (fun _ => none) := ⟨fun _ _ => ⟨rfl, rfl⟩, fun b hb => by omega⟩
theorem Laid.push {K : Nat} {G : Nat → Blk} {φ : Phi} (h : Laid w base K G φ) {l : List Value} {p : PB} (hp : p.blk < base) (hw : p.blk < w.heap.size) (hg : p.grow = 0) (hl : ∀ v ∈ l, Low K v) {cc : Array Value} {ty : TypeId} {fr : Nat × Nat}
    (hh : w.heap[p.blk]? = some (.cells cc ty fr)) (hs : cc.size = p.csize) (hc : CellsAt φ l cc p.off) :
    Laid w base (K + 1) (fun b => if b = K then .cells false 0 l else G b) (fun b => if b = K then some p else φ b) := by
  have hle : PLe φ (fun b => if b = K then some p else φ b) := by
    intro b q hq; by_cases hb : b = K
    · subst hb; rw [(h.top b (Nat.le_refl _)).2] at hq; cases hq
    · simp only [hb, if_false]; exact hq
  refine ⟨fun b hb => ?_, fun b hb => ?_⟩
  · simp only [show b ≠ K by omega, if_false]; exact h.top b (by omega)
  · by_cases hbk : b = K
    · subst hbk; exact ⟨l, p, by simp, by simp, hp, hw, hg, fun v hv => (hl v hv).mono (by omega), cc, ty, fr, hh, hs, ⟨hc.1, hc.2.1.mono hle, hc.2.2⟩⟩
    · obtain ⟨l', q, h1, h2, h3, h4, h5, h6, cc', ty', fr', h7, h8, h9⟩ := h.blk b (by omega); exact ⟨l', q, by simp only [hbk, if_false]; exact h1, by simp only [hbk, if_false]; exact h2, h3, h4, h5, fun v hv => (h6 v hv).mono (by omega), cc', ty', fr', h7, h8, ⟨h9.1, h9.2.1.mono hle, h9.2.2⟩⟩
def tiles (P : Program) : List Field → Nat → Option Nat
  | [], o => some o
  | f :: fs, o => if f.offset = o then tiles P fs (o + P.cellsOf f.type) else none
def plainT (P : Program) : Nat → TypeId → Bool
  | 0, _ => false
  | n + 1, t =>
    match P.underlying t with
    | some .bool | some (.int _) | some .string => P.cellsOf t == 1
    | some (.slice e) => P.cellsOf t == 1 && decide (0 < P.cellsOf e) && plainT P n e
    | some (.struct fs) => tiles P fs.toList 0 == some (P.cellsOf t) && fs.toList.all fun f => plainT P n f.type
    | some (.array m e) => m * P.cellsOf e == P.cellsOf t && plainT P n e
    | _ => false
def ZK (P : Program) (w : World) : Nat → TypeId → List Value → Prop
  | 0, _, _ => True
  | n + 1, t, cs =>
    match P.underlying t with
    | some (.slice e) => ∀ a len cap, cs = [.slice (some a) len cap] → (cap = 0 → a.spot = none ∧ ∃ cc ty fr, w.heap[a.block]? = some (.cells cc ty fr)) ∧
        ∀ i cs', i < cap → w.cells? 0 (a.add (i * P.cellsOf e)) (P.cellsOf e) = some cs' → ZK P w n e cs'
    | some (.struct fs) => ∀ f ∈ fs.toList, ZK P w n f.type ((cs.drop f.offset).take (P.cellsOf f.type))
    | some (.array m e) => ∀ i, i < m → ZK P w n e ((cs.drop (i * P.cellsOf e)).take (P.cellsOf e))
    | _ => True
structure Modest {H : Type} (sm : DataW H → Prop) : Prop where
  str : ∀ l, sm (.lit (.string l)) → l.length ≤ 1048576
  slice : ∀ es rs, sm (.slice es rs) → es.length + rs.length ≤ 1048576 ∧ ∀ d, d ∈ es ++ rs → sm d
  agg : ∀ ps, sm (.agg ps) → ∀ d ∈ ps, sm d
theorem cells_slab {b0 : Nat} {a : Addr} {n : Nat} {cs : List Value} (h : w.cells? b0 a n = some cs) (hn : 0 < n) :
    a.spot = none ∧ a.block < w.heap.size ∧ ∃ cc ty fr, w.heap[a.block]? = some (.cells cc ty fr) ∧ a.off + n ≤ cc.size ∧ cs = (cc.toList.drop a.off).take n := by
  obtain ⟨_, hl, hc⟩ := World.cells?_some h; have cell : ∀ i, i < n → ∃ v, w.cell? (a.add i) = some v ∧ cs[i]? = some v := by
    intro i hi; have := hc i hi; rw [List.getElem?_eq_getElem (by omega)] at this; exact ⟨_, this, List.getElem?_eq_getElem (by omega)⟩
  have shape : ∀ (a : Addr) (v : Value), w.cell? a = some v → a.spot = none ∧ ∃ cc ty fr, w.heap[a.block]? = some (.cells cc ty fr) ∧ cc[a.off]? = some v := by
    intro a v hv; have hs := World.cell?_spot hv; unfold World.cell? at hv; split at hv
    · rename_i hb; exact ⟨hs, _, _, _, hb, by simpa [hs] using hv⟩
    · cases hv
  obtain ⟨v0, h0, _⟩ := cell 0 hn; obtain ⟨hs, cc, ty, fr, hb, h0'⟩ := shape _ _ h0; have hb' : w.heap[a.block]? = some (.cells cc ty fr) := hb; have hget : ∀ i, i < n → cc[a.off + i]? = cs[i]? := by
    intro i hi; obtain ⟨v, hv, hv2⟩ := cell i hi; obtain ⟨_, cc', ty', fr', hb2, hv3⟩ := shape _ _ hv; have hadd : (a.add i).block = a.block ∧ (a.add i).off = a.off + i := by
      unfold Addr.add; by_cases hi0 : i = 0
      · rw [if_pos hi0, hi0]; exact ⟨rfl, rfl⟩
      · rw [if_neg hi0]; exact ⟨rfl, rfl⟩
    rw [hadd.1] at hb2; rw [hadd.2] at hv3; have hb2' : w.heap[a.block]? = some (.cells cc' ty' fr') := hb2; rw [hb'] at hb2'; cases hb2'; rw [hv2]; exact hv3
  have hsz : a.off + n ≤ cc.size := by
    have := hget (n - 1) (by omega); rw [List.getElem?_eq_getElem (by omega)] at this; have := (Array.getElem?_eq_some_iff.1 this).1; omega
  refine ⟨hs, (Array.getElem?_eq_some_iff.1 hb').1, cc, ty, fr, hb', hsz, List.ext_getElem? fun i => ?_⟩; by_cases hi : i < n
  · rw [← hget i hi, List.getElem?_take, if_pos hi, List.getElem?_drop]; simp
  · rw [List.getElem?_eq_none (by omega), List.getElem?_eq_none (by simp; omega)]
structure LStep (w : World) (base K : Nat) (G : Nat → Blk) (φ : Phi) (K' : Nat) (G' : Nat → Blk) (φ' : Phi) : Prop where
  le : K ≤ K'
  laid : Laid w base K' G' φ'
  same : ∀ b, b < K → G' b = G b
  ple : PLe φ φ'
theorem LStep.G {w : World} {base K K' : Nat} {G G' : Nat → Blk} {φ φ' : Phi} (h : LStep w base K G φ K' G' φ') (hl : Laid w base K G φ) : ∀ b g l, G b = .cells false g l → G' b = .cells false g l := by
  intro b g l hb; rcases Nat.lt_or_ge b K with hlt | hge
  · rw [h.same b hlt]; exact hb
  · rw [(hl.top b hge).1] at hb; cases hb
theorem LStep.refl {w : World} {base K : Nat} {G : Nat → Blk} {φ : Phi} (h : Laid w base K G φ) : LStep w base K G φ K G φ := ⟨Nat.le_refl _, h, fun _ _ => rfl, PLe.refl _⟩
theorem LStep.trans {w : World} {base K K1 K2 : Nat} {G G1 G2 : Nat → Blk} {φ φ1 φ2 : Phi} (h : LStep w base K G φ K1 G1 φ1) (k : LStep w base K1 G1 φ1 K2 G2 φ2) : LStep w base K G φ K2 G2 φ2 :=
  ⟨Nat.le_trans h.le k.le, k.laid, fun b hb => (k.same b (Nat.lt_of_lt_of_le hb h.le)).trans (h.same b hb), h.ple.trans k.ple⟩
structure Stands (P : Program) (n : Nat) (K : Nat) (G : Nat → Blk) (φ : Phi) (t : TypeId) (acs cs : List Value) : Prop where
  lr : LR φ acs cs
  wt : WT P G n t acs
  one : OneC acs
  low : ∀ v ∈ acs, Low K v
theorem Stands.step {n : Nat} {K K' : Nat} {G G' : Nat → Blk} {φ φ' : Phi} {t : TypeId} {acs cs : List Value} (h : Stands P n K G φ t acs cs) (hl : Laid w base K G φ) (k : LStep w base K G φ K' G' φ') : Stands P n K' G' φ' t acs cs :=
  ⟨h.lr.mono k.ple, h.wt.mono (k.G hl), h.one, fun v hv => (h.low v hv).mono k.le⟩
theorem lay_items {n : Nat} {ok : TypeId → List Value → Prop}
    (step : ∀ t cs, ok t cs → ∀ K G φ, Laid w base K G φ → ∃ K' G' φ' acs, LStep w base K G φ K' G' φ' ∧ Stands P n K' G' φ' t acs cs) :
    ∀ (items : List (TypeId × List Value)), (∀ it ∈ items, ok it.1 it.2) → ∀ K G φ, Laid w base K G φ →
      ∃ (K' : Nat) (G' : Nat → Blk) (φ' : Phi) (as : List (List Value)), LStep w base K G φ K' G' φ' ∧ as.length = items.length ∧ ∀ (i : Nat) (it : TypeId × List Value) (a : List Value), items[i]? = some it → as[i]? = some a → Stands P n K' G' φ' it.1 a it.2 := by
  intro items
  induction items with
  | nil => intro _ K G φ hl; exact ⟨K, G, φ, [], LStep.refl hl, rfl, fun i it a h => by simp at h⟩
  | cons it rest ih =>
    intro hok K G φ hl; obtain ⟨K1, G1, φ1, acs, s1, t1⟩ := step it.1 it.2 (hok it (by simp)) K G φ hl; obtain ⟨K2, G2, φ2, as, s2, hlen, t2⟩ := ih (fun x hx => hok x (by simp [hx])) K1 G1 φ1 s1.laid; refine ⟨K2, G2, φ2, acs :: as, s1.trans s2, by simp [hlen], fun i it' a hi ha => ?_⟩; cases i with
    | zero => simp at hi ha; subst hi; subst ha; exact t1.step s1.laid s2
    | succ i => simp at hi ha; exact t2 i it' a hi ha
def pre {α : Type} (as : List (List α)) (i : Nat) : Nat := ((as.take i).map List.length).sum
theorem flat_part {α : Type} : ∀ (as : List (List α)) (i : Nat) (a : List α), as[i]? = some a → (as.flatten.drop (pre as i)).take a.length = a := by
  intro as
  induction as with
  | nil => intro i a h; simp at h
  | cons x as ih =>
    intro i a h; cases i with
    | zero => simp at h; subst h; simp [pre]
    | succ i =>
      simp at h; have := ih i a h; simp only [pre, List.take_succ_cons, List.map_cons, List.sum_cons, List.flatten_cons] at this ⊢; rw [← List.drop_drop, List.drop_left]; exact this
theorem LR_flatten {φ : Phi} : ∀ (as bs : List (List Value)), as.length = bs.length → (∀ (i : Nat) (a b : List Value), as[i]? = some a → bs[i]? = some b → LR φ a b) → LR φ as.flatten bs.flatten
  | [], [], _, _ => .nil
  | [], _ :: _, h, _ => by simp at h
  | _ :: _, [], h, _ => by simp at h
  | a :: as, b :: bs, h, g => by
    simp only [List.flatten_cons]; exact (g 0 a b (by simp) (by simp)).append (LR_flatten as bs (by simpa using h) fun i x y hx hy => g (i + 1) x y (by simpa using hx) (by simpa using hy))
theorem pre_const {α : Type} {s : Nat} : ∀ (as : List (List α)) (i : Nat), (∀ a ∈ as, a.length = s) → i ≤ as.length → pre as i = i * s := by
  intro as
  induction as with
  | nil => intro i _ hi; simp at hi; subst hi; simp [pre]
  | cons x as ih =>
    intro i h hi; cases i with
    | zero => simp [pre]
    | succ i =>
      have := ih i (fun a ha => h a (by simp [ha])) (by simpa using hi); simp only [pre, List.take_succ_cons, List.map_cons, List.sum_cons] at this ⊢; rw [this, h x (by simp), Nat.succ_mul, Nat.add_comm]
theorem flatten_length_const {α : Type} {s : Nat} : ∀ (as : List (List α)), (∀ a ∈ as, a.length = s) → as.flatten.length = as.length * s := by
  intro as
  induction as with
  | nil => intro _; simp
  | cons x as ih =>
    intro h; rw [List.flatten_cons, List.length_append, ih (fun a ha => h a (by simp [ha])), h x (by simp), List.length_cons, Nat.succ_mul, Nat.add_comm]
theorem flatten_rows {α : Type} {s : Nat} (l : List α) : ∀ (m : Nat), m * s ≤ l.length → ((List.range m).map fun i => (l.drop (i * s)).take s).flatten = l.take (m * s) := by
  intro m
  induction m with
  | zero => intro _; simp
  | succ m ih =>
    intro h; have h' : m * s + s ≤ l.length := by rw [Nat.succ_mul] at h; exact h
    rw [List.range_succ, List.map_append, List.flatten_append, ih (by omega), Nat.succ_mul, List.take_add]; simp
theorem tiles_flat {α : Type} : ∀ (fs : List Field) (o e : Nat) (l : List α), tiles P fs o = some e → l.length = e → ((fs.map fun f => (l.drop f.offset).take (P.cellsOf f.type)).flatten = l.drop o) ∧ o ≤ e := by
  intro fs
  induction fs with
  | nil => intro o e l h hl; simp only [tiles, Option.some.injEq] at h; subst h; simp [hl]
  | cons f fs ih =>
    intro o e l h hl; simp only [tiles] at h; split at h
    case isFalse => cases h
    rename_i ho; obtain ⟨h1, h2⟩ := ih _ e l h hl; refine ⟨?_, by omega⟩; rw [List.map_cons, List.flatten_cons, h1, ho, ← List.drop_drop, List.take_append_drop]
theorem tiles_pre {α : Type} : ∀ (fs : List Field) (o e : Nat) (as : List (List α)), tiles P fs o = some e → as.length = fs.length → (∀ (i : Nat) (f : Field) (a : List α), fs[i]? = some f → as[i]? = some a → a.length = P.cellsOf f.type) →
    (o + as.flatten.length = e) ∧ ∀ (i : Nat) (f : Field), fs[i]? = some f → f.offset = o + pre as i := by
  intro fs
  induction fs with
  | nil =>
    intro o e as h hl _; simp only [tiles, Option.some.injEq] at h; have : as = [] := List.eq_nil_of_length_eq_zero hl; subst this; exact ⟨by simpa using h, fun i f hf => by simp at hf⟩
  | cons f fs ih =>
    intro o e as h hl hs; cases as with
    | nil => simp at hl
    | cons a as =>
      simp only [tiles] at h; split at h
      case isFalse => cases h
      rename_i ho; obtain ⟨h1, h2⟩ := ih _ e as h (by simpa using hl) fun i f' a' hf' ha' => hs (i + 1) f' a' (by simpa using hf') (by simpa using ha'); have ha := hs 0 f a (by simp) (by simp); refine ⟨by simp only [List.flatten_cons, List.length_append]; omega, fun i f' hf' => ?_⟩; cases i with
      | zero => simp at hf'; subst hf'; simp [pre, ho]
      | succ i =>
        simp at hf'; rw [h2 i f' hf']; simp only [pre, List.take_succ_cons, List.map_cons, List.sum_cons]; omega
theorem trod_len {H : Type} {enc : TypeId × Value → H} {n : Nat} {t : TypeId} {cs : List Value} {x : DataW H × List MemPlace} (hp : plainT P n t = true) (h : DataW.trod enc P w 0 (fun _ => true) true n t cs = some x) : cs.length = P.cellsOf t := by
  cases n with
  | zero => cases hp
  | succ n =>
    unfold plainT at hp; unfold DataW.trod at h; split at hp
    · rename_i hu; rw [hu] at h; split at h <;> simp_all
    · rename_i hu; rw [hu] at h; split at h <;> simp_all
    · rename_i hu; rw [hu] at h; split at h <;> simp_all
    · rename_i hu; rw [hu] at h; split at h <;> simp_all
    · rename_i hu; rw [hu] at h; split at h <;> simp_all
    · rename_i hu; rw [hu] at h; split at h <;> simp_all
    · cases hp
theorem lay {H : Type} {enc : TypeId × Value → H} {sm : DataW H → Prop} (hm : Modest sm) (hbase : base = w.heap.size) : ∀ (n : Nat) (t : TypeId) (cs : List Value),
    (plainT P n t = true ∧ ZK P w n t cs ∧ ∃ x, DataW.trod enc P w 0 (fun _ => true) true n t cs = some x ∧ sm x.1) →
    ∀ K G φ, Laid w base K G φ → ∃ K' G' φ' acs, LStep w base K G φ K' G' φ' ∧ Stands P n K' G' φ' t acs cs := by
  intro n
  induction n with
  | zero => intro t cs h; cases h.1
  | succ n ih =>
    rintro t cs ⟨hp, hz, x, hx, hs⟩ K G φ hl; have lowS : ∀ (K : Nat) (v : Value), (∀ φ v', VR φ v v' → VR (cutP φ K) v v') → Low K v := fun _ _ h => h; cases hu : P.underlying t with
    | none => simp [plainT, hu] at hp
    | some d =>
      cases d with
      | bool =>
        obtain ⟨b, rfl, _⟩ := DataW.trod_bool hu hx; exact ⟨K, G, φ, [.bool b], LStep.refl hl, ⟨.cons (.bool b) .nil, by simp [WT, hu], by simp [OneC, Value.oneCell'], by
          intro v hv φ v' h; simp at hv; subst hv; cases h; exact .bool b⟩⟩
      | int k =>
        obtain ⟨i, rfl, _, hw⟩ := DataW.trod_int hu hx; exact ⟨K, G, φ, [.int k i], LStep.refl hl, ⟨.cons (.int k i) .nil, by simp only [WT, hu]; exact ⟨i, rfl, hw⟩, by simp [OneC, Value.oneCell'], by
          intro v hv φ v' h; simp at hv; subst hv; cases h; exact .int k i⟩⟩
      | string =>
        obtain ⟨s, rfl, hxs, hw⟩ := DataW.trod_string hu hx; subst hxs; have := hm.str _ hs; exact ⟨K, G, φ, [.string s], LStep.refl hl, ⟨.cons (.string s) .nil, by
          simp only [WT, hu]; exact ⟨s, rfl, by rw [Array.length_toList] at this; exact this⟩, by simp [OneC, Value.oneCell'], by
          intro v hv φ v' h; simp at hv; subst hv; cases h; exact .string s⟩⟩
      | struct fs =>
        simp only [plainT, hu, Bool.and_eq_true, beq_iff_eq, List.all_eq_true] at hp; simp only [ZK, hu] at hz; obtain ⟨xs, n', hn, hxe, hlen, hxl, hget⟩ := DataW.trod_struct hu hx; cases hn; have hsm : ∀ d ∈ xs.map (·.1), sm d := hm.agg _ (by rw [hxe] at hs; exact hs); obtain ⟨K', G', φ', as, st, hal, hst⟩ := lay_items (P := P) (n := n) ih (fs.toList.map fun f => (f.type, (cs.drop f.offset).take (P.cellsOf f.type))) (by
          intro it hit; obtain ⟨f, hf, rfl⟩ := List.mem_map.1 hit; obtain ⟨i, hi⟩ := List.mem_iff_getElem?.1 hf; have hg := hget i f (by simpa using hi); have hix : i < xs.length := by rw [hxl]; simpa using (List.getElem?_eq_some_iff.1 hi).1
          rw [List.getElem?_eq_getElem hix] at hg; exact ⟨hp.2 f hf, hz f hf, _, hg, hsm _ (List.mem_map.2 ⟨_, List.getElem_mem hix, rfl⟩)⟩) K G φ hl
        have hsz : ∀ (i : Nat) (f : Field) (a : List Value), fs.toList[i]? = some f → as[i]? = some a → LR φ' a ((cs.drop f.offset).take (P.cellsOf f.type)) ∧ WT P G' n f.type a ∧ OneC a ∧ (∀ v ∈ a, Low K' v) ∧ a.length = P.cellsOf f.type := by
          intro i f a hi ha; have hS := hst i (f.type, (cs.drop f.offset).take (P.cellsOf f.type)) a (by simp [List.getElem?_map] ; exact ⟨f, by simpa using hi, rfl, rfl⟩) ha; have hg := hget i f (by simpa using hi); have hix : i < xs.length := by rw [hxl]; simpa using (List.getElem?_eq_some_iff.1 hi).1
          rw [List.getElem?_eq_getElem hix] at hg; have hl := trod_len (hp.2 f (List.mem_of_getElem? hi)) hg; exact ⟨hS.lr, hS.wt, hS.one, hS.low, by rw [hS.lr.length]; exact hl⟩
        have hal' : as.length = fs.toList.length := by simpa using hal
        obtain ⟨ht1, ht2⟩ := tiles_pre fs.toList 0 _ as hp.1 hal' fun i f a hi ha => (hsz i f a hi ha).2.2.2.2; have hfl := (tiles_flat fs.toList 0 _ cs hp.1 hlen).1; rw [List.drop_zero] at hfl; refine ⟨K', G', φ', as.flatten, st, ⟨?_, ?_, ?_, ?_⟩⟩
        · rw [← hfl]; refine LR_flatten _ _ (by simpa using hal') fun i a b ha hb => ?_; simp only [List.getElem?_map, Option.map_eq_some_iff] at hb; obtain ⟨f, hf, rfl⟩ := hb; exact (hsz i f a hf ha).1
        · simp only [WT, hu]; refine ⟨by omega, fun f hf => ?_⟩; obtain ⟨i, hi⟩ := List.mem_iff_getElem?.1 hf; have hia : i < as.length := by rw [hal']; exact (List.getElem?_eq_some_iff.1 hi).1
          have ha : as[i]? = some as[i] := List.getElem?_eq_getElem hia; obtain ⟨_, h2, _, _, h5⟩ := hsz i f _ hi ha; have := ht2 i f hi; rw [Nat.zero_add] at this; rw [this, ← h5, flat_part as i _ ha]; exact h2
        · intro v hv; obtain ⟨a, ha, hv⟩ := List.mem_flatten.1 hv; obtain ⟨i, hi⟩ := List.mem_iff_getElem?.1 ha; have hif : i < fs.toList.length := by rw [← hal']; exact (List.getElem?_eq_some_iff.1 hi).1
          exact (hsz i _ a (List.getElem?_eq_getElem hif) hi).2.2.1 v hv
        · intro v hv; obtain ⟨a, ha, hv⟩ := List.mem_flatten.1 hv; obtain ⟨i, hi⟩ := List.mem_iff_getElem?.1 ha; have hif : i < fs.toList.length := by rw [← hal']; exact (List.getElem?_eq_some_iff.1 hi).1
          exact (hsz i _ a (List.getElem?_eq_getElem hif) hi).2.2.2.1 v hv
      | array m e =>
        simp only [plainT, hu, Bool.and_eq_true, beq_iff_eq] at hp; simp only [ZK, hu] at hz; unfold DataW.trod at hx; rw [hu] at hx; have hx' : (if cs.length = P.cellsOf t then ((List.range m).mapM fun i => DataW.trod enc P w 0 (fun _ => true) true n e ((cs.drop (i * P.cellsOf e)).take (P.cellsOf e))).map fun xs => (DataW.agg (xs.map (·.1)), xs.flatMap (·.2)) else none) = some x := by
          split at hx <;> first | exact hx | simp_all
        split at hx'
        case isFalse => cases hx'
        rename_i hlen; simp only [Option.map_eq_some_iff] at hx'; obtain ⟨xs, hxs, hxe⟩ := hx'; have hxl : xs.length = m := by simpa using mapM_some_length hxs
        have hget : ∀ i, i < m → DataW.trod enc P w 0 (fun _ => true) true n e ((cs.drop (i * P.cellsOf e)).take (P.cellsOf e)) = xs[i]? := fun i hi => mapM_some_get hxs i i (by simp [hi]); have hsm : ∀ d ∈ xs.map (·.1), sm d := hm.agg _ (by rw [← hxe] at hs; exact hs); have hall : ∀ i, i < m → ∃ y, DataW.trod enc P w 0 (fun _ => true) true n e ((cs.drop (i * P.cellsOf e)).take (P.cellsOf e)) = some y ∧ sm y.1 := by
          intro i hi; have hg := hget i hi; have hix : i < xs.length := by omega
          rw [List.getElem?_eq_getElem hix] at hg; exact ⟨_, hg, hsm _ (List.mem_map.2 ⟨_, List.getElem_mem hix, rfl⟩)⟩
        obtain ⟨K', G', φ', as, st, hal, hst⟩ := lay_items (P := P) (n := n) ih ((List.range m).map fun i => (e, (cs.drop (i * P.cellsOf e)).take (P.cellsOf e))) (by
          intro it hit; obtain ⟨i, hi, rfl⟩ := List.mem_map.1 hit; simp only [List.mem_range] at hi; exact ⟨hp.2, hz i hi, hall i hi⟩) K G φ hl
        have hal' : as.length = m := by simpa using hal
        have hsz : ∀ (i : Nat) (a : List Value), as[i]? = some a → LR φ' a ((cs.drop (i * P.cellsOf e)).take (P.cellsOf e)) ∧ WT P G' n e a ∧ OneC a ∧ (∀ v ∈ a, Low K' v) ∧ a.length = P.cellsOf e := by
          intro i a ha; have hi : i < m := by have := (List.getElem?_eq_some_iff.1 ha).1; omega
          have hS := hst i (e, (cs.drop (i * P.cellsOf e)).take (P.cellsOf e)) a (by simp [hi]) ha; obtain ⟨y, hy, _⟩ := hall i hi; exact ⟨hS.lr, hS.wt, hS.one, hS.low, by rw [hS.lr.length]; exact trod_len hp.2 hy⟩
        have hc : ∀ a ∈ as, a.length = P.cellsOf e := fun a ha => by
          obtain ⟨i, hi⟩ := List.mem_iff_getElem?.1 ha; exact (hsz i a hi).2.2.2.2
        have hfl : ((List.range m).map fun i => (cs.drop (i * P.cellsOf e)).take (P.cellsOf e)).flatten = cs := by
          rw [flatten_rows cs m (by omega), List.take_of_length_le (by omega)]
        refine ⟨K', G', φ', as.flatten, st, ⟨?_, ?_, ?_, ?_⟩⟩
        · rw [← hfl]; refine LR_flatten _ _ (by simpa using hal') fun i a b ha hb => ?_; have hi : i < m := by have := (List.getElem?_eq_some_iff.1 ha).1; omega
          simp [hi] at hb; subst hb; exact (hsz i a ha).1
        · simp only [WT, hu]; refine ⟨by rw [flatten_length_const as hc]; rw [hal']; exact hp.1, fun i hi => ?_⟩; have hia : i < as.length := by omega
          have ha : as[i]? = some as[i] := List.getElem?_eq_getElem hia; have := flat_part as i _ ha; rw [pre_const as i hc (by omega), (hsz i _ ha).2.2.2.2] at this; rw [this]; exact (hsz i _ ha).2.1
        · intro v hv; obtain ⟨a, ha, hv⟩ := List.mem_flatten.1 hv; obtain ⟨i, hi⟩ := List.mem_iff_getElem?.1 ha; exact (hsz i _ hi).2.2.1 v hv
        · intro v hv; obtain ⟨a, ha, hv⟩ := List.mem_flatten.1 hv; obtain ⟨i, hi⟩ := List.mem_iff_getElem?.1 ha; exact (hsz i _ hi).2.2.2.1 v hv
      | slice e =>
        simp only [plainT, hu, Bool.and_eq_true, beq_iff_eq, decide_eq_true_eq] at hp; simp only [ZK, hu] at hz; rcases DataW.trod_slice hu hx with ⟨rfl, _⟩ | ⟨a, len, cap, elems, rest, n', hn, rfl, hxe, hb, hlc, hcm, hel, he, hr, _⟩
        · exact ⟨K, G, φ, [.slice none 0 0], LStep.refl hl, ⟨.cons .nilSlice .nil, by simp only [WT, hu]; exact .inl trivial, by simp [OneC, Value.oneCell'], by
            intro v hv φ v' h; simp at hv; subst hv; cases h; exact .nilSlice⟩⟩
        cases hn; obtain ⟨hrl, hr⟩ := hr rfl; rw [hxe] at hs; obtain ⟨hcap, hsm⟩ := hm.slice _ _ hs; simp only [List.length_map] at hcap; obtain ⟨hz0, hz1⟩ := hz a len cap rfl; have hlow : ∀ (K : Nat) o l c, Low (K + 1) (.slice (some ⟨K, o, none⟩) l c) := by
          intro K o l c φ v' h; cases h with
          | slice b o n c o' c' p h hn hc ho hx hg => exact .slice _ _ _ _ _ _ p (by unfold cutP; rw [if_pos (by omega)]; exact h) hn hc ho hx hg
        have hall : ∀ i, i < cap → ∃ cs' y, w.cells? 0 (a.add (i * P.cellsOf e)) (P.cellsOf e) = some cs' ∧ DataW.trod enc P w 0 (fun _ => true) true n e cs' = some y ∧ sm y.1 := by
          intro i hi; have key : ∀ y, (w.cells? 0 (a.add (i * P.cellsOf e)) (P.cellsOf e)).bind (DataW.trod enc P w 0 (fun _ => true) true n e) = some y → y ∈ elems ++ rest → ∃ cs' y, w.cells? 0 (a.add (i * P.cellsOf e)) (P.cellsOf e) = some cs' ∧ DataW.trod enc P w 0 (fun _ => true) true n e cs' = some y ∧ sm y.1 := by
            intro y hy hmem; obtain ⟨cs', h1, h2⟩ := Option.bind_eq_some_iff.1 hy; refine ⟨cs', y, h1, h2, hsm _ ?_⟩; rw [← List.map_append]; exact List.mem_map.2 ⟨y, hmem, rfl⟩
          by_cases hi2 : i < len
          · have := he i hi2; rw [List.getElem?_eq_getElem (by omega)] at this; exact key _ this (List.mem_append.2 (.inl (List.getElem_mem _)))
          · have := hr (i - len) (by omega); rw [List.getElem?_eq_getElem (by omega), show len + (i - len) = i by omega] at this; exact key _ this (List.mem_append.2 (.inr (List.getElem_mem _)))
        rcases Nat.eq_zero_or_pos cap with rfl | hpos
        · obtain ⟨hsp, cc, ty, fr, hbk⟩ := hz0 rfl; have hlt := (Array.getElem?_eq_some_iff.1 hbk).1; have hl' := hl.push (l := []) (p := ⟨a.block, 0, 0, cc.size⟩) (by rw [hbase]; exact hlt) hlt rfl (by simp) hbk rfl ⟨by simp, .nil, by simp [OneC]⟩; have hple : PLe φ (fun b => if b = K then some ⟨a.block, 0, 0, cc.size⟩ else φ b) := by
            intro b q hq; by_cases hbK : b = K
            · subst hbK; rw [(hl.top b (Nat.le_refl _)).2] at hq; cases hq
            · simp only [hbK, if_false]; exact hq
          have hl0 : len = 0 := by omega
          subst hl0; refine ⟨K + 1, _, _, [.slice (some ⟨K, 0, none⟩) 0 0], ⟨by omega, hl', fun b hb => if_neg (by omega), hple⟩, ⟨.cons ?_ .nil, ?_, by simp [OneC, Value.oneCell'], ?_⟩⟩
          · cases a with
            | mk ab ao asp =>
              simp only at hsp; subst hsp; exact .slice K 0 0 0 ao 0 ⟨ab, 0, 0, cc.size⟩ (if_pos rfl) (Nat.le_refl _) (Nat.le_refl _) (fun h => by simp at h) (fun _ => rfl) (fun h => absurd rfl h)
          · simp only [WT, hu]; exact .inr ⟨K, 0, 0, [], rfl, by omega, by omega, if_pos rfl, by simp, fun i hi => by omega⟩
          · intro v hv; simp at hv; subst hv; exact hlow K 0 0 0
        obtain ⟨cs0, y0, hc0, _, _⟩ := hall 0 hpos; obtain ⟨hsp, hlt, cc, ty, fr, hbk, _, _⟩ := cells_slab hc0 hp.1.2; have hadd0 : a.add (0 * P.cellsOf e) = a := by rw [Nat.zero_mul]; rfl
        rw [hadd0] at hsp hlt hbk; have hcell : ∀ i, i < cap → a.off + i * P.cellsOf e + P.cellsOf e ≤ cc.size ∧ w.cells? 0 (a.add (i * P.cellsOf e)) (P.cellsOf e) = some ((cc.toList.drop (a.off + i * P.cellsOf e)).take (P.cellsOf e)) ∧
            ∃ y, DataW.trod enc P w 0 (fun _ => true) true n e ((cc.toList.drop (a.off + i * P.cellsOf e)).take (P.cellsOf e)) = some y ∧ sm y.1 := by
          intro i hi; obtain ⟨cs', y, h1, h2, h3⟩ := hall i hi; obtain ⟨_, _, cc', ty', fr', hb2, h5, h6⟩ := cells_slab h1 hp.1.2; have hadd : (a.add (i * P.cellsOf e)).block = a.block ∧ (a.add (i * P.cellsOf e)).off = a.off + i * P.cellsOf e := by
            unfold Addr.add; by_cases h0 : i * P.cellsOf e = 0
            · rw [if_pos h0, h0]; exact ⟨rfl, rfl⟩
            · rw [if_neg h0]; exact ⟨rfl, rfl⟩
          rw [hadd.1, hbk] at hb2; cases hb2; rw [hadd.2] at h5 h6; subst h6; exact ⟨h5, h1, y, h2, h3⟩
        have hroom : a.off + cap * P.cellsOf e ≤ cc.size := by
          have := (hcell (cap - 1) (by omega)).1; obtain ⟨c, rfl⟩ : ∃ c, cap = c + 1 := ⟨cap - 1, by omega⟩
          rw [Nat.succ_mul]; simp at this; omega
        obtain ⟨K', G', φ', as, st, hal, hst⟩ := lay_items (P := P) (n := n) ih ((List.range cap).map fun i => (e, (cc.toList.drop (a.off + i * P.cellsOf e)).take (P.cellsOf e))) (by
          intro it hit; obtain ⟨i, hi, rfl⟩ := List.mem_map.1 hit; simp only [List.mem_range] at hi; exact ⟨hp.2, hz1 i _ hi (hcell i hi).2.1, (hcell i hi).2.2⟩) K G φ hl
        have hal' : as.length = cap := by simpa using hal
        have hsz : ∀ (i : Nat) (x : List Value), as[i]? = some x → LR φ' x ((cc.toList.drop (a.off + i * P.cellsOf e)).take (P.cellsOf e)) ∧ WT P G' n e x ∧ OneC x ∧ (∀ v ∈ x, Low K' v) ∧ x.length = P.cellsOf e := by
          intro i x hxi; have hi : i < cap := by have := (List.getElem?_eq_some_iff.1 hxi).1; omega
          have hS := hst i (e, (cc.toList.drop (a.off + i * P.cellsOf e)).take (P.cellsOf e)) x (by simp [hi]) hxi; obtain ⟨y, hy, _⟩ := (hcell i hi).2.2; exact ⟨hS.lr, hS.wt, hS.one, hS.low, by rw [hS.lr.length]; exact trod_len hp.2 hy⟩
        have hc : ∀ x ∈ as, x.length = P.cellsOf e := fun x hx => by
          obtain ⟨i, hi⟩ := List.mem_iff_getElem?.1 hx; exact (hsz i x hi).2.2.2.2
        have hflen : as.flatten.length = cap * P.cellsOf e := by rw [flatten_length_const as hc, hal']
        have hfl : ((List.range cap).map fun i => (cc.toList.drop (a.off + i * P.cellsOf e)).take (P.cellsOf e)).flatten = (cc.toList.drop a.off).take (cap * P.cellsOf e) := by
          have := flatten_rows (s := P.cellsOf e) (cc.toList.drop a.off) cap (by simp; omega); simp only [List.drop_drop] at this; exact this
        have hlr : LR φ' as.flatten ((cc.toList.drop a.off).take (cap * P.cellsOf e)) := by
          rw [← hfl]; refine LR_flatten _ _ (by simpa using hal') fun i x b hxi hb => ?_; have hi : i < cap := by have := (List.getElem?_eq_some_iff.1 hxi).1; omega
          simp [hi] at hb; subst hb; exact (hsz i x hxi).1
        have hl1 := st.laid; have hl2 := hl1.push (l := as.flatten) (p := ⟨a.block, a.off, 0, cc.size⟩) (by rw [hbase]; exact hlt) hlt rfl (by
          intro v hv; obtain ⟨x, hx, hv⟩ := List.mem_flatten.1 hv; obtain ⟨i, hi⟩ := List.mem_iff_getElem?.1 hx; exact (hsz i _ hi).2.2.2.1 v hv) hbk rfl ⟨by rw [hflen]; exact hroom, by rw [hflen]; exact hlr, by
          intro v hv; obtain ⟨x, hx, hv⟩ := List.mem_flatten.1 hv; obtain ⟨i, hi⟩ := List.mem_iff_getElem?.1 hx; exact (hsz i _ hi).2.2.1 v hv⟩
        have hple : PLe φ' (fun b => if b = K' then some ⟨a.block, a.off, 0, cc.size⟩ else φ' b) := by
          intro b q hq; by_cases hbK : b = K'
          · subst hbK; rw [(hl1.top b (Nat.le_refl _)).2] at hq; cases hq
          · simp only [hbK, if_false]; exact hq
        have st2 : LStep w base K' G' φ' (K' + 1) _ _ := ⟨by omega, hl2, fun b hb => if_neg (by omega), hple⟩
        refine ⟨K' + 1, _, _, [.slice (some ⟨K', 0, none⟩) len cap], st.trans st2, ⟨.cons ?_ .nil, ?_, by simp [OneC, Value.oneCell'], ?_⟩⟩
        · cases a with
          | mk ab ao asp =>
            simp only at hsp; subst hsp; exact .slice K' 0 len cap ao cap ⟨ab, ao, 0, cc.size⟩ (if_pos rfl) hlc (Nat.le_refl _) (fun _ => rfl) (fun _ => rfl) (fun h => absurd rfl h)
        · simp only [WT, hu]; refine .inr ⟨K', len, cap, as.flatten, rfl, hlc, by omega, if_pos rfl, hflen, fun i hi => ?_⟩; have hia : i < as.length := by omega
          have ha : as[i]? = some as[i] := List.getElem?_eq_getElem hia; have := flat_part as i _ ha; rw [pre_const as i hc (by omega), (hsz i _ ha).2.2.2.2] at this; rw [this]; exact (hsz i _ ha).2.1.mono (st2.G hl1)
        · intro v hv; simp at hv; subst hv; exact hlow K' 0 len cap
      | _ => simp [plainT, hu] at hp
end Go.Abs
