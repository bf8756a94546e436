/- A part of the proof that TopAnewTrack returns true at every input of bulk at most 1048576: calls answered ahead. -/
import Derived.Test.YtliohlkclfcigaaAbsHb
import Derived.Test.YtliohlkclfcigaaAbsU
set_option linter.unusedVariables false
set_option linter.unusedSimpArgs false
namespace Go.Abs
open Go.RowKit (Below)
variable {P : Program} {O : Orc}
theorem calls_of_sim (hS : ∀ n, SimCall P O n) {n : Nat} {f : FuncId} {args : List Value} {W W' : AW} {v : Value} {wr : List Nat} (h : ev P O n (.call f args none W) = some (.call (.returned v) none W' wr)) (hwf : W.wf)
    {φ : Phi} {base : Nat} {H : Nat → Blk} {w : World} {args' : Array Value} (hr : Rel φ base H w) (hd : Dom φ H W) (hf : Fresh φ W.next W'.next) (ha : LR φ args args'.toList) :
    Calls P f args' w fun e w' => ∃ φ' v', e = .returned v' ∧ VR φ' v v' ∧ Out φ φ' base H W W' wr w w' := by
  intro cs; obtain ⟨φ', w', fr, cs', h1, h2, h3, h4, v', h5, h6, h7, h8, fn, h9, h10⟩ := hS n f args none W (.returned v) none W' wr h hwf φ base H w args' .normal cs hr hd hf ha (.inl rfl) (.inl rfl); obtain ⟨_, rfl⟩ := h2.none_inv; exact ⟨.returned v', w', fr, ⟨φ', v', rfl, h5, h1⟩, h3, h4, h6, h7, h8, fn, h9, h10⟩
def scalar0 : Value → Bool
  | .bool _ | .int .. | .string _ => true
  | _ => false
def scalar1 : Value → Bool
  | .agg cs => cs.all scalar0
  | v => scalar0 v
def scalar : Value → Bool
  | .tuple cs => cs.all scalar1
  | v => scalar1 v
theorem arr_eq {cs cs' : Array Value} (hs : cs.size = cs'.size) (h : ∀ i (h : i < cs.size) (h' : i < cs'.size), cs'[i] = cs[i]) : cs' = cs := by
  apply Array.ext hs.symm; intro i h1 h2; exact h i h2 h1
theorem scalar0_eq {φ : Phi} {v v' : Value} (h : VR φ v v') (hs : scalar0 v = true) : v' = v := by
  cases h <;> first | rfl | (simp [scalar0] at hs)
theorem scalar1_eq {φ : Phi} {v v' : Value} (h : VR φ v v') (hs : scalar1 v = true) : v' = v := by
  cases h with
  | agg cs cs' he h h1 =>
    simp only [scalar1, Array.all_eq_true] at hs; rw [arr_eq he fun i hi hi' => scalar0_eq (h i hi hi') (hs i hi)]
  | bool b => rfl
  | int k n => rfl
  | string s => rfl
  | _ => simp [scalar1, scalar0] at hs
theorem scalar_eq {φ : Phi} {v v' : Value} (h : VR φ v v') (hs : scalar v = true) : v' = v := by
  cases h with
  | tuple cs cs' he h =>
    simp only [scalar, Array.all_eq_true] at hs; rw [arr_eq he fun i hi hi' => scalar1_eq (h i hi hi') (hs i hi)]
  | agg cs cs' he h h1 => exact scalar1_eq (.agg cs cs' he h h1) hs
  | bool b => rfl
  | int k n => rfl
  | string s => rfl
  | _ => simp [scalar, scalar1, scalar0] at hs
theorem scalar0_VR {φ : Phi} {v : Value} (hs : scalar0 v = true) : VR φ v v ∧ v.oneCell' = true := by
  cases v <;> simp [scalar0] at hs
  · exact ⟨.bool _, rfl⟩
  · exact ⟨.int _ _, rfl⟩
  · exact ⟨.string _, rfl⟩
theorem scalar1_VR {φ : Phi} {v : Value} (hs : scalar1 v = true) : VR φ v v := by
  cases v with
  | agg cs =>
    simp only [scalar1, Array.all_eq_true] at hs; exact .agg _ _ rfl (fun i hi _ => (scalar0_VR (hs i hi)).1) (fun i hi => (scalar0_VR (φ := φ) (hs i hi)).2)
  | bool b => exact .bool b
  | int k n => exact .int k n
  | string s => exact .string s
  | _ => simp [scalar1, scalar0] at hs
theorem scalar_VR {φ : Phi} {v : Value} (hs : scalar v = true) : VR φ v v := by
  cases v with
  | tuple cs =>
    simp only [scalar, Array.all_eq_true] at hs; exact .tuple _ _ rfl fun i hi _ => scalar1_VR (hs i hi)
  | agg cs => exact scalar1_VR hs
  | bool b => exact .bool b
  | int k n => exact .int k n
  | string s => exact .string s
  | _ => simp [scalar, scalar1, scalar0] at hs
end Go.Abs
namespace Go.Abs
open Go.RowKit (Below)
open Classical
variable {P : Program}
def cutP (φ : Phi) (K : Nat) : Phi := fun b => if b < K then φ b else none
theorem cutP_le (φ : Phi) (K : Nat) : PLe (cutP φ K) φ := by
  intro b p h; unfold cutP at h; by_cases hb : b < K
  · rw [if_pos hb] at h; exact h
  · rw [if_neg hb] at h; cases h
theorem cutP_lt {φ : Phi} {K b : Nat} {p : PB} (h : cutP φ K b = some p) : b < K := by
  unfold cutP at h; by_cases hb : b < K
  · exact hb
  · rw [if_neg hb] at h; cases h
def Low (K : Nat) (v : Value) : Prop := ∀ φ v', VR φ v v' → VR (cutP φ K) v v'
theorem LR_low {K : Nat} {φ : Phi} {l l' : List Value} (h : LR φ l l') (hl : ∀ v ∈ l, Low K v) : LR (cutP φ K) l l' := by
  induction h with
  | nil => exact .nil
  | cons hv t ih => exact .cons (hl _ (by simp) _ _ hv) (ih fun v hv => hl v (by simp [hv]))
end Go.Abs
namespace Go.Abs
open Go.RowKit (Below)
variable {P : Program}
def data0 : Value → Bool
  | .bool _ | .int .. | .string _ | .pointer none | .slice none _ _ | .map none | .nilFunc | .nilIface => true
  | .pointer (some ⟨_, _, none⟩) | .slice (some ⟨_, _, none⟩) _ _ | .map (some _) => true
  | _ => false
def ren0 (g : Nat → Nat) : Value → Value
  | .pointer (some ⟨b, o, e⟩) => .pointer (some ⟨g b, o, e⟩)
  | .slice (some ⟨b, o, e⟩) n c => .slice (some ⟨g b, o, e⟩) n c
  | .map (some r) => .map (some (g r))
  | v => v
def data1 : Value → Bool
  | .agg cs => cs.all data0
  | v => data0 v
def ren1 (g : Nat → Nat) : Value → Value
  | .agg cs => .agg (cs.map (ren0 g))
  | v => ren0 g v
def dataV : Value → Bool
  | .tuple cs => cs.all data1
  | v => data1 v
def renV (g : Nat → Nat) : Value → Value
  | .tuple cs => .tuple (cs.map (ren1 g))
  | v => ren1 g v
def renB (g : Nat → Nat) : Blk → Blk
  | .cells own gr cs => if cs.all data0 then .cells own gr (cs.map (ren0 g)) else .none
  | _ => .none
def Moved (g : Nat → Nat) (φ φ' : Phi) : Prop := ∀ b p, φ b = some p → φ' (g b) = some p
theorem VR.ren0 {g : Nat → Nat} {φ φ' : Phi} (hm : Moved g φ φ') {v v' : Value} (h : VR φ v v') (hd : data0 v = true) : VR φ' (ren0 g v) v' := by
  cases h with
  | bool b => exact .bool b
  | int k n => exact .int k n
  | string s => exact .string s
  | nilPtr => exact .nilPtr
  | ptr b o p h => exact .ptr (g b) o p (hm b p h)
  | nilSlice => exact .nilSlice
  | slice b o n c o' c' p h hn hc ho hx hg => exact .slice (g b) o n c o' c' p (hm b p h) hn hc ho hx hg
  | nilMap => exact .nilMap
  | map r p h => exact .map (g r) p (hm r p h)
  | nilFunc => exact .nilFunc
  | nilIface => exact .nilIface
  | _ => simp [data0] at hd
theorem ren0_oneCell {g : Nat → Nat} {v : Value} : (Abs.ren0 g v).oneCell' = v.oneCell' := by
  unfold Abs.ren0; split <;> rfl
theorem LR.ren0 {g : Nat → Nat} {φ φ' : Phi} (hm : Moved g φ φ') {l l' : List Value} (h : LR φ l l') (hd : l.all data0 = true) : LR φ' (l.map (Abs.ren0 g)) l' := by
  induction h with
  | nil => exact .nil
  | cons hv t ih =>
    simp only [List.all_cons, Bool.and_eq_true] at hd; exact .cons (hv.ren0 hm hd.1) (ih hd.2)
theorem VR.ren1 {g : Nat → Nat} {φ φ' : Phi} (hm : Moved g φ φ') {v v' : Value} (h : VR φ v v') (hd : data1 v = true) : VR φ' (Abs.ren1 g v) v' := by
  cases h with
  | agg cs cs' hs h h1 =>
    simp only [data1, Array.all_eq_true] at hd; refine .agg _ _ (by simpa using hs) (fun i hi hi' => ?_) (fun i hi => ?_)
    · simp only [Array.getElem_map]; exact (h i (by simpa using hi) hi').ren0 hm (hd i (by simpa using hi))
    · simp only [Array.getElem_map, ren0_oneCell]; exact h1 i (by simpa using hi)
  | bool b => exact .bool b
  | int k n => exact .int k n
  | string s => exact .string s
  | nilPtr => exact .nilPtr
  | ptr b o p h => exact .ptr (g b) o p (hm b p h)
  | nilSlice => exact .nilSlice
  | slice b o n c o' c' p h hn hc ho hx hg => exact .slice (g b) o n c o' c' p (hm b p h) hn hc ho hx hg
  | nilMap => exact .nilMap
  | map r p h => exact .map (g r) p (hm r p h)
  | nilFunc => exact .nilFunc
  | nilIface => exact .nilIface
  | _ => simp [data1, data0] at hd
theorem VR.renV {g : Nat → Nat} {φ φ' : Phi} (hm : Moved g φ φ') {v v' : Value} (h : VR φ v v') (hd : dataV v = true) : VR φ' (Abs.renV g v) v' := by
  by_cases ht : ∃ cs, v = .tuple cs
  · obtain ⟨cs, rfl⟩ := ht; cases h with
    | tuple _ cs' hs h =>
      simp only [dataV, Array.all_eq_true] at hd; refine .tuple _ _ (by simpa using hs) (fun i hi hi' => ?_); simp only [Array.getElem_map]; exact (h i (by simpa using hi) hi').ren1 hm (hd i (by simpa using hi))
  · have e1 : dataV v = data1 v := by cases v <;> first | rfl | exact absurd ⟨_, rfl⟩ ht
    have e2 : Abs.renV g v = Abs.ren1 g v := by cases v <;> first | rfl | exact absurd ⟨_, rfl⟩ ht
    rw [e2]; exact h.ren1 hm (e1 ▸ hd)
def mv (K N : Nat) (b : Nat) : Nat := if b < K then b else b - K + N
def glue (K : Nat) (W V : AW) : AW := ⟨W.next + (V.next - K), fun b => if b < W.next then W.get b else if b < W.next + (V.next - K) then renB (mv K W.next) (V.get (b - W.next + K)) else .none⟩
theorem glue_wf {K : Nat} {W V : AW} : (glue K W V).wf := by
  intro b hb; simp only [glue] at hb ⊢; rw [if_neg (by omega), if_neg (by omega)]
theorem glue_fr {K : Nat} {W V : AW} : AFr W (glue K W V) [] :=
  ⟨by simp [glue], fun b hb _ => by simp only [glue]; rw [if_pos hb], fun b hb => by simp at hb⟩
def IsoRunM (P : Program) (K : Nat) (G : Nat → Blk) (f : FuncId) (args : List Value) (r : Value × AW) : Prop :=
  ∃ n wr, ev P noO n (.call f args none ⟨K, G⟩) = some (.call (.returned r.1) none r.2 wr) ∧ (∀ b ∈ wr, K ≤ b) ∧ dataV r.1 = true
def isoOkM (P : Program) (F : FuncId → Bool) (K : Nat) (G : Nat → Blk) (f : FuncId) (args : List Value) (W : AW) : Prop :=
  F f = true ∧ K ≤ W.next ∧ (∀ b, b < K → W.get b = G b) ∧ (∀ b, b < K → ∃ g cs, G b = .cells false g cs ∧ ∀ v ∈ cs, Low K v) ∧ (∀ b, K ≤ b → G b = .none) ∧ (∀ v ∈ args, Low K v) ∧ ∃ r, IsoRunM P K G f args r
open Classical in
noncomputable def orcM (P : Program) (F : FuncId → Bool) (K : Nat) (G : Nat → Blk) : Orc where
  run f args W := if h : isoOkM P F K G f args W then
    some (let r := Classical.choose h.2.2.2.2.2.2; if scalar r.1 = true then (r.1, W) else (renV (mv K W.next) r.1, glue K W r.2)) else none
  good f args W v W' h hwf := by
    split at h
    · rename_i hok; simp only [Option.some.injEq] at h; split at h
      · cases h; exact ⟨hwf, AFr.refl W⟩
      · cases h; exact ⟨glue_wf, glue_fr⟩
    · cases h
theorem iso_core (hS : ∀ n, SimCall P noO n) {K : Nat} {G : Nat → Blk} {n : Nat} {f : FuncId} {args : List Value} {W V : AW} {v : Value} {wr : List Nat} (hev : ev P noO n (.call f args none ⟨K, G⟩) = some (.call (.returned v) none V wr))
    (hKW : K ≤ W.next) (hG : ∀ b, b < K → W.get b = G b) (hro : ∀ b, b < K → ∃ g cs, G b = .cells false g cs ∧ ∀ v ∈ cs, Low K v) (hG0 : ∀ b, K ≤ b → G b = .none) (hlow : ∀ v ∈ args, Low K v)
    {φ : Phi} {base : Nat} {H : Nat → Blk} {w : World} {args' : Array Value} {kind : CallKind} {cs : List Frame} (hr : Rel φ base H w) (hd : Dom φ H W) (ha : LR φ args args'.toList) (hK : KindOk φ kind cs none) (hkind : kind = .normal ∨ kind = .deferred) :
    ∃ φ1 w1 fr v', Out (cutP φ K) φ1 base H ⟨K, G⟩ V wr w w1 ∧ Steps P (lone (Frame.enter P f args' kind) cs w) (lone fr cs w1) ∧ fr.fn = f ∧ VR φ1 v v' ∧
      (fr.mode = .returning ∧ fr.defers = [] ∧ fr.kind = kind ∧ ∃ fn, P.funcs[fr.fn]? = some fn ∧ (results fn fr.tmps).run P w1 = .ok v' w1) ∧
      (∀ b p, φ b = some p → w1.heap[p.blk]? = w.heap[p.blk]?) ∧ ∀ b p, cutP φ K b = some p → p.blk < base := by
  have hwf0 : (⟨K, G⟩ : AW).wf := fun b hb => hG0 b hb; have hle := cutP_le φ K; have hH : ∀ b p, cutP φ K b = some p → ∃ g cs', H b = .cells false g cs' ∧ ∀ v ∈ cs', Low K v := by
    intro b p hb; have hlt := cutP_lt hb; obtain ⟨g, cs', hg, hl⟩ := hro b hlt; exact ⟨g, cs', by rw [hd b p (hle b p hb) (by omega), hG b hlt, hg], hl⟩
  have hr0 : Rel (cutP φ K) base H w := by
    refine ⟨fun b p hb => ?_, fun b b' p p' hb hb' hne hp hw => hr.inj b b' p p' (hle b p hb) (hle b' p' hb') hne hp hw, hr.size, fun b p hb => hr.lt b p (hle b p hb)⟩; have hag := hr.agree b p (hle b p hb); obtain ⟨g, cs', hHb, hl⟩ := hH b p hb; rw [hHb] at hag ⊢; obtain ⟨h0, cc, ty, fr, h1, h2, ⟨h3, h4, h5⟩, h6⟩ := hag; exact ⟨h0, cc, ty, fr, h1, h2, ⟨h3, LR_low h4 hl, h5⟩, h6⟩
  have hd0 : Dom (cutP φ K) H ⟨K, G⟩ := by
    intro b p hb hlt; show H b = G b; rw [hd b p (hle b p hb) (by have := cutP_lt hb; omega), hG b (cutP_lt hb)]
  have hf0 : Fresh (cutP φ K) K V.next := by
    intro b hb _; unfold cutP; rw [if_neg (by omega)]
  have hbl : ∀ b p, cutP φ K b = some p → p.blk < base := by
    intro b' p' hb'; obtain ⟨g, cs', hHb, _⟩ := hH b' p' hb'; have hag := hr.agree b' p' (hle b' p' hb'); rw [hHb] at hag; obtain ⟨_, cc, ty, fr, _, _, _, h6⟩ := hag; exact h6.2 rfl
  obtain ⟨φ1, w1, fr, cs1, q1, q2, q3, q4, v', q5, q6⟩ := hS n f args none ⟨K, G⟩ (.returned v) none V wr hev hwf0 (cutP φ K) base H w args' kind cs hr0 hd0 hf0 (LR_low ha hlow) hK hkind; obtain ⟨_, rfl⟩ := q2.none_inv; refine ⟨φ1, w1, fr, v', q1, q3, q4, q5, q6, fun b p hb => ?_, hbl⟩; by_cases hbase : p.blk < base
  · exact q1.keeps.below.block _ hbase
  · exact q1.keeps.other _ (hr.lt b p hb) fun b' p' hb' e => by have := hbl b' p' hb'; omega
theorem Agree.ren {g : Nat → Nat} {φ φ' : Phi} (hm : Moved g φ φ') {base : Nat} {w : World} {x : Blk} {p : PB} (h : Agree φ base w x p) : Agree φ' base w (renB g x) p := by
  cases x with
  | cells own gr cs =>
    by_cases hd : cs.all data0 = true
    · simp only [renB, hd, if_true]; obtain ⟨h0, cc, ty, fr, h1, h2, ⟨h3, h4, h5⟩, h6⟩ := h; refine ⟨h0, cc, ty, fr, h1, h2, ⟨by simpa using h3, by simpa using h4.ren0 hm hd, fun v hv => ?_⟩, h6⟩; obtain ⟨u, hu, rfl⟩ := List.mem_map.1 hv; rw [ren0_oneCell]; exact h5 u hu
    · simp only [renB, hd, if_false]; trivial
  | _ => trivial
theorem renB_writable {g : Nat → Nat} {x : Blk} (h : Writable (renB g x)) : Writable x := by
  cases x with
  | cells own gr cs =>
    by_cases hd : cs.all data0 = true
    · simp only [renB, hd, if_true] at h; cases own <;> first | exact h | trivial
    · simp only [renB, hd, if_false] at h; exact h.elim
  | _ => exact h.elim
theorem renB_live {g : Nat → Nat} {x : Blk} (h : Live (renB g x)) : Live x := by
  cases x with
  | cells own gr cs => trivial
  | _ => exact h.elim
theorem Agree.writable_base {φ : Phi} {base : Nat} {w : World} {x : Blk} {p : PB} (h : Agree φ base w x p) (hw : Writable x) : base ≤ p.blk := by
  cases x with
  | none => exact hw.elim
  | gone => exact hw.elim
  | cells own gr cs =>
    cases own with
    | false => exact hw.elim
    | true => obtain ⟨_, cc, ty, fr, _, _, _, h6⟩ := h; exact (h6.1 rfl).2
  | map es c => obtain ⟨_, _, _, h3⟩ := h; exact h3
  | loop st pend sz env ps asg body => obtain ⟨r, _, _, _, _, _, _, _, _, _, _, h⟩ := h; exact h
theorem osim_M (hS : ∀ n, SimCall P noO n) (F : FuncId → Bool) (K : Nat) (G : Nat → Blk) : OSim P (orcM P F K G) := by
  intro f args W v W' h hwf fn body hfn hbody φ base H w args' kind cs hr hd hf ha hK hkind; simp only [orcM] at h; split at h
  case isFalse => cases h
  rename_i hok; have hsp := Classical.choose_spec hok.2.2.2.2.2.2; obtain ⟨_, hKW, hG, hro, hG0, hlow, _⟩ := hok; generalize Classical.choose _ = r at h hsp; obtain ⟨n, wr, hev, hwr, hdat⟩ := hsp; obtain ⟨φ1, w1, fr, v', q1, q3, q4, q5, q6, unch, hbl⟩ := iso_core (cs := cs) hS hev hKW hG hro hG0 hlow hr hd ha hK hkind; have hle := cutP_le φ K; have hkeep : Keeps φ base w w1 := ⟨q1.keeps.below, fun C hC hn => q1.keeps.other C hC fun b p hb => hn b p (hle b p hb)⟩
  simp only [Option.some.injEq] at h; split at h
  · rename_i hsc; cases h; have hv := scalar_eq q5 hsc; subst hv; refine ⟨φ, w1, fr, ⟨Ext.refl _ _ _ _, ?_, hkeep⟩, q3, q4, r.1, scalar_VR hsc, q6⟩; rw [ovl_self]; exact ⟨fun b p hb => (hr.agree b p hb).of_block (unch b p hb), hr.inj, Nat.le_trans hr.size q1.keeps.below.size, fun b p hb => Nat.lt_of_lt_of_le (hr.lt b p hb) q1.keeps.below.size⟩
  · cases h; have hnx : K ≤ r.2.next := (ev_good P noO n _ _ hev (fun b hb => hG0 b hb)).2.next
    let R : Nat → Prop := fun b => W.next ≤ b ∧ b < W.next + (r.2.next - K)
    have hfr : ∀ b, R b → φ b = none := fun b hb => hf b hb.1 hb.2; let φ' : Phi := fun b => if W.next ≤ b ∧ b < W.next + (r.2.next - K) then φ1 (b - W.next + K) else φ b
    have hin : ∀ b, R b → φ' b = φ1 (b - W.next + K) := fun b hb => if_pos hb; have hout : ∀ b, ¬ R b → φ' b = φ b := fun b hb => if_neg hb; have hcut : ∀ b, K ≤ b → cutP φ K b = none := fun b hb => if_neg (by omega); have hm : Moved (mv K W.next) φ1 φ' := by
      intro b p hb; unfold mv; by_cases hbk : b < K
      · rw [if_pos hbk, hout b (fun hR => by have := hR.1; omega)]; cases hc : cutP φ K b with
        | some q => have := q1.ext.le _ _ hc; rw [hb] at this; cases this; exact hle b p hc
        | none => have := (q1.ext.new b p hb hc).1; have : K ≤ b := this; omega
      · rw [if_neg hbk]; have := (q1.ext.new b p hb (hcut b (by omega))).2.1; rw [hin _ ⟨by omega, by omega⟩, show b - K + W.next - W.next + K = b by omega]; exact hb
    have hnew : ∀ b p, R b → φ' b = some p → K ≤ b - W.next + K ∧ b - W.next + K < r.2.next ∧ φ1 (b - W.next + K) = some p ∧ (w.heap.size ≤ p.blk ∨ p.blk < base) := by
      intro b p hb hbp; rw [hin b hb] at hbp; obtain ⟨h1, h2, h3⟩ := q1.ext.new _ p hbp (hcut _ (by omega)); refine ⟨h1, h2, hbp, ?_⟩; rcases h3 with h3 | ⟨b0, p0, h4, h5⟩
      · exact .inl h3
      · exact .inr (by have := hbl b0 p0 h4; omega)
    have hpl : PLe φ φ' := by
      intro b p hb; rw [hout b (fun hR => by rw [hfr b hR] at hb; cases hb)]; exact hb
    have hov : ∀ b, (R b → ovl H (glue K W r.2).get W.next (glue K W r.2).next [] b = renB (mv K W.next) (r.2.get (b - W.next + K))) ∧ (¬ R b → ovl H (glue K W r.2).get W.next (glue K W r.2).next [] b = H b) := by
      intro b; constructor
      · intro hb; obtain ⟨hb1, hb2⟩ := hb; have hb3 : ¬ b < W.next := by omega
        simp [ovl, glue, hb1, hb2, hb3]
      · intro hb; have hb' : ¬ (W.next ≤ b ∧ b < W.next + (r.2.next - K)) := hb; simp only [ovl, glue, List.not_mem_nil, or_false]; rw [if_neg hb']
    have hov1 : ∀ c, K ≤ c → c < r.2.next → ovl H r.2.get K r.2.next wr c = r.2.get c := fun c h1 h2 => by simp only [ovl]; rw [if_pos (.inl ⟨h1, h2⟩)]
    refine ⟨φ', w1, fr, ⟨⟨hpl, fun b p hb h0 => ?_⟩, ⟨fun b p hb => ?_, fun b b' p p' hb hb' hne hbk hw => ?_, Nat.le_trans hr.size q1.keeps.below.size, fun b p hb => ?_⟩, hkeep⟩, q3, q4, v', q5.renV hm hdat, q6⟩
    · have hR : R b := Classical.byContradiction fun hn => by rw [hout b hn, h0] at hb; cases hb
      refine ⟨hR.1, hR.2, ?_⟩; rw [hin b hR] at hb; obtain ⟨_, _, h3⟩ := q1.ext.new _ p hb (hcut _ (by omega)); rcases h3 with h3 | ⟨b0, p0, h4, h5⟩
      · exact .inl h3
      · exact .inr ⟨b0, p0, hle b0 p0 h4, h5⟩
    · by_cases hR : R b
      · obtain ⟨h1, h2, h3, _⟩ := hnew b p hR hb; rw [(hov b).1 hR]; have := q1.rel.agree _ p h3; rw [hov1 _ h1 h2] at this; exact this.ren hm
      · rw [hout b hR] at hb; rw [(hov b).2 hR]; exact ((hr.agree b p hb).of_block (unch b p hb)).mono hpl
    · by_cases hR : R b
      · obtain ⟨h1, h2, h3, h4⟩ := hnew b p hR hb; rw [(hov b).1 hR] at hw; have hag := q1.rel.agree _ p h3; rw [hov1 _ h1 h2] at hag; have hbase := hag.writable_base (renB_writable hw); by_cases hR' : R b'
        · obtain ⟨k1, k2, k3, k4⟩ := hnew b' p' hR' hb'; rw [(hov b').1 hR']; intro hl; have hne' : b - W.next + K ≠ b' - W.next + K := by have := hR.1; have := hR'.1; omega
          refine q1.rel.inj _ _ p p' h3 k3 hne' hbk ?_ ?_
          · rw [hov1 _ h1 h2]; exact renB_writable hw
          · rw [hov1 _ k1 k2]; exact renB_live hl
        · rw [hout b' hR'] at hb'; have := hr.lt b' p' hb'; rcases h4 with h4 | h4 <;> omega
      · rw [hout b hR] at hb; rw [(hov b).2 hR] at hw; have hbase := (hr.agree b p hb).writable_base hw; by_cases hR' : R b'
        · obtain ⟨k1, k2, k3, k4⟩ := hnew b' p' hR' hb'; have := hr.lt b p hb; rcases k4 with k4 | k4 <;> omega
        · rw [hout b' hR'] at hb'; rw [(hov b').2 hR']; exact hr.inj b b' p p' hb hb' hne hbk hw
    · by_cases hR : R b
      · rw [hin b hR] at hb; exact q1.rel.lt _ p hb
      · rw [hout b hR] at hb; exact Nat.lt_of_lt_of_le (hr.lt b p hb) q1.keeps.below.size
end Go.Abs
