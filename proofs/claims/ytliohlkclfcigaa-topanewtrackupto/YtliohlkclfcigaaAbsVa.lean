/- A part of the proof that TopAnewTrack returns true at every input of bulk at most 1048576: typed heaps and the rules of walks. -/
import Derived.Test.YtliohlkclfcigaaAbsU
import Derived.Test.YtliohlkclfcigaaAbsI
set_option linter.unusedVariables false
set_option linter.unusedSimpArgs false
namespace Go.Abs
variable {P : Program} {O : Orc}
inductive VT where
  | int (k : IntKind) (lo hi : Int)
  | bool
  | str
  | ex (v : Value)
  | fns (l : List FuncId)
  | clo (f : FuncId) (rows : List (List VT))
  | pin (b : Nat) (row : List VT)
  | slice (e : List VT)
  | ptr (row : List VT)
  | map (ka : Bool) (k : List VT) (ea : Bool) (e : List VT)
inductive BT where
  | ro (l : List Value)
  | cells (tys : List VT) (g : Nat)
  | map (ka : Bool) (k : List VT) (ea : Bool) (e : List VT)
abbrev Sg := Nat → Option BT
def POk (S : Sg) (row : List VT) (v : Value) : Prop := ∃ b o tys g, v = .pointer (some ⟨b, o, none⟩) ∧ S b = some (.cells tys g) ∧ (tys.drop o).take row.length = row
def PsOk (S : Sg) : List (List VT) → List Value → Prop
  | [], [] => True
  | r :: rs, v :: vs => POk S r v ∧ PsOk S rs vs
  | _, _ => False
theorem PsOk.inv {S : Sg} {r : List VT} {rs : List (List VT)} {cs : List Value} (h : PsOk S (r :: rs) cs) : ∃ v l, cs = v :: l ∧ POk S r v ∧ PsOk S rs l := by
  cases cs with
  | nil => exact h.elim
  | cons v l => exact ⟨v, l, rfl, h.1, h.2⟩
theorem PsOk.nil_inv {S : Sg} {cs : List Value} (h : PsOk S [] cs) : cs = [] := by
  cases cs with
  | nil => rfl
  | cons v l => exact h.elim
def VOk (S : Sg) : VT → Value → Prop
  | .int k lo hi, v => ∃ n, v = .int k n ∧ lo ≤ n ∧ n ≤ hi
  | .bool, v => ∃ b, v = .bool b
  | .str, v => ∃ s, v = .string s ∧ s.size ≤ 1073741824
  | .ex w, v => v = w
  | .fns l, v => ∃ f, f ∈ l ∧ v = .func (.func f) #[] #[]
  | .clo f rows, v => ∃ caps, v = .func (.func f) #[] ⟨caps⟩ ∧ PsOk S rows caps
  | .pin b row, v => ∃ o tys g, v = .pointer (some ⟨b, o, none⟩) ∧ S b = some (.cells tys g) ∧ (tys.drop o).take row.length = row
  | .slice e, v => v = .slice none 0 0 ∨ ∃ b o n c tys g, v = .slice (some ⟨b, o, none⟩) n c ∧ (n ≤ c ∧ c ≤ 4294967296) ∧ S b = some (.cells tys g) ∧ (g = 0 ∨ g = e.length) ∧ o + c * e.length ≤ tys.length ∧
      (∀ i, i < c → (tys.drop (o + i * e.length)).take e.length = e) ∧ ∃ m, tys = (List.replicate m e).flatten
  | .ptr row, v => ∃ b o tys g, v = .pointer (some ⟨b, o, none⟩) ∧ S b = some (.cells tys g) ∧ (tys.drop o).take row.length = row
  | .map ka k ea e, v => ∃ r, v = .map (some r) ∧ S r = some (.map ka k ea e)
def VRows (S : Sg) : List VT → List Value → Prop
  | [], [] => True
  | τ :: r, v :: l => VOk S τ v ∧ VRows S r l
  | _, _ => False
theorem VRows.inv {S : Sg} {τ : VT} {r : List VT} {cs : List Value} (h : VRows S (τ :: r) cs) : ∃ v l, cs = v :: l ∧ VOk S τ v ∧ VRows S r l := by
  cases cs with
  | nil => exact h.elim
  | cons v l => exact ⟨v, l, rfl, h.1, h.2⟩
theorem VRows.nil_inv {S : Sg} {cs : List Value} (h : VRows S [] cs) : cs = [] := by
  cases cs with
  | nil => rfl
  | cons v l => exact h.elim
theorem VRows.length {S : Sg} : ∀ {tys : List VT} {cs : List Value}, VRows S tys cs → cs.length = tys.length
  | [], [], _ => rfl
  | [], _ :: _, h => h.elim
  | _ :: _, [], h => h.elim
  | _ :: r, _ :: l, h => by simp [VRows.length h.2]
theorem VRows.drop {S : Sg} : ∀ {tys : List VT} {cs : List Value} (n : Nat), VRows S tys cs → VRows S (tys.drop n) (cs.drop n)
  | tys, cs, 0, h => by simpa using h
  | [], [], n + 1, _ => by simp [VRows]
  | [], _ :: _, _ + 1, h => h.elim
  | _ :: _, [], _ + 1, h => h.elim
  | _ :: r, _ :: l, n + 1, h => by simpa using VRows.drop n h.2
theorem VRows.take {S : Sg} : ∀ {tys : List VT} {cs : List Value} (n : Nat), VRows S tys cs → VRows S (tys.take n) (cs.take n)
  | tys, cs, 0, h => by simp [VRows]
  | [], [], n + 1, _ => by simp [VRows]
  | [], _ :: _, _ + 1, h => h.elim
  | _ :: _, [], _ + 1, h => h.elim
  | _ :: r, _ :: l, n + 1, h => by simp only [List.take_succ_cons]; exact ⟨h.1, VRows.take n h.2⟩
theorem VRows.append {S : Sg} : ∀ {a : List VT} {x : List Value} {b : List VT} {y : List Value}, VRows S a x → VRows S b y → VRows S (a ++ b) (x ++ y)
  | [], [], _, _, _, k => k
  | [], _ :: _, _, _, h, _ => h.elim
  | _ :: _, [], _, _, h, _ => h.elim
  | _ :: _, _ :: _, _, _, h, k => ⟨h.1, VRows.append h.2 k⟩
def Le (S S' : Sg) : Prop := ∀ b bt, S b = some bt → S' b = some bt
theorem Le.refl (S : Sg) : Le S S := fun _ _ h => h
theorem Le.trans {A B C : Sg} (h : Le A B) (k : Le B C) : Le A C := fun b bt hb => k b bt (h b bt hb)
theorem PsOk.mono {S S' : Sg} (h : Le S S') : ∀ {rows : List (List VT)} {cs : List Value}, PsOk S rows cs → PsOk S' rows cs
  | [], [], _ => trivial
  | [], _ :: _, h => h.elim
  | _ :: _, [], h => h.elim
  | _ :: _, _ :: _, k => ⟨by obtain ⟨b, o, tys, g, h1, h2, h3⟩ := k.1; exact ⟨b, o, tys, g, h1, h b _ h2, h3⟩, PsOk.mono h k.2⟩
theorem VOk.mono {S S' : Sg} (h : Le S S') {τ : VT} {v : Value} (hv : VOk S τ v) : VOk S' τ v := by
  cases τ with
  | int k lo hi => exact hv
  | bool => exact hv
  | str => exact hv
  | ex w => exact hv
  | fns l => exact hv
  | clo f rows => obtain ⟨caps, h1, h2⟩ := hv; exact ⟨caps, h1, h2.mono h⟩
  | pin b row => obtain ⟨o, tys, g, h1, h2, h3⟩ := hv; exact ⟨o, tys, g, h1, h b _ h2, h3⟩
  | slice e =>
    rcases hv with hv | ⟨b, o, n, c, tys, g, h1, h2, h3, h4⟩
    · exact .inl hv
    · exact .inr ⟨b, o, n, c, tys, g, h1, h2, h b _ h3, h4⟩
  | ptr row => obtain ⟨b, o, tys, g, h1, h2, h3⟩ := hv; exact ⟨b, o, tys, g, h1, h b _ h2, h3⟩
  | map ka k ea e => obtain ⟨r, h1, h2⟩ := hv; exact ⟨r, h1, h r _ h2⟩
theorem VRows.mono {S S' : Sg} (h : Le S S') : ∀ {tys : List VT} {cs : List Value}, VRows S tys cs → VRows S' tys cs
  | [], [], _ => trivial
  | [], _ :: _, h => h.elim
  | _ :: _, [], h => h.elim
  | _ :: _, _ :: _, k => ⟨k.1.mono h, VRows.mono h k.2⟩
def EOk (S : Sg) (ka : Bool) (k : List VT) (ea : Bool) (e : List VT) (x : MapEntry) : Prop :=
  isAggV x.key = ka ∧ VRows S k (cellsOf x.key) ∧ isAggV x.val = ea ∧ VRows S e (cellsOf x.val) ∧ noTup x.val = true
def BOk (S : Sg) (W : AW) (b : Nat) : BT → Prop
  | .ro l => W.get b = .cells false 0 l
  | .cells tys g => ∃ l, W.get b = .cells true g l ∧ VRows S tys l
  | .map ka k ea e => ∃ es c, W.get b = .map es c ∧ ∀ x ∈ es, EOk S ka k ea e x
theorem EOk.mono {S S' : Sg} (h : Le S S') {ka : Bool} {k : List VT} {ea : Bool} {e : List VT} {x : MapEntry} (hx : EOk S ka k ea e x) : EOk S' ka k ea e x :=
  ⟨hx.1, hx.2.1.mono h, hx.2.2.1, hx.2.2.2.1.mono h, hx.2.2.2.2⟩
theorem BOk.mono {S S' : Sg} (h : Le S S') {W W' : AW} {b : Nat} {bt : BT} (hg : W'.get b = W.get b) (hb : BOk S W b bt) : BOk S' W' b bt := by
  cases bt with
  | ro l => exact hg.trans hb
  | cells tys g => obtain ⟨l, h1, h2⟩ := hb; exact ⟨l, hg.trans h1, h2.mono h⟩
  | map ka k ea e => obtain ⟨es, c, h1, h2⟩ := hb; exact ⟨es, c, hg.trans h1, fun x hx => (h2 x hx).mono h⟩
structure TH (S : Sg) (W : AW) : Prop where
  wf : W.wf
  ok : ∀ b bt, S b = some bt → BOk S W b bt
theorem BOk.ne {S : Sg} {W : AW} {b : Nat} {bt : BT} (h : BOk S W b bt) : W.get b ≠ .none := by
  cases bt with
  | ro l => rw [show W.get b = _ from h]; simp
  | cells tys g => obtain ⟨l, h1, _⟩ := h; rw [h1]; simp
  | map ka k ea e => obtain ⟨es, c, h1, _⟩ := h; rw [h1]; simp
theorem TH.lt {S : Sg} {W : AW} (h : TH S W) {b : Nat} {bt : BT} (hb : S b = some bt) : b < W.next := by
  rcases Nat.lt_or_ge b W.next with h' | h'
  · exact h'
  · exact absurd (h.wf b h') (h.ok b bt hb).ne
theorem TH.fresh {S : Sg} {W : AW} (h : TH S W) {b : Nat} (hb : W.next ≤ b) : S b = none := by
  cases hS : S b with
  | none => rfl
  | some bt => have := h.lt hS; omega
structure Grow (K : Nat) (S : Sg) (W : AW) (S' : Sg) (W' : AW) : Prop where
  le : Le S S'
  next : W.next ≤ W'.next
  new : ∀ b, b < K → S b = none → S' b = none
  frame : ∀ b, b < K → S b = none → W'.get b = W.get b
  ro : ∀ b l, S b = some (.ro l) → W'.get b = W.get b
theorem Grow.refl (K : Nat) (S : Sg) (W : AW) : Grow K S W S W := ⟨Le.refl _, Nat.le_refl _, fun _ _ h => h, fun _ _ _ => rfl, fun _ _ _ => rfl⟩
theorem Grow.trans {K K' : Nat} {S S1 S2 : Sg} {W W1 W2 : AW} (hK : K ≤ K') (h : Grow K S W S1 W1) (k : Grow K' S1 W1 S2 W2) : Grow K S W S2 W2 :=
  ⟨h.le.trans k.le, Nat.le_trans h.next k.next, fun b hb hs => k.new b (by omega) (h.new b hb hs), fun b hb hs => (k.frame b (by omega) (h.new b hb hs)).trans (h.frame b hb hs), fun b l hb => (k.ro b l (h.le b _ hb)).trans (h.ro b l hb)⟩
def Wr (cl : Nat) (S : Sg) (b : Nat) : Prop :=
  match S b with
  | some (.map ..) => 1 ≤ cl
  | some (.cells ..) => 2 ≤ cl
  | _ => False
theorem Wr.mono {c c' : Nat} (h : c ≤ c') {S : Sg} {b : Nat} (hw : Wr c S b) : Wr c' S b := by
  unfold Wr at hw ⊢; split at hw
  · exact Nat.le_trans hw h
  · exact Nat.le_trans hw h
  · exact hw.elim
theorem Wr.back {cl K : Nat} {S S' : Sg} {W W' : AW} (g : Grow K S W S' W') {b : Nat} (hb : b < K) (h : Wr cl S' b) : Wr cl S b := by
  cases hS : S b with
  | none => unfold Wr at h; rw [g.new b hb hS] at h; exact h.elim
  | some bt => unfold Wr at h ⊢; rw [g.le b bt hS] at h; rw [hS]; exact h
def Post (S : Sg) (W : AW) (R : Sg → AW → Value → Prop) (v : Value) (W' : AW) : Prop := ∃ S', Grow W.next S W S' W' ∧ TH S' W' ∧ R S' W' v
def sput (S : Sg) (b : Nat) (bt : BT) : Sg := fun x => if x = b then some bt else S x
theorem sput_self (S : Sg) (b : Nat) (bt : BT) : sput S b bt b = some bt := if_pos rfl
theorem sput_ne (S : Sg) {b x : Nat} (bt : BT) (h : x ≠ b) : sput S b bt x = S x := if_neg h
theorem le_sput {S : Sg} {b : Nat} (h : S b = none) (bt : BT) : Le S (sput S b bt) := fun x y hx => by
  by_cases hxb : x = b
  · subst hxb; rw [h] at hx; cases hx
  · rw [sput_ne _ _ hxb]; exact hx
theorem grow_alloc {K : Nat} {S : Sg} {W : AW} (h : TH S W) (hK : K ≤ W.next) {x : Blk} {bt : BT} (hx : ∀ S', Le S S' → ∀ W' : AW, W'.get W.next = x → BOk S' W' W.next bt) :
    TH (sput S W.next bt) (W.alloc x) ∧ Grow K S W (sput S W.next bt) (W.alloc x) := by
  have hf : S W.next = none := h.fresh (Nat.le_refl _)
  have hl := le_sput hf bt; have hget : ∀ b, b < W.next → (W.alloc x).get b = W.get b := fun b hb => if_neg (by omega)
  refine ⟨⟨wf_allocW h.wf x, fun b bt' hb => ?_⟩, ⟨hl, by simp, fun b hb hs => ?_, fun b hb _ => hget b (by omega), fun b l hb => hget b (h.lt hb)⟩⟩
  · by_cases hbn : b = W.next
    · subst hbn; rw [sput_self] at hb; cases hb; exact hx _ hl _ (if_pos rfl)
    · rw [sput_ne _ _ hbn] at hb; exact (h.ok b bt' hb).mono hl (hget b (h.lt hb))
  · rw [sput_ne _ _ (by omega)]; exact hs
theorem grow_alloc0 {K : Nat} {S : Sg} {W : AW} (h : TH S W) (hK : K ≤ W.next) (x : Blk) : TH S (W.alloc x) ∧ Grow K S W S (W.alloc x) := by
  have hget : ∀ b, b < W.next → (W.alloc x).get b = W.get b := fun b hb => if_neg (by omega)
  exact ⟨⟨wf_allocW h.wf x, fun b bt hb => (h.ok b bt hb).mono (Le.refl _) (hget b (h.lt hb))⟩, ⟨Le.refl _, by simp, fun _ _ h => h, fun b hb _ => hget b (by omega), fun b l hb => hget b (h.lt hb)⟩⟩
theorem grow_set {K : Nat} {S : Sg} {W : AW} (h : TH S W) {b : Nat} {bt : BT} (hb : S b = some bt) (hro : ∀ l, bt ≠ .ro l) {x : Blk} (hx : ∀ W' : AW, W'.get b = x → BOk S W' b bt) :
    TH S (W.set b x) ∧ Grow K S W S (W.set b x) := by
  have hget : ∀ c, c ≠ b → (W.set b x).get c = W.get c := fun c hc => if_neg hc; refine ⟨⟨wf_setW h.wf (h.lt hb) x, fun c bt' hc => ?_⟩, ⟨Le.refl _, Nat.le_refl _, fun _ _ h => h, fun c _ hs => hget c (fun e => by subst e; rw [hb] at hs; cases hs), fun c l hc => hget c (fun e => by
    subst e; rw [hb] at hc; cases hc; exact hro l rfl)⟩⟩
  by_cases hcb : c = b
  · subst hcb; rw [hb] at hc; cases hc; exact hx _ (if_pos rfl)
  · exact (h.ok c bt' hc).mono (Le.refl _) (hget c hcb)
theorem grow_set0 {K : Nat} {S : Sg} {W : AW} (h : TH S W) {b : Nat} (hb : S b = none) (hlt : b < W.next) (hK : K ≤ b) (x : Blk) : TH S (W.set b x) ∧ Grow K S W S (W.set b x) := by
  have hget : ∀ c, c ≠ b → (W.set b x).get c = W.get c := fun c hc => if_neg hc; refine ⟨⟨wf_setW h.wf hlt x, fun c bt' hc => (h.ok c bt' hc).mono (Le.refl _) (hget c fun e => by subst e; rw [hb] at hc; cases hc)⟩, ⟨Le.refl _, Nat.le_refl _, fun _ _ h => h, fun c hc _ => hget c (by omega), fun c l hc => hget c (fun e => by
    subst e; rw [hb] at hc; cases hc)⟩⟩
theorem Grow.wr {cl cl' K : Nat} {S0 S : Sg} {W0 W : AW} (g : Grow K S0 W0 S W) (hc : cl' ≤ cl) {b : Nat} (hb : b < K) (h : Wr cl' S b) : Wr cl S0 b := Wr.mono hc (Wr.back g hb h)
theorem TH.cells {S : Sg} {W : AW} (h : TH S W) {b : Nat} {tys : List VT} {g : Nat} (hb : S b = some (.cells tys g)) : ∃ l, W.get b = .cells true g l ∧ VRows S tys l := h.ok b _ hb
theorem TH.row {S : Sg} {W : AW} (h : TH S W) {b o : Nat} {tys row : List VT} {g n : Nat} (hb : S b = some (.cells tys g)) (hr : (tys.drop o).take n = row) (hn : row.length = n) (hp : 0 < n) :
    ∃ cs, W.row ⟨b, o, none⟩ n = some cs ∧ VRows S row cs := by
  obtain ⟨l, h1, h2⟩ := h.cells hb; have hle : o + n ≤ l.length ∨ n = 0 := by
    rw [h2.length]; have : ((tys.drop o).take n).length = n := by rw [hr]; exact hn
    simp at this; omega
  rcases hle with hle | rfl
  · refine ⟨(l.drop o).take n, ?_, by rw [← hr]; exact (h2.drop o).take n⟩; simp only [AW.row, h1]; rw [if_pos hle]
  · by_cases hle : o + 0 ≤ l.length
    · refine ⟨(l.drop o).take 0, ?_, by rw [← hr]; exact (h2.drop o).take 0⟩; simp only [AW.row, h1]; rw [if_pos hle]
    · exact absurd hp (by omega)
theorem TH.rorow {S : Sg} {W : AW} (h : TH S W) {b o n : Nat} {l row : List Value} (hb : S b = some (.ro l)) (hr : (l.drop o).take n = row) (hn : row.length = n) (hp : 0 < n) : W.row ⟨b, o, none⟩ n = some row := by
  have h1 : W.get b = .cells false 0 l := h.ok b _ hb; have hle : o + n ≤ l.length := by
    have : ((l.drop o).take n).length = n := by rw [hr]; exact hn
    simp at this; omega
  simp only [AW.row, h1]; rw [if_pos hle, hr]
theorem sub_row {α : Type} {l row : List α} {o n : Nat} (h : (l.drop o).take n = row) (k m : Nat) (hk : k + m ≤ n) : (l.drop (o + k)).take m = (row.drop k).take m := by
  rw [← h, List.drop_take, List.take_take, List.drop_drop]; congr 1; omega
end Go.Abs
namespace Go.Abs
variable {P : Program} {O : Orc}
section
variable {K : Nat} {M : Nat → Prop} {ro : Option Nat} {sz : Nat} {all : Array Oper} {rest : List Oper} {env : Env} {X : Aux} {W : AW} {acc : List FPr} {Q : Env → Aux → AW → List FPr → Prop}
def ROr (P : Program) (O : Orc) (K : Nat) (M : Nat → Prop) (ro : Option Nat) (sz : Nat) (all : Array Oper) (rest : List Oper) (env : Env) (X : Aux) (W : AW) (acc : List FPr) (Q : Env → Aux → AW → List FPr → Prop) : Prop :=
  ∃ n env' X' W' fps, ev P O n (.ops ro sz all rest env X W) = some (.ops none env' X' W' fps) ∧ (∀ b ∈ wrs fps, b < K → M b) ∧ Q env' X' W' (fps.reverse ++ acc) ∧ fps.length = rest.length ∧ ∀ (i : Nat) (o : Oper) (fp : FPr), rest[i]? = some o → fps[i]? = some fp → (silent o = true → Quiet fp) ∧ (writeless o = true → fp.wr = [])
theorem ROd.nil (h : Q env X W acc) : ROr P O K M ro sz all [] env X W acc Q := ⟨1, env, X, W, [], by simp [ev], by simp [wrs], by simpa using h, rfl, by simp⟩
theorem ROd.cont {o : Oper} {v : Value} {env1 : Env} {X1 : Aux} {W1 : AW} {fp : FPr} {n0 : Nat} (hwr : ∀ b ∈ fp.wr, b < K → M b) (hqu : (silent o = true → Quiet fp) ∧ (writeless o = true → fp.wr = []))
    (hp : putE sz o.dst env v = some env1) (hk : ROr P O K M ro sz all rest env1 X1 W1 (fp :: acc) Q)
    (hev : ∀ n p env' X' W' fps, n0 ≤ n → ev P O n (.ops ro sz all rest env1 X1 W1) = some (.ops p env' X' W' fps) → ev P O (n + 1) (.ops ro sz all (o :: rest) env X W) = some (.ops p env' X' W' (fp :: fps))) :
    ROr P O K M ro sz all (o :: rest) env X W acc Q := by
  obtain ⟨n, env', X', W', fps, h1, h2, h3, h4, h5⟩ := hk; refine ⟨max n n0 + 1, env', X', W', fp :: fps, hev _ _ _ _ _ _ (Nat.le_max_right _ _) (ev_mono (Nat.le_max_left _ _) h1), ?_, by simpa using h3, by simp [h4], ?_⟩
  · intro b hb hlt; simp only [wrs, List.map_cons, List.flatten_cons, List.mem_append] at hb; exact hb.elim (fun hb => hwr b hb hlt) (fun hb => h2 b hb hlt)
  · intro i o' fp' ho hf; cases i with
    | zero => simp at ho hf; subst ho; subst hf; exact hqu
    | succ i => exact h5 i o' fp' (by simpa using ho) (by simpa using hf)
theorem ROd.gen {o : Oper} {r : OpR} {v : Value} {env1 : Env} (hw : wantedA all env o = true) (h : aop P ro env o W = some r) (hx : r.x = .value v ∨ (r.x = .skip ∧ v = undef)) (hwr : ∀ b ∈ r.wr, b < K → M b) (hp : putE sz o.dst env v = some env1)
    (k : ROr P O K M ro sz all rest env1 X r.W (⟨some r.rd, r.wr, W.next, r.W.next⟩ :: acc) Q) : ROr P O K M ro sz all (o :: rest) env X W acc Q := by
  have hqu : (silent o = true → Quiet ⟨some r.rd, r.wr, W.next, r.W.next⟩) ∧ (writeless o = true → r.wr = []) := ⟨fun hs => by
    obtain ⟨g1, g2, g3, _⟩ := silent_quiet hs h; exact ⟨by rw [g1], g2, by rw [g3]⟩, fun hs => (writeless_wr hs h).1⟩
  refine ROd.cont (n0 := 0) (fp := ⟨some r.rd, r.wr, W.next, r.W.next⟩) hwr hqu hp k fun n p env' X' W' fps _ he => ?_; rcases hx with hx | ⟨hx, rfl⟩
  · simp only [ev]; rw [if_pos hw, h]; simp only [hx]; rw [hp]; simp only; rw [he]
  · simp only [ev]; rw [if_pos hw, h]; simp only [hx]; rw [hp]; simp only; rw [he]
variable {d : Nat} {op : Op} {ty : TypeId} {pos : String} {af : Array Edge} {gd : Option (Nat × Bool)}
theorem ROd.val {v : Value} {rd : List Nat} (h : aop P ro env ⟨some d, op, ty, pos, af, gd⟩ W = some ⟨.value v, W, rd, []⟩) (hw : wantedA all env ⟨some d, op, ty, pos, af, gd⟩ = true) (hs : d < sz)
    (k : ROr P O K M ro sz all rest (upd env d v) X W (⟨some rd, [], W.next, W.next⟩ :: acc) Q) : ROr P O K M ro sz all (⟨some d, op, ty, pos, af, gd⟩ :: rest) env X W acc Q :=
  ROd.gen (r := ⟨.value v, W, rd, []⟩) hw h (.inl rfl) (by simp) (by simp [putE, hs]) k
theorem ROd.off {o : Oper} {env1 : Env} (hw : wantedA all env o = false) (hp : putE sz o.dst env undef = some env1) (k : ROr P O K M ro sz all rest env1 X W (⟨some [], [], W.next, W.next⟩ :: acc) Q) :
    ROr P O K M ro sz all (o :: rest) env X W acc Q := by
  refine ROd.cont (n0 := 0) (fp := ⟨some [], [], W.next, W.next⟩) (by simp) ⟨fun _ => ⟨rfl, rfl, rfl⟩, fun _ => rfl⟩ hp k fun n p env' X' W' fps _ he => ?_; simp only [ev]; rw [if_neg (by rw [hw]; simp), hp]; simp only; rw [he]
theorem ROd.offd (hw : wantedA all env ⟨some d, op, ty, pos, af, gd⟩ = false) (hs : d < sz) (k : ROr P O K M ro sz all rest (upd env d undef) X W (⟨some [], [], W.next, W.next⟩ :: acc) Q) :
    ROr P O K M ro sz all (⟨some d, op, ty, pos, af, gd⟩ :: rest) env X W acc Q := ROd.off hw (by simp [putE, hs]) k
theorem ROd.call {c : Callee} {as : Array Operand} {ats : Array TypeId} {f : FuncId} {vs : List Value} {M' : Nat → Prop} {Q' : Value → AW → Prop}
    (h : aop P ro env ⟨some d, .call ⟨c, as, ats⟩, ty, pos, af, gd⟩ W = some ⟨.enter f vs, W, [], []⟩) (hw : wantedA all env ⟨some d, .call ⟨c, as, ats⟩, ty, pos, af, gd⟩ = true) (hs : d < sz)
    (hwf : W.wf) (hK : K ≤ W.next) (hc : RK P O f vs W M' Q') (hM : ∀ b, b < K → M' b → M b)
    (k : ∀ v W1 wr, Aft M' W W1 → Q' v W1 → (∀ b ∈ wr, b < W.next → M' b) → (∀ b ∈ wr, b < W1.next) → ROr P O K M ro sz all rest (upd env d v) X W1 (⟨none, wr, W.next, W1.next⟩ :: acc) Q) :
    ROr P O K M ro sz all (⟨some d, .call ⟨c, as, ats⟩, ty, pos, af, gd⟩ :: rest) env X W acc Q := by
  obtain ⟨n1, v, W1, wr, h1, h2, h3⟩ := hc; have ha := aft_of h1 hwf h2; have hlt : ∀ b ∈ wr, b < W1.next := (ev_good P O n1 _ _ h1 hwf).2.lt
  refine ROd.cont (n0 := n1) (v := v) (fp := ⟨none, wr, W.next, W1.next⟩) (fun b hb hlt => hM b hlt (h2 b hb (by omega))) ⟨(fun hs => by
    obtain ⟨_, _, _, v, g⟩ := silent_quiet hs h; cases g), (fun hs => by
    obtain ⟨_, v, g⟩ := writeless_wr hs h; cases g)⟩ (by simp [putE, hs]) (k v W1 wr ha h3 h2 hlt) fun n p env' X' W' fps hn he => ?_
  simp only [ev]; rw [if_pos hw, h]; simp only; rw [ev_mono hn h1]; simp only [putE, hs, if_true]; rw [he]
end
section
variable {K : Nat} {M : Nat → Prop} {ro : Option Nat} {sz id : Nat} {ops : Array Oper} {env : Env} {X : Aux} {W : AW} {Q : AExit → Env → Aux → AW → Prop}
theorem RC_region {l : List Oper} (hl : ops.toList = l) (h : ROr P O K M ro sz ops l env X W [] fun env X W _ => Q .normal env X W) : RC P O K M ro sz (.region id ops false) env X W Q := by
  subst hl; obtain ⟨n, env1, X1, W1, fps, h1, h2, h3, _⟩ := h; exact ⟨n + 1, .normal, env1, X1, W1, wrs fps, by simp only [ev, Bool.false_and, Bool.false_eq_true, if_false]; rw [h1], h2, h3⟩
theorem RC_drawn {l : List Oper} {ps : List (Nat × Nat)} (hreg : regionOk ops = true) (hps : unord ops = ps) (hl : ops.toList = l) (h : ROr P O K M ro sz ops l env X W [] fun env X W fps => pairsOk fps.reverse ps ∧ Q .normal env X W) : RC P O K M ro sz (.region id ops true) env X W Q := by
  subst hl; obtain ⟨n, env1, X1, W1, fps, h1, h2, ⟨h3, h4⟩, h5, h6⟩ := h; rw [List.append_nil, List.reverse_reverse] at h3; have hconf : noConfB ops fps = true := by
    unfold noConfB; simp only [List.all_eq_true, List.mem_range]; intro j hj i hij; rw [Bool.or_eq_true]; by_cases ho : ordered (Region.before ops) i j = true
    · exact .inl ho
    right; have hjs : j < ops.size := by simpa [h5] using hj
    have e1 : fps[i]? = some fps[i] := List.getElem?_eq_getElem (by omega); have e2 : fps[j]? = some fps[j] := List.getElem?_eq_getElem hj; have o1 : ops.toList[i]? = some ops[i] := by simp
    have o2 : ops.toList[j]? = some ops[j] := by simp
    rw [e1, e2]; simp only [Bool.and_eq_true]; by_cases s1 : silent ops[i] = true
    · exact ((h6 i _ _ o1 e1).1 s1).apart
    by_cases s2 : silent ops[j] = true
    · exact ((h6 j _ _ o2 e2).1 s2).apart.symm
    by_cases s3 : writeless ops[i] = true ∧ writeless ops[j] = true
    · exact ⟨apartWB_of (.inl ((h6 i _ _ o1 e1).2 s3.1)), apartWB_of (.inl ((h6 j _ _ o2 e2).2 s3.2))⟩
    have hm : (i, j) ∈ ps := by
      rw [← hps]; unfold unord; simp only [List.mem_flatMap, List.mem_range, List.mem_map, List.mem_filter, Bool.and_eq_true, Bool.not_eq_true']; have hi : i < ops.size := by omega
      have d1 : ops.getD i default = ops[i] := by rw [Array.getD_eq_getD_getElem?, Array.getElem?_eq_getElem hi]; rfl
      have d2 : ops.getD j default = ops[j] := by rw [Array.getD_eq_getD_getElem?, Array.getElem?_eq_getElem hjs]; rfl
      refine ⟨j, hjs, i, ⟨hij, ⟨⟨by simpa using ho, by rw [d1]; simpa using s1⟩, by rw [d2]; simpa using s2⟩, ?_⟩, rfl⟩; rw [d1, d2, Bool.and_eq_false_iff]; rw [Classical.not_and_iff_not_or_not] at s3
      simpa using s3
    have := pairsOk_mem h3 hm e1 e2; exact ⟨apartWB_of this.1, apartWB_of this.2⟩
  exact ⟨n + 1, .normal, env1, X1, W1, wrs fps, by simp only [ev, hreg, Bool.not_true, Bool.and_false, Bool.false_eq_true, if_false]; rw [h1]; simp only [hconf, Bool.not_true, Bool.and_false, Bool.false_eq_true, if_false], h2, h4⟩
theorem ROd.mono {all : Array Oper} {rest : List Oper} {acc : List FPr} {Q1 Q2 : Env → Aux → AW → List FPr → Prop} (h : ROr P O K M ro sz all rest env X W acc Q1) (hq : ∀ env X W fps, Q1 env X W fps → Q2 env X W fps) : ROr P O K M ro sz all rest env X W acc Q2 := by
  obtain ⟨n, env1, X1, W1, fps, h1, h2, h3, h4⟩ := h; exact ⟨n, env1, X1, W1, fps, h1, h2, hq _ _ _ _ h3, h4⟩
theorem RC_drawn0 {l : List Oper} (hreg : (regionOk ops && (unord ops).isEmpty) = true) (hl : ops.toList = l) (h : ROr P O K M ro sz ops l env X W [] fun env X W _ => Q .normal env X W) : RC P O K M ro sz (.region id ops true) env X W Q := by
  rw [Bool.and_eq_true, List.isEmpty_iff] at hreg; exact RC_drawn hreg.1 hreg.2 hl (ROd.mono h fun _ _ _ _ hq => ⟨trivial, hq⟩)
theorem upd_same {env : Env} {d : Nat} {v : Value} (h : env d = v) : upd env d v = env := by
  funext t; unfold upd; by_cases ht : t = d
  · rw [if_pos ht, ht, h]
  · rw [if_neg ht]
end
section
variable {K : Nat} {M : Nat → Prop} {ro : Option Nat} {sz : Nat} {all : Array Oper} {rest : List Oper} {env : Env} {X : Aux} {W : AW} {acc : List FPr} {Q : Env → Aux → AW → List FPr → Prop}
variable {d : Nat} {ty : TypeId} {pos : String} {af : Array Edge} {gd : Option (Nat × Bool)} {S : Sg}
theorem ROd.fieldAddr {s : TypeId} {x : Operand} {f off b o : Nat} {ft : TypeId} (hf : fieldOf P s f = some (off, ft)) (hx : aEval env x = .pointer (some ⟨b, o, none⟩)) (hw : wantedA all env ⟨some d, .fieldAddr s x f, ty, pos, af, gd⟩ = true) (hs : d < sz)
    (k : ROr P O K M ro sz all rest (upd env d (.pointer (some ⟨b, o + off, none⟩))) X W (⟨some [], [], W.next, W.next⟩ :: acc) Q) : ROr P O K M ro sz all (⟨some d, .fieldAddr s x f, ty, pos, af, gd⟩ :: rest) env X W acc Q :=
  ROd.val (by simp only [aop, hf, hx, asPtr, okV]) hw hs k
theorem ROd.load1 {t : TypeId} {x : Operand} {kd : TK} {z : Value} {by' b o g : Nat} {tys : List VT} {τ : VT} (ht : tinfo P t = some ⟨1, false, kd, z, by'⟩) (hx : aEval env x = .pointer (some ⟨b, o, none⟩)) (hH : TH S W) (hb : S b = some (.cells tys g)) (hr : (tys.drop o).take 1 = [τ])
    (hw : wantedA all env ⟨some d, .load t x, ty, pos, af, gd⟩ = true) (hs : d < sz)
    (k : ∀ v, VOk S τ v → ROr P O K M ro sz all rest (upd env d v) X W (⟨some [b], [], W.next, W.next⟩ :: acc) Q) : ROr P O K M ro sz all (⟨some d, .load t x, ty, pos, af, gd⟩ :: rest) env X W acc Q := by
  obtain ⟨cs, h1, h2⟩ := hH.row hb hr rfl (by omega); obtain ⟨v, l, rfl, hv, hl⟩ := h2.inv; have hl := hl.nil_inv; subst hl; exact ROd.val (rd := [b]) (by simp only [aop, ht, hx, asPtr, h1, mkV, Option.bind_some, Bool.false_eq_true, if_false, List.head?_cons, Option.map_some]) hw hs (k v hv)
theorem ROd.loadA {t : TypeId} {x : Operand} {kd : TK} {z : Value} {n by' b o g : Nat} {tys row : List VT} (ht : tinfo P t = some ⟨n, true, kd, z, by'⟩) (hx : aEval env x = .pointer (some ⟨b, o, none⟩)) (hH : TH S W) (hb : S b = some (.cells tys g)) (hr : (tys.drop o).take n = row) (hn : row.length = n) (hp : 0 < n)
    (hw : wantedA all env ⟨some d, .load t x, ty, pos, af, gd⟩ = true) (hs : d < sz)
    (k : ∀ cs, VRows S row cs → ROr P O K M ro sz all rest (upd env d (.agg ⟨cs⟩)) X W (⟨some [b], [], W.next, W.next⟩ :: acc) Q) : ROr P O K M ro sz all (⟨some d, .load t x, ty, pos, af, gd⟩ :: rest) env X W acc Q := by
  obtain ⟨cs, h1, h2⟩ := hH.row hb hr hn hp; exact ROd.val (rd := [b]) (by simp only [aop, ht, hx, asPtr, h1, mkV, Option.bind_some, if_true, Option.map_some]) hw hs (k cs h2)
theorem ROd.loadR1 {t : TypeId} {x : Operand} {kd : TK} {z v : Value} {by' b o : Nat} {l : List Value} (ht : tinfo P t = some ⟨1, false, kd, z, by'⟩) (hx : aEval env x = .pointer (some ⟨b, o, none⟩)) (hH : TH S W) (hb : S b = some (.ro l)) (hr : (l.drop o).take 1 = [v])
    (hw : wantedA all env ⟨some d, .load t x, ty, pos, af, gd⟩ = true) (hs : d < sz)
    (k : ROr P O K M ro sz all rest (upd env d v) X W (⟨some [b], [], W.next, W.next⟩ :: acc) Q) : ROr P O K M ro sz all (⟨some d, .load t x, ty, pos, af, gd⟩ :: rest) env X W acc Q := by
  have h1 := hH.rorow hb hr rfl (by omega); exact ROd.val (rd := [b]) (by simp only [aop, ht, hx, asPtr, h1, mkV, Option.bind_some, Bool.false_eq_true, if_false, List.head?_cons, Option.map_some]) hw hs k
theorem ROd.loadRA {t : TypeId} {x : Operand} {kd : TK} {z : Value} {n by' b o : Nat} {l row : List Value} (ht : tinfo P t = some ⟨n, true, kd, z, by'⟩) (hx : aEval env x = .pointer (some ⟨b, o, none⟩)) (hH : TH S W) (hb : S b = some (.ro l)) (hr : (l.drop o).take n = row) (hn : row.length = n) (hp : 0 < n)
    (hw : wantedA all env ⟨some d, .load t x, ty, pos, af, gd⟩ = true) (hs : d < sz)
    (k : ROr P O K M ro sz all rest (upd env d (.agg ⟨row⟩)) X W (⟨some [b], [], W.next, W.next⟩ :: acc) Q) : ROr P O K M ro sz all (⟨some d, .load t x, ty, pos, af, gd⟩ :: rest) env X W acc Q := by
  have h1 := hH.rorow hb hr hn hp; exact ROd.val (rd := [b]) (by simp only [aop, ht, hx, asPtr, h1, mkV, Option.bind_some, if_true, Option.map_some]) hw hs k
theorem ROd.indexAddrS {t e : TypeId} {x ix : Operand} {a1 a2 : Bool} {k1 : TK} {z1 z2 : Value} {n1 n2 y1 y2 b o n c : Nat} {i : Int} {ik : IntKind} (ht : tinfo P t = some ⟨n1, a1, .slice e, z1, y1⟩) (he : tinfo P e = some ⟨n2, a2, k1, z2, y2⟩)
    (hx : aEval env x = .slice (some ⟨b, o, none⟩) n c) (hi : aEval env ix = .int ik i) (h0 : 0 ≤ i) (h1 : i < n) (hw : wantedA all env ⟨some d, .indexAddr t x ix, ty, pos, af, gd⟩ = true) (hs : d < sz)
    (k : ROr P O K M ro sz all rest (upd env d (.pointer (some ⟨b, o + i.toNat * n2, none⟩))) X W (⟨some [], [], W.next, W.next⟩ :: acc) Q) : ROr P O K M ro sz all (⟨some d, .indexAddr t x ix, ty, pos, af, gd⟩ :: rest) env X W acc Q :=
  ROd.val (by simp only [aop, indexAddrA, ht, he, hx, hi, asInt', h0, h1, and_self, if_true, Option.map_some, okV]) hw hs k
theorem ROd.indexAddrA {t e : TypeId} {x ix : Operand} {a1 a2 : Bool} {k1 : TK} {z1 z2 : Value} {m n1 n2 y1 y2 b o : Nat} {i : Int} {ik : IntKind} (ht : tinfo P t = some ⟨n1, a1, .array m e, z1, y1⟩) (he : tinfo P e = some ⟨n2, a2, k1, z2, y2⟩)
    (hx : aEval env x = .pointer (some ⟨b, o, none⟩)) (hi : aEval env ix = .int ik i) (h0 : 0 ≤ i) (h1 : i < m) (hw : wantedA all env ⟨some d, .indexAddr t x ix, ty, pos, af, gd⟩ = true) (hs : d < sz)
    (k : ROr P O K M ro sz all rest (upd env d (.pointer (some ⟨b, o + i.toNat * n2, none⟩))) X W (⟨some [], [], W.next, W.next⟩ :: acc) Q) : ROr P O K M ro sz all (⟨some d, .indexAddr t x ix, ty, pos, af, gd⟩ :: rest) env X W acc Q :=
  ROd.val (by simp only [aop, Abs.indexAddrA, ht, he, hx, hi, asInt', h0, h1, and_self, if_true, Option.map_some, okV]) hw hs k
theorem ROd.lenS {t e : TypeId} {x : Operand} {a1 : Bool} {z1 : Value} {n1 y1 n c : Nat} {a : Option Addr} (ht : tinfo P t = some ⟨n1, a1, .slice e, z1, y1⟩) (hx : aEval env x = .slice a n c) (hw : wantedA all env ⟨some d, .call ⟨.builtin .len, #[x], #[t]⟩, ty, pos, af, gd⟩ = true) (hs : d < sz)
    (k : ROr P O K M ro sz all rest (upd env d (.int .i64 n)) X W (⟨some [], [], W.next, W.next⟩ :: acc) Q) : ROr P O K M ro sz all (⟨some d, .call ⟨.builtin .len, #[x], #[t]⟩, ty, pos, af, gd⟩ :: rest) env X W acc Q :=
  ROd.val (by simp [-aEval, aop, lenA, ht, hx]) hw hs k
theorem VRows.splice {S : Sg} {tys : List VT} {l vs : List Value} {o : Nat} (h : VRows S tys l) (hv : VRows S ((tys.drop o).take vs.length) vs) (hle : o + vs.length ≤ l.length) : VRows S tys (splice l o vs) := by
  unfold Abs.splice; have e : tys = tys.take o ++ ((tys.drop o).take vs.length ++ tys.drop (o + vs.length)) := by
    rw [← List.drop_drop, List.take_append_drop, List.take_append_drop]
  rw [e]; have h1 : VRows S (tys.take o) (l.take o) := h.take o; have h3 : VRows S (tys.drop (o + vs.length)) (l.drop (o + vs.length)) := h.drop _; refine VRows.append ?_ (VRows.append ?_ ?_)
  · exact h1
  · exact hv
  · exact h3
theorem ROd.store {t : TypeId} {x y : Operand} {a : Bool} {kd : TK} {z v : Value} {n by' b o g : Nat} {tys : List VT} (ht : tinfo P t = some ⟨n, a, kd, z, by'⟩) (hx : aEval env x = .pointer (some ⟨b, o, none⟩)) (hy : aEval env y = v) (hn : (cellsOf v).length = n) (hnt : noTup v = true)
    (hH : TH S W) (hb : S b = some (.cells tys g)) (hv : VRows S ((tys.drop o).take n) (cellsOf v)) (hp : 0 < n) (hM : b < K → M b) (hw : wantedA all env ⟨none, .store t x y, ty, pos, af, gd⟩ = true)
    (k : ∀ W1, W1.next = W.next → TH S W1 → Grow W.next S W S W1 → (∀ c, c ≠ b → W1.get c = W.get c) → ROr P O K M ro sz all rest env X W1 (⟨some [b], [b], W.next, W1.next⟩ :: acc) Q) :
    ROr P O K M ro sz all (⟨none, .store t x y, ty, pos, af, gd⟩ :: rest) env X W acc Q := by
  obtain ⟨l, h1, h2⟩ := hH.cells hb; subst hn; have hle : o + (cellsOf v).length ≤ l.length := by
    have := hv.length; have h3 := h2.length; rw [List.length_take, List.length_drop] at this; omega
  have hput : W.put ⟨b, o, none⟩ (cellsOf v) = some (W.set b (.cells true g (splice l o (cellsOf v)))) := by simp only [AW.put, h1]; rw [if_pos hle]
  obtain ⟨g1, g2⟩ := grow_set (K := W.next) hH hb (by intro l h; cases h) (x := .cells true g (splice l o (cellsOf v))) fun W' hg => ⟨_, hg, h2.splice hv hle⟩
  refine ROd.gen (r := ⟨.skip, W.set b (.cells true g (splice l o (cellsOf v))), [b], [b]⟩) (v := undef) hw (by simp only [aop, ht, hx, hy, asPtr, hnt, and_self, if_true, hput, Option.map_some]) (.inr ⟨rfl, rfl⟩) (by simpa using hM) rfl (k _ rfl g1 g2 fun c hc => if_neg hc)
theorem ROd.loadX {t : TypeId} {x : Operand} {kd : TK} {z v : Value} {a own : Bool} {n by' b o g : Nat} {l : List Value} (ht : tinfo P t = some ⟨n, a, kd, z, by'⟩) (hx : aEval env x = .pointer (some ⟨b, o, none⟩)) (hb : W.get b = .cells own g l) (hle : o + n ≤ l.length) (hv : mkV ⟨n, a, kd, z, by'⟩ ((l.drop o).take n) = some v)
    (hw : wantedA all env ⟨some d, .load t x, ty, pos, af, gd⟩ = true) (hs : d < sz)
    (k : ROr P O K M ro sz all rest (upd env d v) X W (⟨some [b], [], W.next, W.next⟩ :: acc) Q) : ROr P O K M ro sz all (⟨some d, .load t x, ty, pos, af, gd⟩ :: rest) env X W acc Q :=
  ROd.val (rd := [b]) (by simp only [aop, ht, hx, asPtr, AW.row, hb, hle, if_true, Option.bind_some, hv, Option.map_some]) hw hs k
end
end Go.Abs
