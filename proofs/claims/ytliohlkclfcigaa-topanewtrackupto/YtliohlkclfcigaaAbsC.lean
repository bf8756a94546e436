/- A part of the proof that TopAnewTrack returns true at every input of bulk at most 1048576: how its heaps stand to the machine. -/
import Derived.Test.YtliohlkclfcigaaAbsA
import Derived.Below
set_option linter.unusedVariables false
set_option linter.unusedSimpArgs false
namespace Go.Abs
open Go.RowKit (Below)
structure PB where
  blk : Nat
  off : Nat
  grow : Nat
  csize : Nat
abbrev Phi := Nat → Option PB
inductive VR (φ : Phi) : Value → Value → Prop
  | bool (b : Bool) : VR φ (.bool b) (.bool b)
  | int (k : IntKind) (n : Int) : VR φ (.int k n) (.int k n)
  | string (s : ByteArray) : VR φ (.string s) (.string s)
  | nilPtr : VR φ (.pointer none) (.pointer none)
  | ptr (b o : Nat) (p : PB) (h : φ b = some p) : VR φ (.pointer (some ⟨b, o, none⟩)) (.pointer (some ⟨p.blk, p.off + o, none⟩))
  | nilSlice : VR φ (.slice none 0 0) (.slice none 0 0)
  | slice (b o n c o' c' : Nat) (p : PB) (h : φ b = some p) (hn : n ≤ c) (hc : c ≤ c') (ho : n ≠ 0 ∨ c ≠ 0 → o' = p.off + o)
      (hx : p.grow = 0 → c' = c) (hg : p.grow ≠ 0 → o' + c' * p.grow ≤ p.csize) : VR φ (.slice (some ⟨b, o, none⟩) n c) (.slice (some ⟨p.blk, o', none⟩) n c')
  | nilMap : VR φ (.map none) (.map none)
  | map (r : Nat) (p : PB) (h : φ r = some p) : VR φ (.map (some r)) (.map (some p.blk))
  | fn (f : FuncId) (x x' y y' : Array Value) (hx : x.size = x'.size) (hy : y.size = y'.size)
      (h1 : ∀ i (h : i < x.size) (h' : i < x'.size), VR φ x[i] x'[i]) (h2 : ∀ i (h : i < y.size) (h' : i < y'.size), VR φ y[i] y'[i]) :
      VR φ (.func (.func f) x y) (.func (.func f) x' y')
  | yield (l : Nat) (p : PB) (h : φ l = some p) : VR φ (.func (.yield l) #[] #[]) (.func (.yield p.blk) #[] #[])
  | nilFunc : VR φ .nilFunc .nilFunc
  | nilIface : VR φ .nilIface .nilIface
  | iface (t : TypeId) (v v' : Value) (h : VR φ v v') : VR φ (.iface t v) (.iface t v')
  | agg (cs cs' : Array Value) (hs : cs.size = cs'.size) (h : ∀ i (h : i < cs.size) (h' : i < cs'.size), VR φ cs[i] cs'[i])
      (h1 : ∀ i (h : i < cs.size), cs[i].oneCell' = true) : VR φ (.agg cs) (.agg cs')
  | tuple (cs cs' : Array Value) (hs : cs.size = cs'.size) (h : ∀ i (h : i < cs.size) (h' : i < cs'.size), VR φ cs[i] cs'[i]) : VR φ (.tuple cs) (.tuple cs')
def PLe (φ φ' : Phi) : Prop := ∀ b p, φ b = some p → φ' b = some p
theorem PLe.refl (φ : Phi) : PLe φ φ := fun _ _ h => h
theorem PLe.trans {a b c : Phi} (h : PLe a b) (k : PLe b c) : PLe a c := fun x p hx => k x p (h x p hx)
theorem VR.mono {φ φ' : Phi} (hp : PLe φ φ') {v v' : Value} (h : VR φ v v') : VR φ' v v' := by
  induction h with
  | bool b => exact .bool b
  | int k n => exact .int k n
  | string s => exact .string s
  | nilPtr => exact .nilPtr
  | ptr b o p h => exact .ptr b o p (hp _ _ h)
  | nilSlice => exact .nilSlice
  | slice b o n c o' c' p h hn hc ho hx hg => exact .slice b o n c o' c' p (hp _ _ h) hn hc ho hx hg
  | nilMap => exact .nilMap
  | map r p h => exact .map r p (hp _ _ h)
  | fn f x x' y y' hx hy _ _ ih1 ih2 => exact .fn f x x' y y' hx hy (fun i h h' => ih1 i h h') (fun i h h' => ih2 i h h')
  | yield l p h => exact .yield l p (hp _ _ h)
  | nilFunc => exact .nilFunc
  | nilIface => exact .nilIface
  | iface t v v' _ ih => exact .iface t v v' ih
  | agg cs cs' hs _ h1 ih => exact .agg cs cs' hs (fun i h h' => ih i h h') h1
  | tuple cs cs' hs _ ih => exact .tuple cs cs' hs (fun i h h' => ih i h h')
inductive LR (φ : Phi) : List Value → List Value → Prop
  | nil : LR φ [] []
  | cons {v v' : Value} {l l' : List Value} (h : VR φ v v') (t : LR φ l l') : LR φ (v :: l) (v' :: l')
theorem LR.length {φ : Phi} {l l' : List Value} (h : LR φ l l') : l.length = l'.length := by
  induction h with
  | nil => rfl
  | cons _ _ ih => simp [ih]
theorem LR.mono {φ φ' : Phi} (hp : PLe φ φ') {l l' : List Value} (h : LR φ l l') : LR φ' l l' := by
  induction h with
  | nil => exact .nil
  | cons h _ ih => exact .cons (h.mono hp) ih
theorem LR.get {φ : Phi} {l l' : List Value} (h : LR φ l l') (i : Nat) {v : Value} (hv : l[i]? = some v) : ∃ v', l'[i]? = some v' ∧ VR φ v v' := by
  induction h generalizing i with
  | nil => simp at hv
  | cons h _ ih =>
    cases i with
    | zero => simp at hv; subst hv; exact ⟨_, by simp, h⟩
    | succ i => simp at hv; simpa using ih i hv
theorem LR.get' {φ : Phi} {l l' : List Value} (h : LR φ l l') (i : Nat) {v' : Value} (hv : l'[i]? = some v') : ∃ v, l[i]? = some v ∧ VR φ v v' := by
  induction h generalizing i with
  | nil => simp at hv
  | cons h _ ih =>
    cases i with
    | zero => simp at hv; subst hv; exact ⟨_, by simp, h⟩
    | succ i => simp at hv; simpa using ih i hv
theorem LR.of_get {φ : Phi} : ∀ {l l' : List Value}, l.length = l'.length → (∀ (i : Nat) (v v' : Value), l[i]? = some v → l'[i]? = some v' → VR φ v v') → LR φ l l'
  | [], [], _, _ => .nil
  | [], _ :: _, h, _ => by simp at h
  | _ :: _, [], h, _ => by simp at h
  | v :: l, v' :: l', h, g => .cons (g 0 v v' (by simp) (by simp)) (LR.of_get (by simpa using h) fun i a b ha hb => g (i + 1) a b (by simpa using ha) (by simpa using hb))
theorem LR.append {φ : Phi} {a a' b b' : List Value} (h : LR φ a a') (k : LR φ b b') : LR φ (a ++ b) (a' ++ b') := by
  induction h with
  | nil => exact k
  | cons h _ ih => exact .cons h ih
theorem LR.take {φ : Phi} {a a' : List Value} (h : LR φ a a') (n : Nat) : LR φ (a.take n) (a'.take n) := by
  induction h generalizing n with
  | nil => simp; exact .nil
  | cons h _ ih => cases n with
    | zero => exact .nil
    | succ n => exact .cons h (ih n)
theorem LR.drop {φ : Phi} {a a' : List Value} (h : LR φ a a') (n : Nat) : LR φ (a.drop n) (a'.drop n) := by
  induction h generalizing n with
  | nil => simp; exact .nil
  | cons h t ih => cases n with
    | zero => exact .cons h t
    | succ n => exact ih n
theorem LR.flatten_replicate {φ : Phi} {a a' : List Value} (h : LR φ a a') (n : Nat) : LR φ (List.replicate n a).flatten (List.replicate n a').flatten := by
  induction n with
  | zero => exact .nil
  | succ n ih => simp only [List.replicate_succ, List.flatten_cons]; exact h.append ih
theorem LR.splice {φ : Phi} {a a' b b' : List Value} (h : LR φ a a') (k : LR φ b b') (o : Nat) : LR φ (splice a o b) (splice a' o b') := by
  unfold Abs.splice; rw [k.length]; exact (h.take o).append (k.append (h.drop _))
theorem LR.arr {φ : Phi} {x x' : Array Value} (hs : x.size = x'.size) (h : ∀ i (h : i < x.size) (h' : i < x'.size), VR φ x[i] x'[i]) : LR φ x.toList x'.toList :=
  LR.of_get (by simpa using hs) fun i v v' hv hv' => by
    simp only [Array.getElem?_toList] at hv hv'; obtain ⟨h1, rfl⟩ := Array.getElem?_eq_some_iff.1 hv; obtain ⟨h2, rfl⟩ := Array.getElem?_eq_some_iff.1 hv'; exact h i h1 h2
theorem LR.arr_get {φ : Phi} {x x' : Array Value} (h : LR φ x.toList x'.toList) : x.size = x'.size ∧ ∀ i (h : i < x.size) (h' : i < x'.size), VR φ x[i] x'[i] := by
  refine ⟨by simpa using h.length, fun i h1 h2 => ?_⟩; obtain ⟨v', hv', hr⟩ := h.get i (v := x[i]) (by simp [h1]); simp only [Array.getElem?_toList] at hv'; obtain ⟨_, rfl⟩ := Array.getElem?_eq_some_iff.1 hv'; exact hr
def OneC (l : List Value) : Prop := ∀ v ∈ l, v.oneCell' = true
theorem OneC.append {a b : List Value} (h : OneC a) (k : OneC b) : OneC (a ++ b) := fun v hv => (List.mem_append.1 hv).elim (h v) (k v)
theorem OneC.take {a : List Value} (h : OneC a) (n : Nat) : OneC (a.take n) := fun v hv => h v (List.mem_of_mem_take hv)
theorem OneC.drop {a : List Value} (h : OneC a) (n : Nat) : OneC (a.drop n) := fun v hv => h v (List.mem_of_mem_drop hv)
theorem OneC.splice {a b : List Value} (h : OneC a) (k : OneC b) (o : Nat) : OneC (splice a o b) := (h.take _).append (k.append (h.drop _))
theorem OneC.flatten_replicate {a : List Value} (h : OneC a) (n : Nat) : OneC (List.replicate n a).flatten := by
  intro v hv; obtain ⟨l, hl, hv⟩ := List.mem_flatten.1 hv; rw [(List.mem_replicate.1 hl).2] at hv; exact h v hv
theorem VR.oneCell {φ : Phi} {v v' : Value} (h : VR φ v v') : v'.oneCell' = v.oneCell' := by cases h <;> rfl
theorem LR.oneC {φ : Phi} {l l' : List Value} (h : LR φ l l') (ho : OneC l) : OneC l' := by
  intro v' hv'; obtain ⟨i, hi⟩ := List.mem_iff_getElem?.1 hv'; obtain ⟨v, hv, hr⟩ := h.get' i hi; rw [hr.oneCell]; exact ho v (List.mem_of_getElem? hv)
theorem VR.agg_inv {φ : Phi} {cs : Array Value} {v' : Value} (h : VR φ (.agg cs) v') : ∃ cs', v' = .agg cs' ∧ LR φ cs.toList cs'.toList ∧ OneC cs.toList := by
  cases h with
  | agg _ cs' hs h h1 =>
    refine ⟨cs', rfl, LR.arr hs h, fun v hv => ?_⟩; obtain ⟨i, hi, rfl⟩ := List.mem_iff_getElem.1 hv
    simpa using h1 i (by simpa using hi)
theorem VR.mkAgg {φ : Phi} {l l' : List Value} (h : LR φ l l') (ho : OneC l) : VR φ (.agg ⟨l⟩) (.agg ⟨l'⟩) := by
  obtain ⟨h1, h2⟩ := LR.arr_get (x := ⟨l⟩) (x' := ⟨l'⟩) h; exact .agg _ _ h1 h2 fun i hi => ho _ (by simp)
theorem VR.mkTuple {φ : Phi} {l l' : List Value} (h : LR φ l l') : VR φ (.tuple ⟨l⟩) (.tuple ⟨l'⟩) := by
  obtain ⟨h1, h2⟩ := LR.arr_get (x := ⟨l⟩) (x' := ⟨l'⟩) h; exact .tuple _ _ h1 h2
theorem VR.cells {φ : Phi} {v v' : Value} (h : VR φ v v') : LR φ (cellsOf v) v'.cells.toList := by
  cases h with
  | agg cs cs' hs h h1 => exact LR.arr hs h
  | _ => refine .cons ?_ .nil; constructor <;> assumption
theorem VR.cells_one {φ : Phi} {v v' : Value} (h : VR φ v v') (hv : ∀ cs, v ≠ .tuple cs) : OneC (cellsOf v) := by
  cases h with
  | agg cs cs' hs h h1 =>
    intro v hv; obtain ⟨i, hi, rfl⟩ := List.mem_iff_getElem.1 hv; exact h1 i (by simpa [cellsOf] using hi)
  | tuple cs => exact absurd rfl (hv cs)
  | _ => intro v hv; simp [cellsOf] at hv; subst hv; rfl
theorem VR.closed1 {φ : Phi} {v : Value} (h : closed1 v = true) : VR φ v v := by
  unfold Abs.closed1 at h; split at h <;> first | constructor | (cases h)
theorem closed1_one {v : Value} (h : closed1 v = true) : v.oneCell' = true := by
  unfold Abs.closed1 at h; split at h <;> first | rfl | (cases h)
theorem VR.closed {φ : Phi} {v : Value} (h : closed v = true) : VR φ v v := by
  unfold Abs.closed at h; split at h
  · rename_i cs; rw [Array.all_eq_true] at h; exact .agg _ _ rfl (fun i hi _ => VR.closed1 (h i hi)) (fun i hi => closed1_one (h i hi))
  · exact VR.closed1 h
theorem closed_cells_one {v : Value} (h : closed v = true) : OneC (cellsOf v) := by
  unfold Abs.closed at h; split at h
  · rename_i cs; intro x hx; rw [Array.all_eq_true] at h; obtain ⟨i, hi, rfl⟩ := List.mem_iff_getElem.1 hx; exact closed1_one (h i (by simpa [cellsOf] using hi))
  · have := closed1_one h; intro x hx; cases v <;> simp [cellsOf, Value.oneCell'] at hx this <;> subst hx <;> rfl
def TR (φ : Phi) (e : Env) (tmps : Array Value) : Prop := ∀ t, VR φ (e t) (tmps.getD t undef)
theorem TR.mono {φ φ' : Phi} (hp : PLe φ φ') {e : Env} {tmps : Array Value} (h : TR φ e tmps) : TR φ' e tmps := fun t => (h t).mono hp
theorem VR.undef {φ : Phi} : VR φ undef undef := .tuple _ _ rfl fun i h _ => by simp at h
theorem TR.eval {φ : Phi} {e : Env} {a : Act} (h : TR φ e a.tmps) {x : Operand} (hx : operandOk x = true) : VR φ (aEval e x) (a.eval x) := by
  cases x with
  | tmp t => exact h t
  | const v => exact VR.closed hx
  | global g => cases hx
  | func f => exact .fn f _ _ _ _ rfl rfl (fun i h _ => by simp at h) (fun i h _ => by simp at h)
theorem TR.put {φ : Phi} {e e' : Env} {a : Act} (h : TR φ e a.tmps) {dst : Option Tmp} {sz : Nat} (hs : a.tmps.size = sz) {v v' : Value} (hv : VR φ v v')
    (hp : putE sz dst e v = some e') : TR φ e' (a.put dst v').tmps ∧ (a.put dst v').tmps.size = sz := by
  unfold putE at hp; cases dst with
  | none => simp at hp; subst hp; exact ⟨h, hs⟩
  | some d =>
    simp only at hp; by_cases hd : d < sz
    case neg => rw [if_neg hd] at hp; cases hp
    rw [if_pos hd] at hp; cases hp; have hd' : d < a.tmps.size := by rw [hs]; exact hd
    refine ⟨fun t => ?_, by simp [Act.put, hs]⟩; simp only [Act.put, upd, Array.getD_eq_getD_getElem?]; by_cases ht : t = d
    · rw [if_pos ht, ht, Array.getElem?_setIfInBounds_self, if_pos hd']; exact hv
    · rw [if_neg ht, Array.getElem?_setIfInBounds_ne (by omega), ← Array.getD_eq_getD_getElem?]; exact h t
theorem put_defers (a : Act) (dst : Option Tmp) (v : Value) : (a.put dst v).defers = a.defers := by cases dst <;> rfl
theorem LR.map_eval {φ : Phi} {e : Env} {a : Act} (h : TR φ e a.tmps) : ∀ (l : List Operand), (l.all operandOk) = true → LR φ (l.map (aEval e)) (l.map a.eval)
  | [], _ => .nil
  | x :: l, hx => by
    simp only [List.all_cons, Bool.and_eq_true] at hx; exact .cons (h.eval hx.1) (LR.map_eval h l hx.2)
def CellsAt (φ : Phi) (cs : List Value) (cc : Array Value) (δ : Nat) : Prop := δ + cs.length ≤ cc.size ∧ LR φ cs ((cc.toList.drop δ).take cs.length) ∧ OneC cs
inductive ER (φ : Phi) : List MapEntry → List MapEntry → Prop
  | nil : ER φ [] []
  | cons {e e' : MapEntry} {l l' : List MapEntry} (hk : VR φ e.key e'.key) (hv : VR φ e.val e'.val) (hb : e.born = e'.born) (t : ER φ l l') : ER φ (e :: l) (e' :: l')
theorem ER.mono {φ φ' : Phi} (hp : PLe φ φ') {l l' : List MapEntry} (h : ER φ l l') : ER φ' l l' := by
  induction h with
  | nil => exact .nil
  | cons hk hv hb _ ih => exact .cons (hk.mono hp) (hv.mono hp) hb ih
def thawed (fr : Nat × Nat) (n : Nat) : Prop := ∀ o, o < n → ¬ (fr.1 ≤ o ∧ o < fr.2)
def Agree (φ : Phi) (base : Nat) (w : World) (x : Blk) (p : PB) : Prop :=
  match x with
  | .none | .gone => True
  | .cells own g cs => p.grow = g ∧ ∃ cc ty fr, w.heap[p.blk]? = some (.cells cc ty fr) ∧ cc.size = p.csize ∧ CellsAt φ cs cc p.off ∧ (own = true → thawed fr cc.size ∧ base ≤ p.blk) ∧ (own = false → p.blk < base)
  | .map es c => ∃ es', w.heap[p.blk]? = some (.map es' c) ∧ ER φ es es'.toList ∧ base ≤ p.blk
  | .loop st pend sz env ps asg body => ∃ r, w.heap[p.blk]? = some (.loop r) ∧ r.state = st ∧ r.pending = pend ∧ r.tmps.size = sz ∧ TR φ env r.tmps ∧ r.params.toList = ps ∧
      r.assign = asg ∧ r.body = body ∧ codeOk asg = true ∧ codeOk body = true ∧ base ≤ p.blk
def Writable : Blk → Prop
  | .cells true _ _ | .map .. | .loop .. => True
  | _ => False
def Live : Blk → Prop
  | .none | .gone => False
  | _ => True
theorem Agree.mono {φ φ' : Phi} (hp : PLe φ φ') {base : Nat} {w : World} {x : Blk} {p : PB} (h : Agree φ base w x p) : Agree φ' base w x p := by
  cases x with
  | none => trivial
  | gone => trivial
  | cells own g cs => obtain ⟨h0, cc, ty, fr, h1, h2, ⟨h3, h4, h5⟩, h6⟩ := h; exact ⟨h0, cc, ty, fr, h1, h2, ⟨h3, h4.mono hp, h5⟩, h6⟩
  | map es c => obtain ⟨es', h1, h2, h3⟩ := h; exact ⟨es', h1, h2.mono hp, h3⟩
  | loop st pend sz env ps asg body => obtain ⟨r, h1, h2, h3, h4, h5, h6⟩ := h; exact ⟨r, h1, h2, h3, h4, h5.mono hp, h6⟩
theorem Agree.of_block {φ : Phi} {base : Nat} {w w' : World} {x : Blk} {p : PB} (hb : w'.heap[p.blk]? = w.heap[p.blk]?) (h : Agree φ base w x p) : Agree φ base w' x p := by
  cases x with
  | none => trivial
  | gone => trivial
  | cells own g cs => obtain ⟨h0, cc, ty, fr, h1, h2⟩ := h; exact ⟨h0, cc, ty, fr, hb.trans h1, h2⟩
  | map es c => obtain ⟨es', h1, h2⟩ := h; exact ⟨es', hb.trans h1, h2⟩
  | loop st pend sz env ps asg body => obtain ⟨r, h1, h2⟩ := h; exact ⟨r, hb.trans h1, h2⟩
theorem Agree.lt {φ : Phi} {base : Nat} {w : World} {x : Blk} {p : PB} (h : Agree φ base w x p) (hl : Live x) : p.blk < w.heap.size := by
  cases x with
  | none => exact hl.elim
  | gone => exact hl.elim
  | cells own g cs => obtain ⟨_, cc, ty, fr, h1, _⟩ := h; exact (Array.getElem?_eq_some_iff.1 h1).1
  | map es c => obtain ⟨es', h1, _⟩ := h; exact (Array.getElem?_eq_some_iff.1 h1).1
  | loop st pend sz env ps asg body => obtain ⟨r, h1, _⟩ := h; exact (Array.getElem?_eq_some_iff.1 h1).1
theorem Writable.live {x : Blk} (h : Writable x) : Live x := by
  unfold Writable at h; split at h <;> first | trivial | exact h.elim
structure Rel (φ : Phi) (base : Nat) (H : Nat → Blk) (w : World) : Prop where
  agree : ∀ b p, φ b = some p → Agree φ base w (H b) p
  inj : ∀ b b' p p', φ b = some p → φ b' = some p' → b ≠ b' → p.blk = p'.blk → Writable (H b) → ¬ Live (H b')
  size : base ≤ w.heap.size
  lt : ∀ b p, φ b = some p → p.blk < w.heap.size
structure Ext (φ φ' : Phi) (w : World) (lo hi : Nat) : Prop where
  le : PLe φ φ'
  new : ∀ b p, φ' b = some p → φ b = none → lo ≤ b ∧ b < hi ∧ (w.heap.size ≤ p.blk ∨ ∃ b0 p0, φ b0 = some p0 ∧ p0.blk = p.blk)
structure Keeps (φ : Phi) (base : Nat) (w w' : World) : Prop where
  below : Below base w w'
  other : ∀ C, C < w.heap.size → (∀ b p, φ b = some p → p.blk ≠ C) → w'.heap[C]? = w.heap[C]?
def ovl (H G : Nat → Blk) (lo hi : Nat) (wr : List Nat) : Nat → Blk := fun b => if (lo ≤ b ∧ b < hi) ∨ b ∈ wr then G b else H b
structure Out (φ φ' : Phi) (base : Nat) (H : Nat → Blk) (W W' : AW) (wr : List Nat) (w w' : World) : Prop where
  ext : Ext φ φ' w W.next W'.next
  rel : Rel φ' base (ovl H W'.get W.next W'.next wr) w'
  keeps : Keeps φ base w w'
theorem Ext.refl (φ : Phi) (w : World) (lo hi : Nat) : Ext φ φ w lo hi := ⟨PLe.refl φ, fun b p h h' => by rw [h] at h'; cases h'⟩
theorem Keeps.refl (φ : Phi) (base : Nat) (w : World) : Keeps φ base w w := ⟨Below.refl _ _, fun _ _ _ => rfl⟩
theorem Keeps.drew (φ : Phi) (base : Nat) (w : World) (n : Nat) : Keeps φ base w { w with drawn := n } := ⟨⟨rfl, rfl, rfl, Nat.le_refl _, fun _ _ => rfl⟩, fun _ _ _ => rfl⟩
theorem Ext.trans {a b c : Phi} {w w1 : World} {lo mid hi : Nat} (hlm : lo ≤ mid) (hmh : mid ≤ hi) (hs : w.heap.size ≤ w1.heap.size) (h : Ext a b w lo mid) (k : Ext b c w1 mid hi) : Ext a c w lo hi := by
  refine ⟨h.le.trans k.le, fun x p hc ha => ?_⟩; cases hb : b x with
  | some q =>
    have := k.le _ _ hb; rw [hc] at this; cases this; obtain ⟨h1, h2, h3⟩ := h.new x p hb ha; exact ⟨h1, by omega, h3⟩
  | none =>
    obtain ⟨h1, h2, h3⟩ := k.new x p hc hb; refine ⟨by omega, h2, ?_⟩; rcases h3 with h3 | ⟨b0, p0, h4, h5⟩
    · exact .inl (by omega)
    · cases ha0 : a b0 with
      | some q => have := h.le _ _ ha0; rw [h4] at this; cases this; exact .inr ⟨b0, p0, ha0, h5⟩
      | none =>
        obtain ⟨_, _, h6⟩ := h.new b0 p0 h4 ha0; rcases h6 with h6 | ⟨b1, p1, h7, h8⟩
        · exact .inl (by omega)
        · exact .inr ⟨b1, p1, h7, h8.trans h5⟩
theorem Keeps.trans {a b : Phi} {base : Nat} {w w1 w2 : World} {lo hi : Nat} (h : Keeps a base w w1) (he : Ext a b w lo hi) (k : Keeps b base w1 w2) : Keeps a base w w2 := by
  refine ⟨h.below.trans k.below, fun C hC hn => ?_⟩; rw [k.other C (Nat.lt_of_lt_of_le hC h.below.size) ?_, h.other C hC hn]; intro x p hx e; cases ha : a x with
  | some q => have := he.le _ _ ha; rw [hx] at this; cases this; exact hn x p ha e
  | none =>
    obtain ⟨_, _, h3⟩ := he.new x p hx ha; rcases h3 with h3 | ⟨b0, p0, h4, h5⟩
    · omega
    · exact hn b0 p0 h4 (h5.trans e)
theorem AFr.refl (W : AW) : AFr W W [] := ⟨Nat.le_refl _, fun _ _ _ => rfl, fun _ h => by simp at h⟩
theorem AFr.trans {A B C : AW} {x y : List Nat} (h : AFr A B x) (k : AFr B C y) : AFr A C (x ++ y) :=
  ⟨Nat.le_trans h.next k.next, fun b hb hn => by
    rw [List.mem_append, not_or] at hn; rw [k.same b (Nat.lt_of_lt_of_le hb h.next) hn.2, h.same b hb hn.1],
   fun b hb => (List.mem_append.1 hb).elim (fun h' => Nat.lt_of_lt_of_le (h.lt b h') k.next) (k.lt b)⟩
theorem ovl_trans {H : Nat → Blk} {A B C : AW} {x y : List Nat} (h : AFr A B x) (k : AFr B C y) :
    ovl (ovl H B.get A.next B.next x) C.get B.next C.next y = ovl H C.get A.next C.next (x ++ y) := by
  funext b; have h1 := h.next; have h2 := k.next
  simp only [ovl, List.mem_append]; by_cases c1 : (B.next ≤ b ∧ b < C.next) ∨ b ∈ y
  · rw [if_pos c1, if_pos]; rcases c1 with c1 | c1
    · exact .inl ⟨by omega, c1.2⟩
    · exact .inr (.inr c1)
  · rw [if_neg c1]; rw [not_or] at c1; by_cases c2 : (A.next ≤ b ∧ b < B.next) ∨ b ∈ x
    · rw [if_pos c2, if_pos]
      · refine (k.same b ?_ c1.2).symm; rcases c2 with c2 | c2
        · exact c2.2
        · exact h.lt b c2
      · rcases c2 with c2 | c2
        · exact .inl ⟨c2.1, by omega⟩
        · exact .inr (.inl c2)
    · rw [if_neg c2, if_neg]; rw [not_or] at c2; rintro (c3 | c3 | c3)
      · by_cases hb : b < B.next
        · exact c2.1 ⟨c3.1, hb⟩
        · exact c1.1 ⟨by omega, c3.2⟩
      · exact c2.2 c3
      · exact c1.2 c3
theorem Out.trans {φ φ1 φ2 : Phi} {base : Nat} {H : Nat → Blk} {W W1 W2 : AW} {x y : List Nat} {w w1 w2 : World} (ha : AFr W W1 x) (hb : AFr W1 W2 y)
    (h : Out φ φ1 base H W W1 x w w1) (k : Out φ1 φ2 base (ovl H W1.get W.next W1.next x) W1 W2 y w1 w2) : Out φ φ2 base H W W2 (x ++ y) w w2 :=
  ⟨h.ext.trans ha.next hb.next h.keeps.below.size k.ext, by have := k.rel; rwa [ovl_trans ha hb] at this, h.keeps.trans h.ext k.keeps⟩
theorem ovl_self (H : Nat → Blk) (G : Nat → Blk) (n : Nat) : ovl H G n n [] = H := by
  funext b; simp only [ovl]; rw [if_neg]; rintro (h | h)
  · omega
  · simp at h
theorem Out.same {φ : Phi} {base : Nat} {H : Nat → Blk} {W : AW} {w : World} (hr : Rel φ base H w) : Out φ φ base H W W [] w w :=
  ⟨Ext.refl _ _ _ _, by rw [ovl_self]; exact hr, Keeps.refl _ _ _⟩
theorem Rel.drew {φ : Phi} {base : Nat} {H : Nat → Blk} {w : World} (h : Rel φ base H w) (n : Nat) : Rel φ base H { w with drawn := n } :=
  ⟨fun b p hb => (h.agree b p hb).of_block rfl, h.inj, h.size, h.lt⟩
theorem Out.fresh {φ : Phi} {base : Nat} {H : Nat → Blk} {W : AW} {w w' : World} (hr : Rel φ base H w) (hf : φ W.next = none) (x : Blk) (p : PB)
    (hdead : ∀ c q, φ c = some q → q.blk = p.blk → ¬ Live (H c)) (hold : ∀ C, C ≠ p.blk → C < w.heap.size → w'.heap[C]? = w.heap[C]?)
    (hloc : w.heap.size ≤ p.blk ∨ ∃ b0 p0, φ b0 = some p0 ∧ p0.blk = p.blk) (hb : Below base w w')
    (hx : ∀ φ', PLe φ φ' → φ' W.next = some p → Agree φ' base w' x p) (hlv : Live x := by trivial) :
    ∃ φ', φ' W.next = some p ∧ Out φ φ' base H W (W.alloc x) [] w w' := by
  refine ⟨fun b => if b = W.next then some p else φ b, by simp, ?_⟩; have hle : PLe φ (fun b => if b = W.next then some p else φ b) := by
    intro b q hq; by_cases e : b = W.next
    · subst e; rw [hf] at hq; cases hq
    · simp [e, hq]
  have hne1 : ∀ c, c ≠ W.next → ovl H (W.alloc x).get W.next (W.alloc x).next [] c = H c := by
    intro c hc; simp only [ovl, AW.alloc, hc, if_false]; by_cases hd : W.next ≤ c ∧ c < W.next + 1
    · omega
    · rw [if_neg (by simpa using hd)]
  refine ⟨⟨hle, fun b q hq hn => ?_⟩, ⟨fun b q hq => ?_, fun b b' q q' hq hq' hne hbl hwr => ?_, ?_, fun b q hq => ?_⟩, ⟨hb, fun C hC hn => hold C ?_ hC⟩⟩
  · by_cases e : b = W.next
    · subst e; simp at hq; subst hq; exact ⟨Nat.le_refl _, by simp [AW.alloc], hloc⟩
    · simp [e, hn] at hq
  · by_cases e : b = W.next
    · subst e; simp at hq; subst hq; simp only [ovl, AW.alloc]; rw [if_pos (.inl ⟨Nat.le_refl _, by omega⟩)]; simp only [if_true]; exact hx _ hle (by simp)
    · simp only [e, if_false] at hq; rw [hne1 b e]; have ha := hr.agree b q hq; by_cases hl : Live (H b)
      · exact ((ha.of_block (hold _ (fun h => hdead b q hq h hl) (ha.lt hl)))).mono hle
      · revert hl ha
        cases H b <;> simp [Live, Agree]
  · by_cases e : b = W.next
    · have e' : b' ≠ W.next := fun h => hne (e.trans h.symm)
      rw [hne1 b' e']; simp only [e, e', if_true, if_false] at hq hq'; cases hq; exact hdead b' q' hq' hbl.symm
    · simp only [e, if_false] at hq; rw [hne1 b e] at hwr; by_cases e' : b' = W.next
      · simp only [e', if_true] at hq'; cases hq'; exact absurd hwr.live (hdead b q hq hbl)
      · simp only [e', if_false] at hq'; rw [hne1 b' e']; exact hr.inj b b' q q' hq hq' hne hbl hwr
  · have := hb.size; have := hr.size; omega
  · by_cases e : b = W.next
    · simp only [e, if_true] at hq; cases hq; exact (hx _ hle (by simp)).lt hlv
    · simp only [e, if_false] at hq; exact Nat.lt_of_lt_of_le (hr.lt b q hq) hb.size
  · rcases hloc with h | ⟨b0, p0, h1, h2⟩
    · omega
    · intro e; exact hn b0 p0 h1 (h2.trans e.symm)
theorem Out.alloc {φ : Phi} {base : Nat} {H : Nat → Blk} {W : AW} {w w' : World} (hr : Rel φ base H w) (hf : φ W.next = none) (x : Blk) (p : PB) (o : Obj)
    (hp : p.blk = w.heap.size) (hw : w'.heap = w.heap.push o) (hb : Below base w w')
    (hx : ∀ φ', PLe φ φ' → φ' W.next = some p → Agree φ' base w' x p) (hlv : Live x := by trivial) :
    ∃ φ', φ' W.next = some p ∧ Out φ φ' base H W (W.alloc x) [] w w' :=
  Out.fresh hr hf x p (fun c q hq h hl => by have := (hr.agree c q hq).lt hl; omega) (fun C _ hC => by rw [hw, Array.getElem?_push, if_neg (by omega)]) (.inl (by omega)) hb hx hlv
theorem Out.write {φ : Phi} {base : Nat} {H : Nat → Blk} {W : AW} {w w' : World} (hr : Rel φ base H w) (b : Nat) (p : PB) (hb : φ b = some p) (hHW : H b = W.get b) (hwr : Writable (W.get b)) (x : Blk)
    (hbase : base ≤ p.blk) (hs : w'.heap.size = w.heap.size) (ho : ∀ C, C ≠ p.blk → w'.heap[C]? = w.heap[C]?) (hos : w'.os = w.os ∧ w'.tape = w.tape ∧ w'.output = w.output)
    (hx : Agree φ base w' x p) : Out φ φ base H W (W.set b x) [b] w w' := by
  have hov : ovl H (W.set b x).get W.next (W.set b x).next [b] = fun c => if c = b then x else H c := by
    funext c; simp only [ovl, AW.set, List.mem_singleton]; by_cases e : c = b
    · subst e; simp
    · rw [if_neg (by rintro (h | h) <;> first | omega | exact e h), if_neg e]
  refine ⟨Ext.refl _ _ _ _, ⟨fun c q hq => ?_, fun c c' q q' hq hq' hne hbl hw' => ?_, by rw [hs]; exact hr.size, by rw [hs]; exact hr.lt⟩, ⟨⟨hos.1, hos.2.1, hos.2.2, Nat.le_of_eq hs.symm, fun k hk => ho k (by omega)⟩, fun C _ hn => ho C (fun e => hn b p hb e.symm)⟩⟩
  · rw [hov]; by_cases e : c = b
    · subst e; rw [hb] at hq; cases hq; simpa using hx
    · simp only [e, if_false]; have ha := hr.agree c q hq; by_cases hl : Live (H c)
      · refine ha.of_block (ho _ fun h => ?_); exact hr.inj b c p q hb hq (fun h => e h.symm) h.symm (by rw [hHW]; exact hwr) hl
      · revert hl ha
        cases H c <;> simp [Live, Agree]
  · rw [hov] at hw' ⊢; by_cases e : c = b
    · subst e; have e' : c' ≠ c := fun h => hne h.symm; simp only [e', if_false]; exact hr.inj c c' q q' hq hq' hne hbl (by rw [hHW]; exact hwr)
    · simp only [e, if_false] at hw'; by_cases e' : c' = b
      · subst e'; have := hr.inj c c' q q' hq hq' hne hbl hw'; rw [hHW] at this; exact absurd hwr.live this
      · simp only [e', if_false]; exact hr.inj c c' q q' hq hq' hne hbl hw'
theorem Out.kill {φ : Phi} {base : Nat} {H : Nat → Blk} {W : AW} {w : World} (hr : Rel φ base H w) (b : Nat) : Out φ φ base H W (W.set b .gone) [b] w w := by
  have hov : ovl H (W.set b .gone).get W.next (W.set b .gone).next [b] = fun c => if c = b then .gone else H c := by
    funext c; simp only [ovl, AW.set, List.mem_singleton]; by_cases e : c = b
    · subst e; simp
    · rw [if_neg (by rintro (h | h) <;> first | omega | exact e h), if_neg e]
  refine ⟨Ext.refl _ _ _ _, ⟨fun c q hq => ?_, fun c c' q q' hq hq' hne hbl hw' => ?_, hr.size, hr.lt⟩, Keeps.refl _ _ _⟩
  · rw [hov]; by_cases e : c = b
    · subst e; simp [Agree]
    · simp only [e, if_false]; exact hr.agree c q hq
  · rw [hov] at hw' ⊢; by_cases e : c = b
    · subst e; simp [Writable] at hw'
    · simp only [e, if_false] at hw'; by_cases e' : c' = b
      · subst e'; simp [Live]
      · simp only [e', if_false]; exact hr.inj c c' q q' hq hq' hne hbl hw'
theorem Out.kill_then {φ φ' : Phi} {base : Nat} {H : Nat → Blk} {W : AW} {w w' : World} (b : Nat) (x : Blk)
    (h : Out φ φ' base (ovl H (W.set b .gone).get W.next (W.set b .gone).next [b]) (W.set b .gone) ((W.set b .gone).alloc x) [] w w') :
    Out φ φ' base H W ((W.set b .gone).alloc x) [b] w w' := by
  refine ⟨h.ext, ?_, h.keeps⟩; have : ovl H ((W.set b .gone).alloc x).get W.next ((W.set b .gone).alloc x).next [b] =
      ovl (ovl H (W.set b .gone).get W.next (W.set b .gone).next [b]) ((W.set b .gone).alloc x).get (W.set b .gone).next ((W.set b .gone).alloc x).next [] := by
    funext c; simp only [ovl, AW.alloc, AW.set, List.mem_singleton, List.not_mem_nil, or_false]; by_cases h1 : W.next ≤ c ∧ c < W.next + 1
    · have : c = W.next := by omega
      simp [this]
    · by_cases h2 : c = b
      · subst h2; have h3 : ¬ c = W.next := by omega
        have h4 : ¬ (W.next ≤ c ∧ c < W.next) := by omega
        simp [h1, h3]
      · have h4 : ¬ (W.next ≤ c ∧ c < W.next) := by omega
        simp [h1, h2, h4]
  rw [this]; exact h.rel
end Go.Abs
