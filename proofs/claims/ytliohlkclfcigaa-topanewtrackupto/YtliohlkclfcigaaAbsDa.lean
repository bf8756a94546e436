/- A part of the proof that TopAnewTrack returns true at every input of bulk at most 1048576: each operation, met by the machine. -/
import Derived.Test.YtliohlkclfcigaaAbsC
import Derived.Laws.Cells
import Derived.Laws.Entries
import Derived.RangeFuncRecord
import Derived.Laws.StructEq
set_option linter.unusedVariables false
set_option linter.unusedSimpArgs false
namespace Go.Abs
open Go.RowKit (Below)
structure TFacts (P : Program) (t : TypeId) (ti : TI) : Prop where
  size : ∀ w, (sizeOf t).run P w = .ok ti.size w
  zero : ∀ w, (zeroValue t).run P w = .ok ti.zero w
  agg : ∀ w, (isAgg t).run P w = .ok ti.agg w
  und : ∃ d, kindOf d = ti.kind ∧ P.underlying t = some d ∧ ∀ w, (underlying t).run P w = .ok d w
  info : ∃ i : TypeInfo, i.bytes = ti.bytes ∧ i.size = ti.size ∧ P.info? t = some i ∧ ∀ w, (typeInfo t).run P w = .ok i w
  closed : closed ti.zero = true
  len : (cellsOf ti.zero).length = ti.size
  aggz : ti.agg = true ↔ ∃ cs, ti.zero = .agg cs
  aggk : ti.agg = isAggK ti.kind
theorem tinfo_facts {P : Program} {t : TypeId} {ti : TI} (h : tinfo P t = some ti) : TFacts P t ti := by
  unfold tinfo at h; split at h
  case h_2 => cases h
  rename_i i hi; split at h
  case h_2 => cases h
  rename_i d hd; split at h
  case h_2 => cases h
  rename_i z hz; split at h
  case isFalse => cases h
  rename_i hc; cases h; simp only [Bool.and_eq_true, beq_iff_eq] at hc; obtain ⟨⟨h1, h2⟩, h3⟩ := hc; have hti : ∀ w, (typeInfo t).run P w = .ok i w := fun w => by simp [typeInfo, hi]
  refine ⟨fun w => by simp [sizeOf, hti], fun w => by simp [zeroValue, hti, hz], fun w => ?_, ⟨d, rfl, hd, fun w => run_underlying hd w⟩, ⟨i, rfl, rfl, hi, hti⟩, h1, h2, ?_, rfl⟩
  · simp only [isAgg, Sem.run_bind, run_underlying hd, Result.andThen_ok]; cases d <;> rfl
  · show isAggK (kindOf d) = true ↔ _; rw [h3]; cases z <;> simp [isAggV]
theorem kind_slice {d : TypeDesc} {e : TypeId} (h : kindOf d = .slice e) : d = .slice e := by cases d <;> simp [kindOf] at h; rw [h]
theorem kind_array {d : TypeDesc} {n : Nat} {e : TypeId} (h : kindOf d = .array n e) : d = .array n e := by cases d <;> simp [kindOf] at h; rw [h.1, h.2]
theorem kind_map {d : TypeDesc} {k e : TypeId} (h : kindOf d = .map k e) : d = .map k e := by cases d <;> simp [kindOf] at h; rw [h.1, h.2]
theorem kind_int {d : TypeDesc} {k : IntKind} (h : kindOf d = .int k) : d = .int k := by cases d <;> simp [kindOf] at h; rw [h]
theorem kind_bool {d : TypeDesc} (h : kindOf d = .bool) : d = .bool := by cases d <;> simp [kindOf] at h; rfl
theorem kind_string {d : TypeDesc} (h : kindOf d = .string) : d = .string := by cases d <;> simp [kindOf] at h; rfl
theorem kind_pointer {d : TypeDesc} {e : TypeId} (h : kindOf d = .pointer e) : d = .pointer e := by cases d <;> simp [kindOf] at h; rw [h]
theorem kind_iface {d : TypeDesc} (h : kindOf d = .iface) : ∃ ms, d = .interface ms := by cases d <;> simp [kindOf] at h; exact ⟨_, rfl⟩
theorem get_of_agree {φ : Phi} {base : Nat} {w : World} {own : Bool} {g : Nat} {cs : List Value} {p : PB} (h : Agree φ base w (.cells own g cs) p) (o n : Nat) (hn : o + n ≤ cs.length) :
    ∃ vs', LR φ ((cs.drop o).take n) vs' ∧ vs'.length = n ∧ OneC ((cs.drop o).take n) ∧
      ∀ j v', vs'[j]? = some v' → w.cell? (Addr.add ⟨p.blk, p.off + o, none⟩ j) = some v' := by
  obtain ⟨_, cc, ty, fr, h1, h2, ⟨h3, h4, h5⟩, _⟩ := h; refine ⟨(((cc.toList.drop p.off).take cs.length).drop o).take n, (h4.drop o).take n, ?_, (h5.drop o).take n, fun j v' hv => ?_⟩
  · simp; omega
  · have hj : j < n := by
      have := (List.getElem?_eq_some_iff.1 hv).1; simp at this; omega
    rw [List.getElem?_take_of_lt hj, List.getElem?_drop, List.getElem?_take_of_lt (by omega), List.getElem?_drop, Array.getElem?_toList] at hv; have : (Addr.add ⟨p.blk, p.off + o, none⟩ j : Addr) = ⟨p.blk, p.off + o + j, none⟩ := by
      unfold Addr.add; split
      · subst_vars; rfl
      · rfl
    rw [this]; simp only [World.cell?, h1]
    simpa [Nat.add_assoc] using hv
theorem run_row {P : Program} {φ : Phi} {base : Nat} {H : Nat → Blk} {W : AW} {w : World} (hr : Rel φ base H w) {b o n : Nat} {p : PB} (hp : φ b = some p) (hH : H b = W.get b)
    {vs : List Value} (h : W.row ⟨b, o, none⟩ n = some vs) : ∃ vs', LR φ vs vs' ∧ vs.length = n ∧ OneC vs ∧ (loadCells ⟨p.blk, p.off + o, none⟩ n).run P w = .ok vs'.toArray w ∧
      ∀ v', vs'.head? = some v' → w.cell? ⟨p.blk, p.off + o, none⟩ = some v' := by
  unfold AW.row at h; split at h
  case h_2 => cases h
  rename_i own g cs hg; split at h
  case isFalse => cases h
  rename_i hle; cases h; have ha := hr.agree b p hp; rw [hH] at ha; have hg' : W.get b = .cells own g cs := hg; rw [hg'] at ha; have hle' : o + n ≤ cs.length := hle; obtain ⟨vs', h1, h2, h3, h4⟩ := get_of_agree ha o n hle'; refine ⟨vs', h1, by rw [h1.length, h2], h3, ?_, fun v' hv => ?_⟩
  · rw [← h2]; exact run_loadCells_list w _ vs' h4
  · have := h4 0 v' (by rw [← hv, List.head?_eq_getElem?])
    simpa [Addr.add] using this
theorem run_row_k {P : Program} {φ : Phi} {base : Nat} {H : Nat → Blk} {W : AW} {w : World} (hr : Rel φ base H w) {b o n : Nat} {p : PB} (hp : φ b = some p) (hH : H b = W.get b)
    {vs : List Value} (h : W.row ⟨b, o, none⟩ n = some vs) : ∃ vs', LR φ vs vs' ∧ vs.length = n ∧ OneC vs ∧ ∀ k, (loadCells ⟨p.blk, p.off + o, none⟩ n).run P { w with drawn := k } = .ok vs'.toArray { w with drawn := k } := by
  unfold AW.row at h; split at h
  case h_2 => cases h
  rename_i own g cs hg; split at h
  case isFalse => cases h
  rename_i hle; cases h; have ha := hr.agree b p hp; rw [hH] at ha; have hg' : W.get b = .cells own g cs := hg; rw [hg'] at ha; have hle' : o + n ≤ cs.length := hle; obtain ⟨vs', h1, h2, h3, h4⟩ := get_of_agree ha o n hle'; refine ⟨vs', h1, by rw [h1.length, h2], h3, fun k => ?_⟩; rw [← h2]; exact run_loadCells_list _ _ vs' (fun j v hv => h4 j v hv)
def wset (w : World) (C : Nat) (o : Obj) : World := { w with heap := w.heap.setIfInBounds C o }
theorem setCell_wset {w : World} {C : Nat} {cc : Array Value} {ty : TypeId} {fr : Nat × Nat} (h : w.heap[C]? = some (.cells cc ty fr)) (off : Nat) (v : Value) :
    w.setCell ⟨C, off, none⟩ v = wset w C (.cells (cc.setIfInBounds off v) ty fr) := by
  obtain ⟨hlt, hg⟩ := Array.getElem?_eq_some_iff.1 h; unfold World.setCell wset; congr 1; apply Array.ext_getElem?; intro i; rw [Array.getElem?_modify]; by_cases e : C = i
  · subst e; rw [if_pos rfl, h, Array.getElem?_setIfInBounds_self, if_pos hlt]; rfl
  · rw [if_neg e, Array.getElem?_setIfInBounds_ne e]
theorem wset_get {w : World} {C : Nat} {o : Obj} (h : C < w.heap.size) : (wset w C o).heap[C]? = some o := by
  unfold wset; simp [h]
theorem wset_other {w : World} {C D : Nat} {o : Obj} (h : D ≠ C) : (wset w C o).heap[D]? = w.heap[D]? := by
  unfold wset; simp [Array.getElem?_setIfInBounds_ne (Ne.symm h)]
theorem wset_wset (w : World) (C : Nat) (o o' : Obj) : wset (wset w C o) C o' = wset w C o' := by
  unfold wset; simp [Array.setIfInBounds_setIfInBounds]
theorem wset_id {w : World} {C : Nat} {o : Obj} (h : w.heap[C]? = some o) : wset w C o = w := by
  unfold wset; have : w.heap.setIfInBounds C o = w.heap := by
    apply Array.ext_getElem?; intro i; by_cases e : C = i
    · subst e; have := (Array.getElem?_eq_some_iff.1 h).1; rw [Array.getElem?_setIfInBounds_self, if_pos this, h]
    · rw [Array.getElem?_setIfInBounds_ne e]
  rw [this]
def arrPut (cc : Array Value) (off : Nat) : List Value → Array Value
  | [] => cc
  | v :: vs => arrPut (cc.setIfInBounds off v) (off + 1) vs
theorem arrPut_size (vs : List Value) : ∀ (cc : Array Value) (off : Nat), (arrPut cc off vs).size = cc.size := by
  induction vs with
  | nil => intro cc off; rfl
  | cons v vs ih => intro cc off; simp [arrPut, ih]
theorem arrPut_get (vs : List Value) : ∀ (cc : Array Value) (off i : Nat), off + vs.length ≤ cc.size →
    (arrPut cc off vs)[i]? = if off ≤ i ∧ i < off + vs.length then vs[i - off]? else cc.toList[i]? := by
  simp only [Array.getElem?_toList]
  induction vs with
  | nil => intro cc off i _; rw [if_neg (by simp only [List.length_nil]; omega)]; rfl
  | cons v vs ih =>
    intro cc off i h; simp only [List.length_cons] at h; simp only [arrPut, List.length_cons]; rw [ih _ _ _ (by simp; omega)]; by_cases c1 : off + 1 ≤ i ∧ i < off + 1 + vs.length
    · rw [if_pos c1, if_pos (by omega), show i - off = (i - (off + 1)) + 1 by omega]; rfl
    · rw [if_neg c1]; by_cases c2 : i = off
      · subst c2; rw [if_pos (by omega), Array.getElem?_setIfInBounds_self, if_pos (by omega)]; simp
      · rw [if_neg (by omega), Array.getElem?_setIfInBounds_ne (by omega)]
theorem run_storeCells {P : Program} (vs : List Value) (ho : OneC vs) : ∀ (w : World) (C off i : Nat) (cc : Array Value) (ty : TypeId) (fr : Nat × Nat), w.heap[C]? = some (.cells cc ty fr) →
    off + i + vs.length ≤ cc.size → (∀ o, o < cc.size → ¬ (fr.1 ≤ o ∧ o < fr.2)) → (storeCells ⟨C, off, none⟩ vs i).run P w = .ok () (wset w C (.cells (arrPut cc (off + i) vs) ty fr)) := by
  induction vs with
  | nil => intro w C off i cc ty fr h _ _; simp [storeCells, arrPut, wset_id h]
  | cons v vs ih =>
    intro w C off i cc ty fr h hle hfr; simp only [List.length_cons] at hle; have ha : (Addr.add ⟨C, off, none⟩ i : Addr) = ⟨C, off + i, none⟩ := by
      unfold Addr.add; split
      · subst_vars; rfl
      · rfl
    have hlt := (Array.getElem?_eq_some_iff.1 h).1; have hc : w.cell? ⟨C, off + i, none⟩ = some cc[off + i] := by simp [World.cell?, h]
    have hf : w.frozen? ⟨C, off + i, none⟩ = false := by
      simp only [World.frozen?, h]; have := hfr (off + i) (by omega)
      simpa using this
    unfold storeCells; simp only [Sem.run_bind, ha]; rw [run_store P w _ v _ (ho v (by simp)), hc]; simp only [hf, Bool.false_eq_true, if_false, Result.andThen_ok]; rw [setCell_wset h]; rw [ih (fun x hx => ho x (by simp [hx])) _ C off (i + 1) _ ty fr (wset_get hlt) (by simp; omega) (by simpa using hfr), wset_wset]; rfl
theorem splice_get (cs : List Value) (o : Nat) (vs : List Value) (h : o + vs.length ≤ cs.length) (i : Nat) :
    (splice cs o vs)[i]? = if o ≤ i ∧ i < o + vs.length then vs[i - o]? else cs[i]? := by
  unfold splice; have e : (cs.take o).length = o := by simp; omega
  by_cases c1 : i < o
  · rw [if_neg (by omega), List.getElem?_append_left (by omega), List.getElem?_take_of_lt c1]
  · rw [List.getElem?_append_right (by omega), e]; by_cases c2 : i < o + vs.length
    · rw [if_pos (by omega), List.getElem?_append_left (by omega)]
    · rw [if_neg (by omega), List.getElem?_append_right (by omega), List.getElem?_drop]; congr 1; omega
theorem arrPut_toList (cc : Array Value) (off : Nat) (vs : List Value) (h : off + vs.length ≤ cc.size) : (arrPut cc off vs).toList = splice cc.toList off vs := by
  apply List.ext_getElem?; intro i; rw [Array.getElem?_toList, arrPut_get vs cc off i h, splice_get _ _ _ (by simpa using h)]
theorem splice_length (cs : List Value) (o : Nat) (vs : List Value) (h : o + vs.length ≤ cs.length) : (splice cs o vs).length = cs.length := by
  unfold splice; simp; omega
theorem run_put {P : Program} {φ : Phi} {base : Nat} {H : Nat → Blk} {W W' : AW} {w : World} (hr : Rel φ base H w) {b o : Nat} {p : PB} (hp : φ b = some p) (hH : H b = W.get b)
    {vs vs' : List Value} (hv : LR φ vs vs') (ho : OneC vs) (h : W.put ⟨b, o, none⟩ vs = some W') :
    ∃ w', (storeCells ⟨p.blk, p.off + o, none⟩ vs').run P w = .ok () w' ∧ Out φ φ base H W W' [b] w w' := by
  unfold AW.put at h; split at h
  case h_2 => cases h
  rename_i g cs hg; split at h
  case isFalse => cases h
  rename_i hle; cases h; have hg' : W.get b = .cells true g cs := hg; have hle' : o + vs.length ≤ cs.length := hle; have ha := hr.agree b p hp; rw [hH, hg'] at ha; obtain ⟨h0, cc, ty, fr, h1, h2, ⟨h3, h4, h5⟩, h6⟩ := ha; obtain ⟨h6, h7⟩ := h6.1 rfl; have hlt := (Array.getElem?_eq_some_iff.1 h1).1; have hl := hv.length; have hbd : p.off + o + vs'.length ≤ cc.size := by omega
  have hrun := run_storeCells (P := P) vs' (hv.oneC ho) w p.blk (p.off + o) 0 cc ty fr h1 (by omega) h6; simp only [Nat.add_zero] at hrun; refine ⟨_, hrun, Out.write hr b p hp hH (by rw [hg']; trivial) _ h7 (by simp [wset]) (fun C hC => wset_other hC) ⟨rfl, rfl, rfl⟩ ?_⟩; refine ⟨h0, _, ty, fr, wset_get hlt, by rw [arrPut_size]; exact h2, ⟨?_, ?_, h5.splice ho o⟩, fun _ => ⟨by rw [arrPut_size]; exact h6, h7⟩, fun h => by cases h⟩
  · rw [arrPut_size, splice_length _ _ _ hle']; exact h3
  · rw [splice_length _ _ _ hle', arrPut_toList _ _ _ hbd]; have hsp : ((splice cc.toList (p.off + o) vs').drop p.off).take cs.length = splice ((cc.toList.drop p.off).take cs.length) o vs' := by
      apply List.ext_getElem?; intro i; rw [splice_get _ _ _ (by simp; omega)]; by_cases hi : i < cs.length
      · rw [List.getElem?_take_of_lt hi, List.getElem?_drop, splice_get _ _ _ (by simpa using hbd)]; by_cases c : o ≤ i ∧ i < o + vs'.length
        · rw [if_pos c, if_pos (by omega)]; congr 1; omega
        · rw [if_neg c, if_neg (by omega), List.getElem?_take_of_lt hi, List.getElem?_drop]
      · rw [List.getElem?_eq_none (by simp; omega), if_neg (by omega), List.getElem?_eq_none (by simp; omega)]
    rw [hsp]; exact h4.splice hv o
theorem out_newCells {φ : Phi} {base : Nat} {H : Nat → Blk} {W : AW} {w : World} (hr : Rel φ base H w) (hf : φ W.next = none) (ty : TypeId) (g : Nat) {vs : List Value} {cc : Array Value}
    (hv : LR φ vs (cc.toList.take vs.length)) (hl : vs.length ≤ cc.size) (ho : OneC vs) (n : Nat) :
    ∃ φ', φ' W.next = some ⟨w.heap.size, 0, g, cc.size⟩ ∧
      Out φ φ' base H W (W.alloc (.cells true g vs)) [] w { w with heap := w.heap.push (.cells cc ty), drawn := n } := by
  refine Out.alloc hr hf (.cells true g vs) ⟨w.heap.size, 0, g, cc.size⟩ (.cells cc ty) rfl rfl ?_ ?_
  · have := hr.size; exact ⟨rfl, rfl, rfl, by simp, fun k hk => by simp only [Array.getElem?_push]; rw [if_neg (by omega)]⟩
  · intro φ' hle _; refine ⟨rfl, cc, ty, (0, 0), by simp, rfl, ⟨by simpa using hl, by simpa using hv.mono hle, ho⟩, fun _ => ⟨fun o _ => by omega, hr.size⟩, fun h => by cases h⟩
theorem Value.cells_eq (v : Value) : v.cells.toList = cellsOf v := by cases v <;> rfl
end Go.Abs
namespace Go.Abs
open Go.RowKit (Below)
def NR (φ : Phi) (W : AW) : ANext → Next → Prop
  | .value v, .value v' => VR φ v v'
  | .skip, .skip => True
  | .enter f args, .enter f' args' => f = f' ∧ LR φ args args'.toList
  | .round l args, .round l' _ tmps asg body => ∃ p st pend sz env ps, φ l = some p ∧ l' = p.blk ∧ W.get l = .loop st pend sz env ps asg body ∧ TR φ (updAll env (ps.zip args)) tmps ∧ tmps.size = sz
  | .defer f args, .defer d => ∃ as cap, d = ⟨.fn (.func f) cap, as⟩ ∧ LR φ args (as.toList ++ cap.toList)
  | .recover, .recover => True
  | _, _ => False
def OpSim (P : Program) (φ : Phi) (base : Nat) (H : Nat → Blk) (W : AW) (w : World) (s : Sem Next) (r : OpR) : Prop :=
  match r.x with
  | .panic v => ∃ v', s.run P w = .halt (.panic v') w ∧ VR φ v v' ∧ r.W = W ∧ r.wr = []
  | x => ∃ φ' w' nx, s.run P w = .ok nx w' ∧ NR φ' r.W x nx ∧ Out φ φ' base H W r.W r.wr w w'
variable {P : Program} {φ : Phi} {base : Nat} {H : Nat → Blk} {W : AW} {w : World}
theorem OpSim.val {s : Sem Next} {v v' : Value} (hr : Rel φ base H w) (hs : s.run P w = .ok (.value v') w) (hv : VR φ v v') : OpSim P φ base H W w s (okV W v) :=
  ⟨φ, w, .value v', hs, hv, Out.same hr⟩
theorem OpSim.valrd {s : Sem Next} {v v' : Value} {rd : List Nat} (hr : Rel φ base H w) (hs : s.run P w = .ok (.value v') w) (hv : VR φ v v') : OpSim P φ base H W w s ⟨.value v, W, rd, []⟩ :=
  ⟨φ, w, .value v', hs, hv, Out.same hr⟩
theorem OpSim.mk {s : Sem Next} {r : OpR} {φ' : Phi} {w' : World} {nx : Next} (hs : s.run P w = .ok nx w') (hn : NR φ' r.W r.x nx) (ho : Out φ φ' base H W r.W r.wr w w') : OpSim P φ base H W w s r := by
  unfold OpSim; split
  · rename_i v hv; rw [hv] at hn; cases nx <;> exact hn.elim
  · exact ⟨φ', w', nx, hs, hn, ho⟩
theorem sim_newVar (hr : Rel φ base H w) (hf : φ W.next = none) (t : TypeId) {v v' : Value} (hv : VR φ v v') (ho : OneC (cellsOf v)) :
    ∃ φ' w', (newVar t v').run P w = .ok ⟨w.heap.size, 0, none⟩ w' ∧ φ' W.next = some ⟨w.heap.size, 0, 0, v'.cells.size⟩ ∧ Out φ φ' base H W (W.alloc (.cells true 0 (cellsOf v))) [] w w' := by
  have hc := hv.cells; have hl := hc.length; obtain ⟨φ', h1, h2⟩ := out_newCells (cc := v'.cells) hr hf t 0 (vs := cellsOf v) (by rw [hl, List.take_length]; exact hc) (by simp at hl; omega) ho w.drawn; exact ⟨φ', _, rfl, h1, h2⟩
theorem VR.newPtr {φ' : Phi} {W : AW} {C g n : Nat} (h : φ' W.next = some ⟨C, 0, g, n⟩) : VR φ' (.pointer (some ⟨W.next, 0, none⟩)) (.pointer (some ⟨C, 0, none⟩)) := by
  have := VR.ptr (φ := φ') W.next 0 _ h
  simpa using this
theorem sim_alloc (hr : Rel φ base H w) (hf : φ W.next = none) {t : TypeId} {ti : TI} (ht : tinfo P t = some ti) :
    OpSim P φ base H W w (do pure (.value (← Instr.alloc t true (.tuple #[])))) ⟨.value (.pointer (some ⟨W.next, 0, none⟩)), W.alloc (.cells true 0 (cellsOf ti.zero)), [], []⟩ := by
  have hT := tinfo_facts ht; obtain ⟨φ', w', h1, h2, h3⟩ := sim_newVar (P := P) hr hf t (VR.closed (φ := φ) hT.closed) (closed_cells_one hT.closed); refine OpSim.mk (φ' := φ') (w' := w') (nx := .value (.pointer (some ⟨w.heap.size, 0, none⟩))) ?_ (VR.newPtr h2) h3; simp [Instr.alloc, hT.zero, h1]
theorem sim_box (hr : Rel φ base H w) (hf : φ W.next = none) {t : TypeId} {v v' : Value} (hv : VR φ v v') (ho : OneC (cellsOf v)) :
    OpSim P φ base H W w (do pure (.value (← Instr.box t v'))) ⟨.value (.pointer (some ⟨W.next, 0, none⟩)), W.alloc (.cells true 0 (cellsOf v)), [], []⟩ := by
  obtain ⟨φ', w', h1, h2, h3⟩ := sim_newVar (P := P) hr hf t hv ho; refine OpSim.mk (φ' := φ') (w' := w') (nx := .value (.pointer (some ⟨w.heap.size, 0, none⟩))) ?_ (VR.newPtr h2) h3; simp [Instr.box, h1]
theorem sim_load (hr : Rel φ base H w) {t : TypeId} {ti : TI} (ht : tinfo P t = some ti) {x' : Value} {a : Addr} (hx : VR φ (.pointer (some a)) x')
    (hH : ∀ b p, φ b = some p → b = a.block → H b = W.get b) {vs : List Value} {v : Value} (hrow : W.row a ti.size = some vs) (hv : mkV ti vs = some v) (rd : List Nat) :
    OpSim P φ base H W w (do pure (.value (← Instr.loadAt t x'))) ⟨.value v, W, rd, []⟩ := by
  have hT := tinfo_facts ht; cases hx with
  | ptr b o p hp =>
    obtain ⟨vs', h1, h2, h3, h4, h5⟩ := run_row (P := P) hr hp (hH b p hp rfl) hrow; unfold mkV at hv; by_cases ha : ti.agg = true
    · rw [if_pos ha] at hv; cases hv; refine OpSim.valrd hr ?_ (VR.mkAgg h1 h3); simp [Instr.loadAt, Instr.sureAddr, loadVar, hT.agg, ha, hT.size, h4]
    · rw [if_neg ha] at hv; have ha' : ti.agg = false := by simpa using ha
      cases vs with
      | nil => cases hv
      | cons u us =>
        simp at hv; subst hv; cases h1 with
        | cons hu _ =>
          refine OpSim.valrd hr ?_ hu; have := h5 _ rfl; simp [Instr.loadAt, Instr.sureAddr, loadVar, hT.agg, ha', this]
theorem sim_store (hr : Rel φ base H w) {t : TypeId} {ti : TI} (ht : tinfo P t = some ti) {x' y y' : Value} {a : Addr} (hx : VR φ (.pointer (some a)) x') (hy : VR φ y y')
    (ho : OneC (cellsOf y)) (hH : ∀ b p, φ b = some p → b = a.block → H b = W.get b) (hl : (cellsOf y).length = ti.size) {W' : AW} (hput : W.put a (cellsOf y) = some W') (rd : List Nat) :
    OpSim P φ base H W w (do Instr.storeAt t x' y'; pure .skip) ⟨.skip, W', rd, [a.block]⟩ := by
  have hT := tinfo_facts ht; cases hx with
  | ptr b o p hp =>
    obtain ⟨w', h1, h2⟩ := run_put (P := P) hr hp (hH b p hp rfl) hy.cells ho hput; have hc := hy.cells.length; have hs : y'.cells.size = ti.size := by simp at hc; omega
    refine OpSim.mk (φ' := φ) (w' := w') (nx := .skip) ?_ trivial h2; simp [Instr.storeAt, Instr.sureAddr, storeVar, hT.size, hs, h1]
theorem foldl_zipIdx_put (l : List Value) : ∀ (k off : Nat) (cells : Array Value),
    (l.zipIdx k).foldl (fun cs (x : Value × Nat) => cs.setIfInBounds (off + x.2) x.1) cells = arrPut cells (off + k) l := by
  induction l with
  | nil => intro k off cells; rfl
  | cons v l ih => intro k off cells; simp only [List.zipIdx_cons, List.foldl_cons, ih, arrPut]; rfl
theorem fill_ok {pl : List (Nat × Nat)} {place : Nat → Option (Nat × Nat)} (hpl : ∀ i x, pl[i]? = some x → place i = some x) :
    ∀ {ps ps' : List (Nat × Value)} {cells cells' : List Value} {cc : Array Value}, ps.map (·.1) = ps'.map (·.1) → LR φ (ps.map (·.2)) (ps'.map (·.2)) → (∀ x ∈ ps, OneC (cellsOf x.2)) →
      LR φ cells cc.toList → OneC cells → fillL pl cells ps = some cells' → ∃ cc', Instr.fill place cc ps' = some cc' ∧ LR φ cells' cc'.toList ∧ OneC cells'
  | [], [], cells, cells', cc, _, _, _, hc, ho, h => by simp [fillL] at h; subst h; exact ⟨cc, rfl, hc, ho⟩
  | [], _ :: _, _, _, _, h, _, _, _, _, _ => by simp at h
  | _ :: _, [], _, _, _, h, _, _, _, _, _ => by simp at h
  | (i, v) :: ps, (i', v') :: ps', cells, cells', cc, h1, h2, h3, hc, ho, h => by
    simp only [List.map_cons, List.cons.injEq] at h1; obtain ⟨rfl, h1⟩ := h1; simp only [List.map_cons] at h2; cases h2 with
    | cons hv h2 =>
      unfold fillL at h; cases hpi : pl[i]? with
      | none => simp [hpi] at h
      | some x =>
        obtain ⟨off, size⟩ := x; simp only [hpi] at h; split at h
        case isFalse => cases h
        rename_i hle; have hl := hv.cells.length; have hl2 := hc.length; have hcc : cc.size = cells.length := by simpa using hl2.symm
        have hvs : v'.cells.size = size := by simp at hl; omega
        have hput : arrPut cc off v'.cells.toList = ⟨splice cc.toList off v'.cells.toList⟩ := by
          apply Array.ext'; rw [arrPut_toList _ _ _ (by simp; omega)]
        obtain ⟨cc', g1, g2, g3⟩ := fill_ok hpl (cc := arrPut cc off v'.cells.toList) h1 h2 (fun x hx => h3 x (by simp [hx]))
          (by rw [hput]; exact hc.splice hv.cells off) (ho.splice (h3 (i, v) (by simp)) off) h
        refine ⟨cc', ?_, g2, g3⟩; unfold Instr.fill; simp only [hpl i _ hpi]; rw [if_neg (by simp [hvs, hcc]; omega)]; have : v'.cells.zipIdx.foldl (fun cs (x : Value × Nat) => cs.setIfInBounds (off + x.2) x.1) cc = arrPut cc off v'.cells.toList := by
          rw [← Array.foldl_toList, Array.toList_zipIdx, foldl_zipIdx_put]; rfl
        rw [← g1, ← this]
theorem run_mapM_pure {α β : Type} (f : α → Sem β) (g : α → Option β) : ∀ {l : List α} {r : List β} (w : World), l.mapM g = some r → (∀ x ∈ l, ∀ y, g x = some y → (f x).run P w = .ok y w) → (l.mapM f).run P w = .ok r w
  | [], r, w, h, _ => by simp at h; subst h; rfl
  | x :: l, r, w, h, hf => by
    simp only [List.mapM_cons, Option.bind_eq_bind, Option.bind_eq_some_iff, Option.pure_def, Option.some.injEq] at h; obtain ⟨y, hy, ys, hys, rfl⟩ := h; simp only [List.mapM_cons, Sem.run_bind, hf x (by simp) y hy, Result.andThen_ok, run_mapM_pure f g w hys (fun z hz => hf z (by simp [hz])), Sem.run_pure]
theorem sim_build (hr : Rel φ base H w) {t : TypeId} {ti : TI} (ht : tinfo P t = some ti) {pl : List (Nat × Nat)} (hpl : places P t = some pl) {ps : List (Nat × Value)} {ps' : Array (Nat × Value)}
    (h1 : ps.map (·.1) = ps'.toList.map (·.1)) (h2 : LR φ (ps.map (·.2)) (ps'.toList.map (·.2))) (h3 : ∀ x ∈ ps, OneC (cellsOf x.2)) {cs : List Value} (hc : fillL pl (cellsOf ti.zero) ps = some cs) :
    OpSim P φ base H W w (do pure (.value (← Instr.build t ps'))) (okV W (.agg ⟨cs⟩)) := by
  have hT := tinfo_facts ht; obtain ⟨d, hd, hu, hrun⟩ := hT.und; have hz : LR φ (cellsOf ti.zero) ti.zero.cells.toList := (VR.closed hT.closed).cells; unfold places at hpl; rw [hu] at hpl; cases d with
  | struct fs =>
    simp only at hpl; have hpl' : (fs.mapM fun (f : Field) => do pure (f.offset, ← sizeOf f.type)).run P w = .ok pl.toArray w := by
      rw [Array.mapM_eq_mapM_toList]; simp only [Sem.run_map]; rw [run_mapM_pure (P := P) _ _ w hpl]
      · rfl
      · intro x _ y hy; simp only [Option.map_eq_some_iff] at hy; obtain ⟨i, hi, rfl⟩ := hy; simp [sizeOf, typeInfo, hi]
    obtain ⟨cc', g1, g2, g3⟩ := fill_ok (φ := φ) (pl := pl) (place := (pl.toArray[·]?)) (fun i x h => by simpa using h) h1 h2 h3 hz (closed_cells_one hT.closed) hc; refine OpSim.val hr (v' := .agg cc') ?_ (VR.mkAgg (l := cs) (l' := cc'.toList) g2 g3); simp only [Instr.build, Sem.run_bind, hT.zero, Result.andThen_ok, hrun, hpl', g1, Sem.run_pure]
  | array n e =>
    simp only at hpl; cases hi : P.info? e with
    | none => simp [hi] at hpl
    | some i =>
      simp only [hi, Option.some.injEq] at hpl; subst hpl; obtain ⟨cc', g1, g2, g3⟩ := fill_ok (φ := φ) (pl := (List.range n).map fun k => (k * i.size, i.size)) (place := fun k => some (k * i.size, i.size))
        (fun k x h => by
          simp only [List.getElem?_map, Option.map_eq_some_iff] at h; obtain ⟨j, hj, rfl⟩ := h; obtain ⟨hj1, hj2⟩ := List.getElem?_eq_some_iff.1 hj; simp at hj2; rw [hj2]) h1 h2 h3 hz (closed_cells_one hT.closed) hc
      refine OpSim.val hr (v' := .agg cc') ?_ (VR.mkAgg (l := cs) (l' := cc'.toList) g2 g3); have hsz : (sizeOf e).run P w = .ok i.size w := by simp [sizeOf, typeInfo, hi]
      simp only [Instr.build, Sem.run_bind, hT.zero, Result.andThen_ok, hrun, hsz, g1, Sem.run_pure]
  | _ => simp at hpl
theorem flatten_replicate_get (zs : List Value) (s : Nat) (hz : zs.length = s) : ∀ (n i : Nat), i < n * s → (List.replicate n zs).flatten[i]? = zs[i % s]?
  | 0, i, h => by omega
  | n + 1, i, h => by
    rw [List.replicate_succ, List.flatten_cons]; by_cases hi : i < s
    · rw [List.getElem?_append_left (by omega), Nat.mod_eq_of_lt hi]
    · have e : i % s = (i - s) % s := Nat.mod_eq_sub_mod (by omega); rw [List.getElem?_append_right (by omega), hz, flatten_replicate_get zs s hz n (i - s) (by rw [Nat.succ_mul] at h; omega), e]
theorem flatten_replicate_length (zs : List Value) (n : Nat) : (List.replicate n zs).flatten.length = n * zs.length := by
  induction n with
  | zero => simp
  | succ n ih => rw [List.replicate_succ, List.flatten_cons, List.length_append, ih, Nat.succ_mul]; omega
theorem zeroRows_toList (z : Value) (s : Nat) (hs : (cellsOf z).length = s) (n : Nat) : ((Array.range (n * s)).map (z.cells[· % z.cells.size]!)).toList = (List.replicate n z.cells.toList).flatten := by
  have hl : z.cells.toList.length = s := by rw [Value.cells_eq]; exact hs
  have hsz : z.cells.size = s := by simpa using hl
  apply List.ext_getElem?; intro i; by_cases hi : i < n * s
  · rw [flatten_replicate_get _ s hl n i hi]; have hpos : 0 < s := by
      rcases Nat.eq_zero_or_pos s with h | h
      · subst h; simp at hi
      · exact h
    have hm : i % s < z.cells.size := by rw [hsz]; exact Nat.mod_lt _ hpos
    rw [Array.getElem?_toList, Array.getElem?_map, Array.getElem?_range, if_pos hi, Option.map_some, hsz, Array.getElem?_toList, Array.getElem?_eq_getElem hm, getElem!_pos z.cells _ hm]
  · rw [List.getElem?_eq_none (by simp; omega), List.getElem?_eq_none (by rw [flatten_replicate_length, hl]; omega)]
theorem VR.newSlice {φ' : Phi} {W : AW} {C g n m c : Nat} (h : φ' W.next = some ⟨C, 0, g, n⟩) (hm : m ≤ c) {c' : Nat} (hc : c ≤ c') (hx : g = 0 → c' = c) (hg : g ≠ 0 → c' * g ≤ n) :
    VR φ' (.slice (some ⟨W.next, 0, none⟩) m c) (.slice (some ⟨C, 0, none⟩) m c') := by
  exact VR.slice W.next 0 m c 0 c' _ h hm hc (fun _ => rfl) hx (fun hgn => by simpa using hg hgn)
theorem sim_buildSlice (hr : Rel φ base H w) (hf : φ W.next = none) {t el : TypeId} {ti te : TI} (ht : tinfo P t = some ti) (hk : ti.kind = .slice el) (hte : tinfo P el = some te) {n : Nat}
    (hn : n * te.size ≤ 16777216) {ps : List (Nat × Value)} {ps' : Array (Nat × Value)}
    (h1 : ps.map (·.1) = ps'.toList.map (·.1)) (h2 : LR φ (ps.map (·.2)) (ps'.toList.map (·.2))) (h3 : ∀ x ∈ ps, OneC (cellsOf x.2)) {cs : List Value}
    (hc : fillL ((List.range n).map fun k => (k * te.size, te.size)) (repCells n (cellsOf te.zero)) ps = some cs) :
    OpSim P φ base H W w (do pure (.value (← Instr.buildSlice t n ps'))) ⟨.value (.slice (some ⟨W.next, 0, none⟩) n n), W.alloc (.cells true 0 cs), [], []⟩ := by
  have hT := tinfo_facts ht; have hE := tinfo_facts hte; obtain ⟨d, hd, hu, hrun⟩ := hT.und; rw [hk] at hd; obtain rfl := kind_slice hd; have hz : LR φ (cellsOf te.zero) te.zero.cells.toList := (VR.closed hE.closed).cells; have hone := closed_cells_one hE.closed; have hrows := zeroRows_toList te.zero te.size hE.len n; obtain ⟨cc', g1, g2, g3⟩ := fill_ok (φ := φ) (pl := (List.range n).map fun k => (k * te.size, te.size)) (place := fun k => some (k * te.size, te.size))
    (cc := (Array.range (n * te.size)).map (te.zero.cells[· % te.zero.cells.size]!))
    (fun k x h => by
      simp only [List.getElem?_map, Option.map_eq_some_iff] at h; obtain ⟨j, hj, rfl⟩ := h; obtain ⟨hj1, hj2⟩ := List.getElem?_eq_some_iff.1 hj; simp at hj2; rw [hj2]) h1 h2 h3 (by rw [hrows]; exact hz.flatten_replicate n) (OneC.flatten_replicate hone n) hc
  obtain ⟨φ', q1, q2⟩ := out_newCells (cc := cc') hr hf el 0 (vs := cs) (by rw [g2.length, List.take_length]; exact g2) (by have := g2.length; simp at this; omega) g3 w.drawn; refine OpSim.mk (φ' := φ') (w' := { w with heap := w.heap.push (.cells cc' el) }) (nx := .value (.slice (some ⟨w.heap.size, 0, none⟩) n n)) ?_ (VR.newSlice q1 (Nat.le_refl _) (Nat.le_refl _) (fun _ => rfl) (fun h => absurd rfl h)) q2; simp only [Instr.buildSlice, Sem.run_bind, hrun, Result.andThen_ok, hE.size]; rw [if_neg (by omega)]; by_cases h0 : n * te.size = 0
  · rw [h0] at g1 ⊢; have e0 : (Array.range 0).map (te.zero.cells[· % te.zero.cells.size]!) = (#[] : Array Value) := by simp
    rw [e0] at g1; have e1 : ∀ z : Array Value, (Array.range 0).map (z[· % z.size]!) = (#[] : Array Value) := fun _ => by simp
    simp only [if_true, Sem.run_bind, Sem.run_pure, Result.andThen_ok, e1, g1]; rfl
  · simp only [h0, if_false, Sem.run_bind, hE.zero, Sem.run_pure, Result.andThen_ok, g1]; rfl
theorem sim_fieldAddr (hr : Rel φ base H w) {s : TypeId} {f off : Nat} {ft : TypeId} (hfo : fieldOf P s f = some (off, ft)) {x' : Value} {a : Addr} (hx : VR φ (.pointer (some a)) x') :
    OpSim P φ base H W w (do pure (.value (← Instr.fieldAt s x' f))) (okV W (.pointer (some ⟨a.block, a.off + off, none⟩))) := by
  unfold fieldOf at hfo; split at hfo
  case h_2 => cases hfo
  rename_i fs hu; split at hfo
  case h_2 => cases hfo
  rename_i fl hfl; split at hfo
  case h_2 => cases hfo
  rename_i i hi; split at hfo
  case isTrue => cases hfo
  rename_i hsz; cases hfo; cases hx with
  | ptr b o p hp =>
    refine OpSim.val hr (v' := .pointer (some ⟨p.blk, p.off + (o + fl.offset), none⟩)) ?_ (VR.ptr b _ p hp); have hs : (sizeOf fl.type).run P w = .ok i.size w := by simp [sizeOf, typeInfo, hi]
    have hadd : (Addr.add ⟨p.blk, p.off + o, none⟩ fl.offset : Addr) = ⟨p.blk, p.off + (o + fl.offset), none⟩ := by
      unfold Addr.add; split
      · rename_i h; rw [h]; rfl
      · simp [Nat.add_assoc]
    simp [Instr.fieldAt, run_underlying hu, hfl, Instr.sureAddr, fieldPlace, hs, hsz, hadd]
theorem sim_part (hr : Rel φ base H w) {t : TypeId} {cs cs' : Array Value} (hc : LR φ cs.toList cs'.toList) (ho : OneC cs.toList) {off : Nat} {v : Value} (hv : partV P t cs.toList off = some v) :
    ∃ v', (part t cs' off).run P w = .ok v' w ∧ VR φ v v' := by
  have _ := hr; unfold partV at hv; split at hv
  case h_2 => cases hv
  rename_i ti ht; have hT := tinfo_facts ht; by_cases ha : ti.agg = true
  · rw [if_pos ha] at hv; cases hv; refine ⟨.agg (cs'.extract off (off + ti.size)), by simp [part, hT.agg, ha, hT.size], ?_⟩; have : (cs'.extract off (off + ti.size)) = ⟨(cs'.toList.drop off).take ti.size⟩ := by
      apply Array.ext'; simp
    rw [this]; exact VR.mkAgg ((hc.drop off).take _) ((ho.drop off).take _)
  · rw [if_neg ha] at hv; have ha' : ti.agg = false := by simpa using ha
    obtain ⟨v', h1, h2⟩ := hc.get off hv; refine ⟨v', ?_, h2⟩; rw [Array.getElem?_toList] at h1; simp [part, hT.agg, ha', h1]
theorem sim_field (hr : Rel φ base H w) {s : TypeId} {f off : Nat} {ft : TypeId} (hfo : fieldOf P s f = some (off, ft)) {cs : Array Value} {x' : Value} (hx : VR φ (.agg cs) x') {v : Value} (hv : partV P ft cs.toList off = some v) :
    OpSim P φ base H W w (do pure (.value (← Instr.field s x' f))) (okV W v) := by
  unfold fieldOf at hfo; split at hfo
  case h_2 => cases hfo
  rename_i fs hu; split at hfo
  case h_2 => cases hfo
  rename_i fl hfl; split at hfo
  case h_2 => cases hfo
  rename_i i hi; split at hfo
  case isTrue => cases hfo
  cases hfo; obtain ⟨cs', rfl, h1, h2⟩ := hx.agg_inv; obtain ⟨v', h3, h4⟩ := sim_part (P := P) hr h1 h2 hv; refine OpSim.val hr (v' := v') ?_ h4; simp [Instr.field, run_underlying hu, hfl, asAgg, h3]
theorem add_off (C o k : Nat) : (Addr.add ⟨C, o, none⟩ k : Addr) = ⟨C, o + k, none⟩ := by
  unfold Addr.add; split
  · rename_i h; rw [h]; rfl
  · rfl
theorem sim_indexAddr (hr : Rel φ base H w) {t : TypeId} {x x' ix ix' v : Value} (hx : VR φ x x') (hi : VR φ ix ix') (hv : indexAddrA P t x ix = some v) :
    OpSim P φ base H W w (do pure (.value (← Instr.indexAt t x' ix'))) (okV W v) := by
  unfold indexAddrA at hv; split at hv
  case h_2 => cases hv
  rename_i ti i ht hix; have hT := tinfo_facts ht; obtain ⟨d, hd, hu, hrun⟩ := hT.und; cases hi with
  | int k n =>
    simp [asInt'] at hix; subst hix; split at hv
    · rename_i e a m c hk; rw [hk] at hd; obtain rfl := kind_slice hd; split at hv
      case h_2 => cases hv
      rename_i te hte; have hE := tinfo_facts hte; split at hv
      case isFalse => cases hv
      rename_i hb; cases hv; cases hx with
      | slice b o _ _ o' c' p hp hn hc ho hx hg =>
        have ho' := ho (.inl (by omega)); subst ho'; refine OpSim.val hr (v' := .pointer (some ⟨p.blk, p.off + (o + n.toNat * te.size), none⟩)) ?_ (VR.ptr b _ p hp); simp only [Instr.indexAt, asIntOf, Sem.run_bind, Sem.run_pure, Result.andThen_ok, hrun]; rw [if_pos hb]; simp [hE.size, add_off, Nat.add_assoc]
    · rename_i m e a hk; rw [hk] at hd; obtain rfl := kind_array hd; split at hv
      case h_2 => cases hv
      rename_i te hte; have hE := tinfo_facts hte; split at hv
      case isFalse => cases hv
      rename_i hb; cases hv; cases hx with
      | ptr b o p hp =>
        refine OpSim.val hr (v' := .pointer (some ⟨p.blk, p.off + (o + n.toNat * te.size), none⟩)) ?_ (VR.ptr b _ p hp); simp only [Instr.indexAt, asIntOf, Sem.run_bind, Sem.run_pure, Result.andThen_ok, hrun, Instr.sureAddr]; rw [if_pos hb]; simp [hE.size, add_off, Nat.add_assoc]
    · cases hv
  | _ => simp [asInt'] at hix
theorem sim_index (hr : Rel φ base H w) {t : TypeId} {x x' ix ix' v : Value} (hx : VR φ x x') (hi : VR φ ix ix') (hv : indexA P t x ix = some v) :
    OpSim P φ base H W w (do pure (.value (← Instr.index t x' ix'))) (okV W v) := by
  unfold indexA at hv; split at hv
  case h_2 => cases hv
  rename_i ti i ht hix; have hT := tinfo_facts ht; obtain ⟨d, hd, hu, hrun⟩ := hT.und; cases hi with
  | int k n =>
    simp [asInt'] at hix; subst hix; split at hv
    · rename_i m e cs hk; rw [hk] at hd; obtain rfl := kind_array hd; split at hv
      case h_2 => cases hv
      rename_i te hte; have hE := tinfo_facts hte; split at hv
      case isFalse => cases hv
      rename_i hb; obtain ⟨cs', rfl, h1, h2⟩ := hx.agg_inv; obtain ⟨v', h3, h4⟩ := sim_part (P := P) hr h1 h2 hv; refine OpSim.val hr (v' := v') ?_ h4; simp only [Instr.index, asIntOf, Sem.run_bind, Sem.run_pure, Result.andThen_ok, hrun]; rw [if_pos hb]; simp [hE.size, h3]
    · rename_i s hk; rw [hk] at hd; obtain rfl := kind_string hd; split at hv
      case isFalse => cases hv
      rename_i hb; cases hv; cases hx with
      | string _ =>
        refine OpSim.val hr ?_ (VR.int _ _); have hg : s[n.toNat]? = some (s.data.toList.getD n.toNat 0) := by
          rw [getElem?_pos s n.toNat hb.2, ByteArray.getElem_eq_getElem_data, List.getD_eq_getElem?_getD, Array.getElem?_toList, Array.getElem?_eq_getElem hb.2]; rfl
        simp only [Instr.index, asIntOf, Sem.run_bind, Sem.run_pure, Result.andThen_ok, hrun]; rw [if_pos hb.1, hg]; simp
    · cases hv
  | _ => simp [asInt'] at hix
theorem sim_extract (hr : Rel φ base H w) {x x' : Value} (hx : VR φ x x') {vs : List Value} (hvs : asTuple x = some vs) {i : Nat} {v : Value} (hv : vs[i]? = some v) :
    OpSim P φ base H W w (do pure (.value (← Instr.extract x' i))) (okV W v) := by
  cases hx with
  | tuple cs cs' hs h =>
    simp [asTuple] at hvs; subst hvs; obtain ⟨v', h1, h2⟩ := (LR.arr hs h).get i hv; rw [Array.getElem?_toList] at h1; refine OpSim.val hr (v' := v') ?_ h2; simp [Instr.extract, h1]
  | _ => simp [asTuple] at hvs
end Go.Abs
namespace Go.Abs
open Go.RowKit (Below)
variable {P : Program} {φ : Phi} {base : Nat} {H : Nat → Blk} {W : AW} {w : World}
theorem fits_length : ∀ {ks : List TK} {vs : List Value}, fits ks vs = true → vs.length = ks.length
  | [], [], _ => rfl
  | k :: ks, [], h => by simp [fits] at h
  | [], v :: vs, h => by simp [fits] at h
  | k :: ks, v :: vs, h => by
    simp only [fits, Bool.and_eq_true] at h; simp [fits_length h.2]
theorem fits_append : ∀ {ks ls : List TK} {vs : List Value}, fits (ks ++ ls) vs = true → fits ks (vs.take ks.length) = true ∧ fits ls (vs.drop ks.length) = true
  | [], _, _, h => ⟨rfl, h⟩
  | k :: ks, ls, [], h => by simp [fits] at h
  | k :: ks, ls, v :: vs, h => by
    simp only [List.cons_append, fits, Bool.and_eq_true] at h; obtain ⟨h1, h2⟩ := fits_append h.2; simp [fits, h.1, h1, h2]
theorem allEq_append : ∀ {a b c d : List Value}, a.length = c.length → allEq (a ++ b) (c ++ d) = (allEq a c && allEq b d)
  | [], _, [], _, _ => rfl
  | [], _, _ :: _, _, h => by simp at h
  | _ :: _, _, [], _, h => by simp at h
  | x :: a, b, y :: c, d, h => by
    simp only [List.cons_append, allEq]; rw [allEq_append (by simpa using h), Bool.and_assoc]
theorem sameKinds_split : ∀ {a b : List Value} (n : Nat), sameKinds a b = true → sameKinds (a.take n) (b.take n) = true ∧ sameKinds (a.drop n) (b.drop n) = true
  | [], [], n, _ => by simp [sameKinds]
  | [], _ :: _, _, h => by simp [sameKinds] at h
  | x :: _, [], _, h => by simp [sameKinds] at h
  | x :: a, y :: b, 0, h => ⟨rfl, h⟩
  | x :: a, y :: b, n + 1, h => by
    simp only [sameKinds, Bool.and_eq_true, List.take_succ_cons, List.drop_succ_cons] at h ⊢; exact ⟨⟨h.1, (sameKinds_split n h.2).1⟩, (sameKinds_split n h.2).2⟩
theorem flatKinds_inv {d : Nat} {t : TypeId} {ks : List TK} (h : flatKinds P (d + 1) t = some ks) :
    (∃ i, P.info? t = some i ∧ i.size = ks.length) ∧
    ((P.underlying t = some .bool ∧ ks = [.bool]) ∨ (∃ k, P.underlying t = some (.int k) ∧ ks = [.int k]) ∨ (P.underlying t = some .string ∧ ks = [.string]) ∨
      (∃ fs, P.underlying t = some (.struct fs) ∧ P.stoodInHeld t = false ∧ flatFields (flatKinds P d) fs.toList 0 = some ks)) := by
  unfold flatKinds at h; split at h
  case h_2 => cases h
  rename_i ls info hr hi; split at h
  case isFalse => cases h
  rename_i hs; cases h; refine ⟨⟨info, hi, hs⟩, ?_⟩; split at hr
  · rename_i hu; cases hr; exact .inl ⟨hu, rfl⟩
  · rename_i k hu; cases hr; exact .inr (.inl ⟨k, hu, rfl⟩)
  · rename_i hu; cases hr; exact .inr (.inr (.inl ⟨hu, rfl⟩))
  · rename_i fs hu; split at hr
    case isTrue => cases hr
    rename_i hp; exact .inr (.inr (.inr ⟨fs, hu, by simpa using hp, hr⟩))
  · cases hr
def AggFits (P : Program) (t : TypeId) (v : Value) : Prop := match P.underlying t with
  | some (.struct _) => ∃ cs, v = .agg cs
  | _ => ∀ cs, v ≠ .agg cs
theorem run_part_scalar {t : TypeId} {d : TypeDesc} (hu : P.underlying t = some d) (hd : isAggK (kindOf d) = false) {cs : Array Value} {off : Nat} {v : Value} (hv : cs[off]? = some v) : (part t cs off).run P w = .ok v w := by
  have : (isAgg t).run P w = .ok false w := by
    simp only [isAgg, Sem.run_bind, run_underlying hu, Result.andThen_ok]; cases d <;> first | rfl | cases hd
  simp [part, this, hv]
theorem run_part_agg {t : TypeId} {fs : Array Field} (hu : P.underlying t = some (.struct fs)) {i : TypeInfo} (hi : P.info? t = some i) (cs : Array Value) (off : Nat) :
    (part t cs off).run P w = .ok (.agg (cs.extract off (off + i.size))) w := by
  have : (isAgg t).run P w = .ok true w := by simp [isAgg, run_underlying hu]
  simp [part, this, sizeOf, typeInfo, hi]
theorem run_part_flat {d : Nat} {t : TypeId} {ks : List TK} (h : flatKinds P (d + 1) t = some ks) (cs : Array Value) (off : Nat) (hf : fits ks ((cs.toList.drop off).take ks.length) = true) :
    ∃ v, (part t cs off).run P w = .ok v w ∧ cellsOf v = (cs.toList.drop off).take ks.length ∧ AggFits P t v := by
  obtain ⟨⟨i, hi, hs⟩, hc⟩ := flatKinds_inv h; have hl := fits_length hf; have one : ks.length = 1 → ∃ v, cs[off]? = some v ∧ (cs.toList.drop off).take ks.length = [v] := by
    intro h1; rw [h1] at hl ⊢; have : off < cs.size := by simp at hl; omega
    refine ⟨cs[off], by simp [this], ?_⟩; rw [List.drop_eq_getElem_cons (by simpa using this)]; simp
  rcases hc with ⟨hu, rfl⟩ | ⟨k, hu, rfl⟩ | ⟨hu, rfl⟩ | ⟨fs, hu, _, _⟩
  · obtain ⟨v, h1, h2⟩ := one rfl; refine ⟨v, run_part_scalar hu rfl h1, ?_, ?_⟩
    · rw [h2] at hf ⊢; cases v <;> simp [fits, fit1] at hf <;> rfl
    · rw [h2] at hf; unfold AggFits; rw [hu]; cases v <;> simp [fits, fit1] at hf <;> simp
  · obtain ⟨v, h1, h2⟩ := one rfl; refine ⟨v, run_part_scalar hu rfl h1, ?_, ?_⟩
    · rw [h2] at hf ⊢; cases v <;> simp [fits, fit1] at hf <;> rfl
    · rw [h2] at hf; unfold AggFits; rw [hu]; cases v <;> simp [fits, fit1] at hf <;> simp
  · obtain ⟨v, h1, h2⟩ := one rfl; refine ⟨v, run_part_scalar hu rfl h1, ?_, ?_⟩
    · rw [h2] at hf ⊢; cases v <;> simp [fits, fit1] at hf <;> rfl
    · rw [h2] at hf; unfold AggFits; rw [hu]; cases v <;> simp [fits, fit1] at hf <;> simp
  · refine ⟨_, run_part_agg hu hi cs off, ?_, by unfold AggFits; rw [hu]; exact ⟨_, rfl⟩⟩; simp [cellsOf, hs]
theorem run_equal_flat : ∀ (d : Nat) (t : TypeId) (ks : List TK), flatKinds P d t = some ks → ∀ (n : Nat), d ≤ n → ∀ (x y : Value), AggFits P t x → AggFits P t y →
    fits ks (cellsOf x) = true → fits ks (cellsOf y) = true → sameKinds (cellsOf x) (cellsOf y) = true → ∀ w, (Op.equalIn n t x y).run P w = .ok (allEq (cellsOf x) (cellsOf y)) w
  | 0, t, ks, h, _, _, _, _, _, _, _, _, _, _ => by simp [flatKinds] at h
  | d + 1, t, ks, h, 0, hn, _, _, _, _, _, _, _, _ => by omega
  | d + 1, t, ks, h, n + 1, hn, x, y, hx, hy, fx, fy, hk, w => by
    obtain ⟨_, hc⟩ := flatKinds_inv h; unfold AggFits at hx hy; rcases hc with ⟨hu, rfl⟩ | ⟨k, hu, rfl⟩ | ⟨hu, rfl⟩ | ⟨fs, hu, hp, hfs⟩
    · rw [hu] at hx hy; cases x <;> simp [cellsOf, fits, fit1] at fx hx; cases y <;> simp [cellsOf, fits, fit1] at fy hy; rw [run_equalIn_bool' _ _ _ _ _ hu]; simp [cellsOf, allEq, scalarEq]
    · rw [hu] at hx hy; cases x <;> simp [cellsOf, fits, fit1] at fx hx; cases y <;> simp [cellsOf, fits, fit1] at fy hy; simp [cellsOf, sameKinds, sameKind1] at hk; subst hk; rw [run_equalIn_int _ _ _ _ _ _ _ hu]; simp [cellsOf, allEq, scalarEq]
    · rw [hu] at hx hy; cases x <;> simp [cellsOf, fits, fit1] at fx hx; cases y <;> simp [cellsOf, fits, fit1] at fy hy; rw [run_equalIn_string _ _ _ _ _ hu]; simp [cellsOf, allEq, scalarEq, beq_toListBytes]
    · rw [hu] at hx hy; obtain ⟨xs, rfl⟩ := hx; obtain ⟨ys, rfl⟩ := hy; have hff : P.fieldsOf t = fs := by simp [Program.fieldsOf, hu]
      rw [run_equalIn_struct w n t xs ys (by rw [hff]; exact hu) hp, hff]; have key : ∀ (l : List Field) (off : Nat) (ls : List TK), flatFields (flatKinds P d) l off = some ls → fits ls (xs.toList.drop off) = true → fits ls (ys.toList.drop off) = true →
          sameKinds (xs.toList.drop off) (ys.toList.drop off) = true → ∀ w, (Op.eqFields n xs ys l).run P w = .ok (allEq (xs.toList.drop off) (ys.toList.drop off)) w := by
        intro l
        induction l with
        | nil =>
          intro off ls h1 h2 h3 _ w; simp [flatFields] at h1; subst h1; have e1 := fits_length h2; have e2 := fits_length h3; simp at e1 e2; rw [List.drop_eq_nil_of_le (by simp; omega), List.drop_eq_nil_of_le (by simp; omega)]; rfl
        | cons f l ih =>
          intro off ls h1 h2 h3 h4 w; unfold flatFields at h1; split at h1
          case isTrue => cases h1
          rename_i hno; rw [not_or, Classical.not_not] at hno; obtain ⟨hnm, hoff⟩ := hno; split at h1
          case h_1 => cases h1
          rename_i kf hkf; split at h1
          case h_1 => cases h1
          rename_i r hr; cases h1; obtain ⟨a1, a2⟩ := fits_append h2; obtain ⟨b1, b2⟩ := fits_append h3; obtain ⟨c1, c2⟩ := sameKinds_split kf.length h4; cases d with
          | zero => simp [flatKinds] at hkf
          | succ d =>
            obtain ⟨v, v1, v2, v3⟩ := run_part_flat (P := P) (w := w) hkf xs off a1; obtain ⟨u, u1, u2, u3⟩ := run_part_flat (P := P) (w := w) hkf ys off b1; have he := run_equal_flat (d + 1) f.type kf hkf n (by omega) v u v3 u3 (by rw [v2]; exact a1) (by rw [u2]; exact b1) (by rw [v2, u2]; exact c1) w; have hrest := ih (off + kf.length) r hr (by simpa [List.drop_drop] using a2) (by simpa [List.drop_drop] using b2) (by simpa [List.drop_drop] using c2) w; have hsplit : allEq (xs.toList.drop off) (ys.toList.drop off) = (allEq (cellsOf v) (cellsOf u) && allEq (xs.toList.drop (off + kf.length)) (ys.toList.drop (off + kf.length))) := by
              have l1 := fits_length a1; have l2 := fits_length b1; have e := allEq_append (b := xs.toList.drop (off + kf.length)) (d := ys.toList.drop (off + kf.length)) (l1.trans l2.symm); rw [v2, u2, ← e, ← List.drop_drop, ← List.drop_drop, List.take_append_drop, List.take_append_drop]
            simp only [Op.eqFields]; rw [if_pos hnm]; rw [hoff] at *; simp only [Sem.run_bind, v1, Result.andThen_ok, u1, he]; rw [hsplit]; cases allEq (cellsOf v) (cellsOf u) with
            | false => simp
            | true => simp [hrest]
      have := key fs.toList 0 ks hfs (by simpa [cellsOf] using fx) (by simpa [cellsOf] using fy) (by simpa [cellsOf] using hk) w
      simpa [cellsOf] using this
end Go.Abs
