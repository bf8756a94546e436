/- A part of the proof that TopAnewTrack returns true at every input of bulk at most 1048576: regions in every order that may be drawn. -/
import Derived.Test.YtliohlkclfcigaaAbsF
import Derived.Recover
set_option linter.unusedVariables false
set_option linter.unusedSimpArgs false
namespace Go.Abs
def beforeStep (acc : Array Nat) (o : Oper) : Nat :=
  o.after.foldl (fun s e => if Region.binds .any e then s ||| 2 ^ e.on ||| acc.getD e.on 0 else s) 0
theorem before_eq (ops : Array Oper) : Region.before ops = ops.foldl (init := #[]) fun acc o => acc.push (beforeStep acc o) := rfl
theorem testBit_fold (acc : Array Nat) (k : Nat) : ∀ (l : List Edge) (s : Nat),
    (l.foldl (fun s e => if Region.binds .any e then s ||| 2 ^ e.on ||| acc.getD e.on 0 else s) s).testBit k = true →
      s.testBit k = true ∨ ∃ e ∈ l, Region.binds .any e = true ∧ (e.on = k ∨ (acc.getD e.on 0).testBit k = true)
  | [], s, h => .inl h
  | e :: l, s, h => by
    simp only [List.foldl_cons] at h; rcases testBit_fold acc k l _ h with h1 | ⟨e', he', h2⟩
    · by_cases hb : Region.binds .any e = true
      · rw [if_pos hb] at h1; simp only [Nat.testBit_or, Bool.or_eq_true] at h1; rcases h1 with (h1 | h1) | h1
        · exact .inl h1
        · refine .inr ⟨e, by simp, hb, .inl ?_⟩; rw [Nat.testBit_two_pow] at h1
          simpa using h1
        · exact .inr ⟨e, by simp, hb, .inr h1⟩
      · rw [if_neg hb] at h1; exact .inl h1
    · exact .inr ⟨e', by simp [he'], h2⟩
theorem before_list (ops : List Oper) : ∀ (acc : Array Nat), (ops.foldl (fun acc o => acc.push (beforeStep acc o)) acc).size = acc.size + ops.length ∧
    (∀ j, j < acc.size → (ops.foldl (fun acc o => acc.push (beforeStep acc o)) acc).getD j 0 = acc.getD j 0) ∧
    ∀ j o, ops[j]? = some o → ∀ k, ((ops.foldl (fun acc o => acc.push (beforeStep acc o)) acc).getD (acc.size + j) 0).testBit k = true →
      ∃ e ∈ o.after.toList, Region.binds .any e = true ∧ (e.on = k ∨ (e.on < acc.size + j ∧ ((ops.foldl (fun acc o => acc.push (beforeStep acc o)) acc).getD e.on 0).testBit k = true)) := by
  induction ops with
  | nil => intro acc; exact ⟨by simp, fun _ _ => rfl, fun j o h => by simp at h⟩
  | cons x ops ih =>
    intro acc; obtain ⟨h1, h2, h3⟩ := ih (acc.push (beforeStep acc x)); simp only [List.foldl_cons]; refine ⟨by rw [h1]; simp; omega, fun j hj => ?_, fun j o ho k hk => ?_⟩
    · rw [h2 j (by simp; omega), Array.getD_eq_getD_getElem?, Array.getD_eq_getD_getElem?, Array.getElem?_push, if_neg (by omega)]
    · cases j with
      | zero =>
        simp at ho; subst ho; rw [Nat.add_zero, h2 acc.size (by simp), Array.getD_eq_getD_getElem?, Array.getElem?_push, if_pos rfl, Option.getD_some] at hk; unfold beforeStep at hk; rw [← Array.foldl_toList] at hk; rcases testBit_fold acc k _ _ hk with h | ⟨e, he, hb, h⟩
        · simp at h
        · refine ⟨e, he, hb, ?_⟩; rcases h with h | h
          · exact .inl h
          · right; have hlt : e.on < acc.size := by
              rcases Nat.lt_or_ge e.on acc.size with h' | h'
              · exact h'
              · rw [Array.getD_eq_getD_getElem?, Array.getElem?_eq_none h'] at h; simp at h
            refine ⟨by omega, ?_⟩; rw [h2 e.on (by simp; omega), Array.getD_eq_getD_getElem?, Array.getElem?_push, if_neg (by omega), ← Array.getD_eq_getD_getElem?]; exact h
      | succ j =>
        have ho' : ops[j]? = some o := by simpa using ho
        have e1 : acc.size + (j + 1) = (acc.push (beforeStep acc x)).size + j := by simp; omega
        rw [e1] at hk ⊢; exact h3 j o ho' k hk
theorem before_edge {ops : Array Oper} {j k : Nat} {o : Oper} (ho : ops[j]? = some o) (h : ((Region.before ops).getD j 0).testBit k = true) :
    ∃ e ∈ o.after.toList, Region.binds .any e = true ∧ (e.on = k ∨ (e.on < j ∧ ((Region.before ops).getD e.on 0).testBit k = true)) := by
  rw [before_eq, ← Array.foldl_toList] at h ⊢; have := (before_list ops.toList #[]).2.2 j o (by simpa using ho) k (by simpa using h)
  simpa using this
def Closed (ops : Array Oper) (E : Nat → Bool) : Prop := ∀ j, E j = true → ∀ k, ((Region.before ops).getD j 0).testBit k = true → E k = true
def DirectOk (ops : Array Oper) (E : Nat → Bool) (i : Nat) : Prop := ∀ o, ops[i]? = some o → ∀ e ∈ o.after.toList, Region.binds .any e = true → E e.on = true
theorem preds_of_direct {ops : Array Oper} {E : Nat → Bool} (hc : Closed ops E) {i : Nat} (hd : DirectOk ops E i) : ∀ k, ((Region.before ops).getD i 0).testBit k = true → E k = true := by
  intro k hk; cases ho : ops[i]? with
  | none =>
    have : ops.size ≤ i := Array.getElem?_eq_none_iff.1 ho; rw [Array.getD_eq_getD_getElem?, Array.getElem?_eq_none] at hk
    · simp at hk
    · rw [before_eq, ← Array.foldl_toList, (before_list ops.toList #[]).1]; simpa using this
  | some o =>
    obtain ⟨e, he, hb, h⟩ := before_edge ho hk; have := hd o ho e he hb; rcases h with h | h
    · rw [← h]; exact this
    · exact hc _ this k h.2
def addE (E : Nat → Bool) (i : Nat) : Nat → Bool := fun k => E k || k == i
theorem closed_add {ops : Array Oper} {E : Nat → Bool} (hc : Closed ops E) {i : Nat} (hd : DirectOk ops E i) : Closed ops (addE E i) := by
  intro j hj k hk; simp only [addE, Bool.or_eq_true, beq_iff_eq] at hj ⊢; rcases hj with hj | hj
  · exact .inl (hc j hj k hk)
  · subst hj; exact .inl (preds_of_direct hc hd k hk)
def cur {α : Type} (f : Nat → α) (touch : Nat → Bool) (E : Nat → Bool) : Nat → α
  | 0 => f 0
  | m + 1 => if E m = true ∧ touch m = true then f (m + 1) else cur f touch E m
theorem cur_read {α : Type} {f : Nat → α} {touch E : Nat → Bool} {n i : Nat} (hf : ∀ m, m < n → touch m = false → f (m + 1) = f m)
    (hlo : ∀ k, k < i → touch k = true → E k = true) (hi : i ≤ n) (hhi : ∀ k, i ≤ k → k < n → touch k = true → E k = false) : cur f touch E n = f i := by
  have h1 : ∀ m, m ≤ i → cur f touch E m = f m := by
    intro m
    induction m with
    | zero => intro _; rfl
    | succ m ih =>
      intro hm; simp only [cur]; by_cases ht : touch m = true
      · rw [if_pos ⟨hlo m (by omega) ht, ht⟩]
      · rw [if_neg (fun h => ht h.2), ih (by omega), hf m (by omega) (by simpa using ht)]
  have h2 : ∀ m, i ≤ m → m ≤ n → cur f touch E m = cur f touch E i := by
    intro m
    induction m with
    | zero => intro h _; rw [show i = 0 by omega]
    | succ m ih =>
      intro hm hn; by_cases hmi : i = m + 1
      · rw [hmi]
      · simp only [cur]; rw [if_neg (fun h => by rw [hhi m (by omega) (by omega) h.2] at h; exact absurd h.1 (by simp)), ih (by omega) (by omega)]
  rw [h2 n hi (Nat.le_refl _), h1 i (Nat.le_refl _)]
theorem cur_other {α : Type} {f : Nat → α} {touch E : Nat → Bool} {i : Nat} (ht : touch i = false) (n : Nat) : cur f touch (addE E i) n = cur f touch E n := by
  induction n with
  | zero => rfl
  | succ m ih =>
    simp only [cur, ih]; by_cases hm : m = i
    · subst hm; simp [ht]
    · have : addE E i m = E m := by simp [addE, hm]
      rw [this]
theorem ready_mem {ops : Array Oper} {listed : Array Bool} {i : Nat} (h : i ∈ Region.ready .any ops listed) :
    i < ops.size ∧ listed.getD i true = false ∧ ∀ o, ops[i]? = some o → ∀ e ∈ o.after.toList, Region.binds .any e = true → listed.getD e.on false = true := by
  unfold Region.ready at h; simp only [List.mem_filter, List.mem_range, Bool.and_eq_true, Bool.not_eq_true'] at h; refine ⟨h.1, h.2.1, fun o ho e he hb => ?_⟩; have h2 := h.2.2; rw [ho] at h2; simp only [Option.map_some, Option.getD_some, Array.all_eq_true'] at h2; have := h2 e (by simpa using he)
  simpa [hb] using this
def setOf (listed : Array Bool) : Nat → Bool := fun k => listed.getD k false
theorem linearise_nil (fuel t : Nat) (ops : Array Oper) (listed : Array Bool) : Region.linearise.go .any ops (fuel + 1) t listed [] =
    match (Region.ready .any ops listed)[t % (Region.ready .any ops listed).length]? with
    | some i => i :: Region.linearise.go .any ops fuel (t / (Region.ready .any ops listed).length) (listed.setIfInBounds i true) []
    | none => [] := by
  simp only [Region.linearise.go]; change (match (Region.ready .any ops listed)[t % (Region.ready .any ops listed).length]? with
    | some i => Region.linearise.go .any ops fuel (t / (Region.ready .any ops listed).length) (listed.setIfInBounds i true) [i]
    | none => ([] : List Nat).reverse) = _
  cases (Region.ready .any ops listed)[t % (Region.ready .any ops listed).length]? with
  | none => rfl
  | some i => dsimp only; rw [linearise_go_acc]; rfl
theorem ready_ne {ops : Array Oper} (hback : ∀ j o, ops[j]? = some o → ∀ e ∈ o.after.toList, Region.binds .any e = true → e.on < j) {listed : Array Bool} (hs : listed.size = ops.size)
    {j : Nat} (hj : j < ops.size) (hl : listed.getD j true = false) : Region.ready .any ops listed ≠ [] := by
  induction j using Nat.strongRecOn with
  | _ j ih =>
    have hoj : ops[j]? = some ops[j] := Array.getElem?_eq_getElem hj; by_cases hall : ∀ e ∈ (ops[j]).after.toList, Region.binds .any e = true → listed.getD e.on false = true
    · intro hnil; have : j ∈ Region.ready .any ops listed := by
        unfold Region.ready; simp only [List.mem_filter, List.mem_range, Bool.and_eq_true, Bool.not_eq_true']; refine ⟨hj, hl, ?_⟩; rw [hoj]; simp only [Option.map_some, Option.getD_some, Array.all_eq_true']; intro e he; by_cases hb : Region.binds .any e = true
        · simp [hall e (by simpa using he) hb]
        · simp [hb]
      rw [hnil] at this; simp at this
    · simp only [Classical.not_forall, Bool.not_eq_true] at hall; obtain ⟨e, he, hb, hf⟩ := hall; have hlt := hback j _ hoj e he hb; refine ih e.on hlt (by omega) ?_; have hlt2 : e.on < listed.size := by omega
      rw [Array.getD_eq_getD_getElem?, Array.getElem?_eq_getElem hlt2] at hf ⊢; exact hf
theorem setOf_set {listed : Array Bool} {i : Nat} (hi : i < listed.size) : setOf (listed.setIfInBounds i true) = addE (setOf listed) i := by
  funext k; simp only [setOf, addE, Array.getD_eq_getD_getElem?]; by_cases h : k = i
  · subst h; simp [hi]
  · rw [Array.getElem?_setIfInBounds_ne (Ne.symm h)]; simp [h]
theorem draw_run {P : Program} {ops : Array Oper} {b : Frame} {k : List Item} {cs : List Frame} (hback : ∀ j o, ops[j]? = some o → ∀ e ∈ o.after.toList, Region.binds .any e = true → e.on < j)
    (Inv : (Nat → Bool) → Act → World → Prop) (Done : Machine → Prop) (hdone : ∀ m m', Steps P m m' → Done m' → Done m)
    (step : ∀ (E : Nat → Bool) (a : Act) (w : World) (i : Nat), i < ops.size → E i = false → Closed ops E → DirectOk ops E i → Inv E a w → ∀ rest,
      (∃ a' w', Inv (addE E i) a' w' ∧ Steps P (lone (b.atR a (.inRegion ops (i :: rest) :: k)) cs w) (lone (b.atR a' (.inRegion ops rest :: k)) cs w')) ∨
        Done (lone (b.atR a (.inRegion ops (i :: rest) :: k)) cs w)) :
    ∀ (fuel t : Nat) (listed : Array Bool) (a : Act) (w : World), listed.size = ops.size → ((List.range ops.size).filter fun j => !listed.getD j true).length ≤ fuel → Closed ops (setOf listed) → Inv (setOf listed) a w →
      (∃ E a' w', (∀ j, j < ops.size → E j = true) ∧ Inv E a' w' ∧ Steps P (lone (b.atR a (.inRegion ops (Region.linearise.go .any ops fuel t listed []) :: k)) cs w) (lone (b.atR a' (.inRegion ops [] :: k)) cs w')) ∨
        Done (lone (b.atR a (.inRegion ops (Region.linearise.go .any ops fuel t listed []) :: k)) cs w) := by
  intro fuel
  induction fuel with
  | zero =>
    intro t listed a w hs hcount hcl hinv; refine .inl ⟨setOf listed, a, w, fun j hj => ?_, hinv, ?_⟩
    · have : (List.range ops.size).filter (fun j => !listed.getD j true) = [] := List.eq_nil_of_length_eq_zero (by omega); rw [List.filter_eq_nil_iff] at this; have h := this j (List.mem_range.2 hj); have hlt : j < listed.size := by omega
      simp only [setOf, Array.getD_eq_getD_getElem?, Array.getElem?_eq_getElem hlt] at h ⊢
      simpa using h
    · simp only [Region.linearise.go, List.reverse_nil]; exact Steps.refl _ _
  | succ fuel ih =>
    intro t listed a w hs hcount hcl hinv; rw [linearise_nil]; cases hi : (Region.ready .any ops listed)[t % (Region.ready .any ops listed).length]? with
    | none =>
      have hnil : Region.ready .any ops listed = [] := by
        cases hr : Region.ready .any ops listed with
        | nil => rfl
        | cons x xs =>
          rw [hr] at hi; have hlt : t % (x :: xs).length < (x :: xs).length := Nat.mod_lt _ (by simp); rw [List.getElem?_eq_getElem hlt] at hi; cases hi
      refine .inl ⟨setOf listed, a, w, fun j hj => ?_, hinv, Steps.refl _ _⟩; have hlt : j < listed.size := by omega
      cases hb : listed.getD j true with
      | false => exact absurd hnil (ready_ne hback hs hj hb)
      | true =>
        simp only [setOf, Array.getD_eq_getD_getElem?, Array.getElem?_eq_getElem hlt] at hb ⊢
        simpa using hb
    | some i =>
      obtain ⟨h1, h2, h3⟩ := ready_mem (List.mem_of_getElem? hi); have hlt : i < listed.size := by omega
      have hEi : setOf listed i = false := by
        simp only [setOf, Array.getD_eq_getD_getElem?, Array.getElem?_eq_getElem hlt] at h2 ⊢
        simpa using h2
      have hdir : DirectOk ops (setOf listed) i := fun o ho e he hb => h3 o ho e he hb; rcases step (setOf listed) a w i h1 hEi hcl hdir hinv (Region.linearise.go .any ops fuel (t / (Region.ready .any ops listed).length) (listed.setIfInBounds i true) []) with ⟨a', w', hinv', hst⟩ | hd
      · rw [← setOf_set hlt] at hinv'; have hcl' : Closed ops (setOf (listed.setIfInBounds i true)) := by rw [setOf_set hlt]; exact closed_add hcl hdir
        have hcount' : ((List.range ops.size).filter fun j => !(listed.setIfInBounds i true).getD j true).length ≤ fuel := by
          have hsub : ((List.range ops.size).filter fun j => !(listed.setIfInBounds i true).getD j true).length < ((List.range ops.size).filter fun j => !listed.getD j true).length := by
            have e1 : (List.range ops.size).filter (fun j => !(listed.setIfInBounds i true).getD j true) = ((List.range ops.size).filter fun j => !listed.getD j true).filter (fun j => j != i) := by
              rw [List.filter_filter]; apply List.filter_congr; intro j _; by_cases hj : j = i
              · subst hj; simp [Array.getD_eq_getD_getElem?, hlt]
              · simp [Array.getD_eq_getD_getElem?, Array.getElem?_setIfInBounds_ne (Ne.symm hj), hj]
            rw [e1]; exact List.length_filter_lt_length_iff_exists.2 ⟨i, List.mem_filter.2 ⟨List.mem_range.2 h1, by simp [h2]⟩, by simp⟩
          omega
        rcases ih (t / (Region.ready .any ops listed).length) (listed.setIfInBounds i true) a' w' (by simpa using hs) hcount' hcl' hinv' with ⟨E, a'', w'', g1, g2, g3⟩ | hd
        · exact .inl ⟨E, a'', w'', g1, g2, hst.trans g3⟩
        · exact .inr (hdone _ _ hst hd)
      · exact .inr hd
end Go.Abs
namespace Go.Abs
open Go.RowKit (Below)
variable {P : Program} {b : Frame} {a : Act} {k : List Item} {cs : List Frame} {w w' : World} {ops : Array Oper} {i : Nat} {rest : List Nat} {o : Oper}
theorem fin_atR (ho : ops[i]? = some o) (v : Value) : (b.atR a (.inRegion ops (i :: rest) :: k)).finish v = b.atR (a.put o.dst v) (.inRegion ops rest :: k) := by
  rw [Frame.finish_atR, ho]; rfl
theorem stp_value (ho : ops[i]? = some o) (hw : Region.wanted o (yielded ops a.tmps) = true) {v : Value} (hr : (o.semAt b.roundOf a.eval).run P w = .ok (.value v) w') :
    step P (lone (b.atR a (.inRegion ops (i :: rest) :: k)) cs w) = .next (lone (b.atR (a.put o.dst v) (.inRegion ops rest :: k)) cs w') :=
  step_lone_go (by rw [stepGR_op ho hw]; simp only [stepG.apply, if_true, Sem.runT_eq, hr, GStep.bare_after]; rw [fin_atR ho]; rfl)
theorem stp_unit (ho : ops[i]? = some o) (hw : Region.wanted o (yielded ops a.tmps) = true) (hr : (o.semAt b.roundOf a.eval).run P w = .ok .skip w') :
    step P (lone (b.atR a (.inRegion ops (i :: rest) :: k)) cs w) = .next (lone (b.atR (a.put o.dst undef) (.inRegion ops rest :: k)) cs w') :=
  step_lone_go (by rw [stepGR_op ho hw]; simp only [stepG.apply, if_true, Sem.runT_eq, hr, GStep.bare_after]; rw [fin_atR ho]; rfl)
theorem stp_defer (ho : ops[i]? = some o) (hw : Region.wanted o (yielded ops a.tmps) = true) {d : Deferred} (hr : (o.semAt b.roundOf a.eval).run P w = .ok (.defer d) w') :
    step P (lone (b.atR a (.inRegion ops (i :: rest) :: k)) cs w) = .next (lone (b.atR (({ a with defers := d :: a.defers } : Act).put o.dst undef) (.inRegion ops rest :: k)) cs w') :=
  step_lone_go (by
    rw [stepGR_op ho hw]; simp only [stepG.apply, if_true, Sem.runT_eq, hr, GStep.bare_after]; have := fin_atR (b := b) (a := { a with defers := d :: a.defers }) (k := k) (rest := rest) ho undef; rw [← this]; rfl)
theorem stp_enter (ho : ops[i]? = some o) (hw : Region.wanted o (yielded ops a.tmps) = true) {f : FuncId} {args : Array Value} (hr : (o.semAt b.roundOf a.eval).run P w = .ok (.enter f args) w') :
    step P (lone (b.atR a (.inRegion ops (i :: rest) :: k)) cs w) = .next (lone (Frame.enter P f args .normal) (b.atR a (.inRegion ops (i :: rest) :: k) :: cs) w') :=
  step_lone_go (by rw [stepGR_op ho hw]; simp only [stepG.apply, if_true, Sem.runT_eq, hr, GStep.bare_after]; rfl)
theorem stp_round (ho : ops[i]? = some o) (hw : Region.wanted o (yielded ops a.tmps) = true) {l : Nat} {f : FuncId} {tmps : Array Value} {asg body : Code} (hr : (o.semAt b.roundOf a.eval).run P w = .ok (.round l f tmps asg body) w') :
    step P (lone (b.atR a (.inRegion ops (i :: rest) :: k)) cs w) = .next (lone (Frame.round l f tmps asg body .normal) (b.atR a (.inRegion ops (i :: rest) :: k) :: cs) w') :=
  step_lone_go (by rw [stepGR_op ho hw]; simp only [stepG.apply, if_true, Sem.runT_eq, hr, GStep.bare_after]; rfl)
theorem stp_panic (ho : ops[i]? = some o) (hw : Region.wanted o (yielded ops a.tmps) = true) {v : Value} (hr : (o.semAt b.roundOf a.eval).run P w = .halt (.panic v) w') :
    step P (lone (b.atR a (.inRegion ops (i :: rest) :: k)) cs w) = .next (lone { b.atR a (.inRegion ops (i :: rest) :: k) with mode := .panicking [{ v := v, recovered := false }] } cs w') :=
  step_lone_go (by rw [stepGR_op ho hw]; simp only [stepG.apply, if_true, Sem.runT_eq, hr, GStep.bare_after]; rfl)
theorem stp_recover_some (ho : ops[i]? = some o) (hw : Region.wanted o (yielded ops a.tmps) = true) (hro : b.roundOf = none) (hr : (o.semAt b.roundOf a.eval).run P w = .ok .recover w')
    (hk : b.kind = .deferred) {v : Value} {cs' : List Frame} (hrec : recoverD cs = some (v, cs')) :
    step P (lone (b.atR a (.inRegion ops (i :: rest) :: k)) cs w) = .next (lone (b.atR (a.put o.dst v) (.inRegion ops rest :: k)) cs' w') :=
  step_lone_go (by
    rw [stepGR_op ho hw]; have h1 : (b.atR a (.inRegion ops (i :: rest) :: k)).roundOf = none := hro; have hk' : (b.atR a (.inRegion ops (i :: rest) :: k)).kind = .deferred := hk; have h2 : tryRecover (b.atR a (.inRegion ops (i :: rest) :: k)) cs = recoverD cs := tryRecover_deferred hk' cs; simp only [stepG.apply, if_true, Sem.runT_eq, hr, GStep.bare_after, h1, h2, hrec]; rw [fin_atR ho]; rfl)
theorem stp_recover_none (ho : ops[i]? = some o) (hw : Region.wanted o (yielded ops a.tmps) = true) (hro : b.roundOf = none) (hr : (o.semAt b.roundOf a.eval).run P w = .ok .recover w')
    (hk : b.kind = .normal ∨ (b.kind = .deferred ∧ recoverD cs = none)) :
    step P (lone (b.atR a (.inRegion ops (i :: rest) :: k)) cs w) = .next (lone (b.atR (a.put o.dst .nilIface) (.inRegion ops rest :: k)) cs w') :=
  step_lone_go (by
    rw [stepGR_op ho hw]; have h1 : (b.atR a (.inRegion ops (i :: rest) :: k)).roundOf = none := hro; have h2 : tryRecover (b.atR a (.inRegion ops (i :: rest) :: k)) cs = none := by
      rcases hk with hk | ⟨hk, hn⟩
      · have : (b.atR a (.inRegion ops (i :: rest) :: k)).kind = .normal := hk; unfold tryRecover; rw [this]
      · have hk' : (b.atR a (.inRegion ops (i :: rest) :: k)).kind = .deferred := hk; rw [tryRecover_deferred hk' cs, hn]
    simp only [stepG.apply, if_true, Sem.runT_eq, hr, GStep.bare_after, h1, h2]; rw [fin_atR ho]; rfl)
def NoCall : List Item → Prop
  | .call .. :: _ => False
  | _ => True
variable {φ φ' : Phi} {base : Nat} {H : Nat → Blk} {W W' : AW} {wr : List Nat}
inductive DOk (φ : Phi) (base : Nat) (w : World) : List (FuncId × List Value) → List Deferred → Prop
  | nil : DOk φ base w [] []
  | mark (r : Nat) {ds : List (FuncId × List Value)} {dc : List Deferred} (h : w.heap[r]? = some (.deferred (some []))) (hφ : ∀ b p, φ b = some p → p.blk ≠ r) (hb : base ≤ r)
      (hne : ∀ d ∈ dc, ∀ r', d.target = .collected r' → r' ≠ r) (t : DOk φ base w ds dc) : DOk φ base w ds (⟨.collected r, #[]⟩ :: dc)
  | call (f : FuncId) {args : List Value} {as cap : Array Value} {ds : List (FuncId × List Value)} {dc : List Deferred} (h : LR φ args (as.toList ++ cap.toList)) (t : DOk φ base w ds dc) :
      DOk φ base w ((f, args) :: ds) (⟨.fn (.func f) cap, as⟩ :: dc)
theorem DOk.out {lb : Nat} (hO : Out φ φ' base H W W' wr w w') {ds : List (FuncId × List Value)} {dc : List Deferred} (h : DOk φ lb w ds dc) : DOk φ' lb w' ds dc := by
  induction h with
  | nil => exact .nil
  | mark r h hφ hb hne t ih =>
    have hlt := (Array.getElem?_eq_some_iff.1 h).1; refine .mark r ((hO.keeps.other r hlt hφ).trans h) (fun b p hbp e => ?_) hb hne ih; cases hb0 : φ b with
    | some q => have := hO.ext.le _ _ hb0; rw [hbp] at this; cases this; exact hφ b p hb0 e
    | none =>
      obtain ⟨_, _, h3⟩ := hO.ext.new b p hbp hb0; rcases h3 with h3 | ⟨b0, p0, h4, h5⟩
      · omega
      · exact hφ b0 p0 h4 (h5.trans e)
  | call f h t ih => exact .call f (h.mono hO.ext.le) ih
def Dom (φ : Phi) (H : Nat → Blk) (W : AW) : Prop := ∀ b p, φ b = some p → b < W.next → H b = W.get b
def Fresh (φ : Phi) (lo hi : Nat) : Prop := ∀ b, lo ≤ b → b < hi → φ b = none
theorem Dom.next (hd : Dom φ H W) (hO : Out φ φ' base H W W' wr w w') (hA : AFr W W' wr) : Dom φ' (ovl H W'.get W.next W'.next wr) W' := by
  intro b p hb hlt; simp only [ovl]; by_cases h : (W.next ≤ b ∧ b < W'.next) ∨ b ∈ wr
  · rw [if_pos h]
  · rw [if_neg h]; rw [not_or] at h; have hlt' : b < W.next := by omega
    cases hb0 : φ b with
    | some q => rw [hd b q hb0 hlt', hA.same b hlt' h.2]
    | none => obtain ⟨h1, _, _⟩ := hO.ext.new b p hb hb0; omega
theorem Fresh.next {hi : Nat} (hf : Fresh φ W.next hi) (hO : Out φ φ' base H W W' wr w w') (hA : AFr W W' wr) : Fresh φ' W'.next hi := by
  intro b h1 h2; cases hb : φ' b with
  | none => rfl
  | some p =>
    have hb0 : φ b = none := hf b (by have := hA.next; omega) h2; obtain ⟨_, h3, _⟩ := hO.ext.new b p hb hb0; omega
theorem Fresh.le {lo hi hi' : Nat} (hf : Fresh φ lo hi) (h : hi' ≤ hi) : Fresh φ lo hi' := fun b h1 h2 => hf b h1 (by omega)
def KindOk (φ : Phi) (kind : CallKind) (cs : List Frame) : Option Value → Prop
  | none => kind = .normal ∨ (kind = .deferred ∧ recoverD cs = none)
  | some v => kind = .deferred ∧ ∃ c rest v', cs = c :: rest ∧ c.mode = .panicking [{ v := v', recovered := false }] ∧ VR φ v v'
def PanR (pan pan' : Option Value) (cs cs' : List Frame) : Prop :=
  (pan' = pan ∧ cs' = cs) ∨ ((∃ v, pan = some v) ∧ pan' = none ∧ ∃ c rest v', cs = c :: rest ∧ c.mode = .panicking [{ v := v', recovered := false }] ∧ cs' = { c with mode := .panicking [{ v := v', recovered := true }] } :: rest)
theorem PanR.refl (pan : Option Value) (cs : List Frame) : PanR pan pan cs cs := .inl ⟨rfl, rfl⟩
theorem PanR.none_inv {pan' : Option Value} {cs cs' : List Frame} (h : PanR none pan' cs cs') : pan' = none ∧ cs' = cs := by
  rcases h with h | ⟨⟨v, hv⟩, _⟩
  · exact h
  · cases hv
theorem KindOk.mono (h : PLe φ φ') {kind : CallKind} {cs : List Frame} {pan : Option Value} (hk : KindOk φ kind cs pan) : KindOk φ' kind cs pan := by
  cases pan with
  | none => exact hk
  | some v => obtain ⟨h1, c, rest, v', h2, h3, h4⟩ := hk; exact ⟨h1, c, rest, v', h2, h3, h4.mono h⟩
theorem KindOk.next (h : PLe φ φ') {kind : CallKind} {cs cs' : List Frame} {pan pan' : Option Value} (hk : KindOk φ kind cs pan) (hp : PanR pan pan' cs cs') : KindOk φ' kind cs' pan' := by
  rcases hp with ⟨rfl, rfl⟩ | ⟨⟨v, rfl⟩, rfl, c, rest, v', rfl, h2, rfl⟩
  · exact hk.mono h
  · exact .inr ⟨hk.1, rfl⟩
theorem PanR.trans {pan pan1 pan2 : Option Value} {cs cs1 cs2 : List Frame} (h : PanR pan pan1 cs cs1) (k : PanR pan1 pan2 cs1 cs2) : PanR pan pan2 cs cs2 := by
  rcases h with ⟨rfl, rfl⟩ | ⟨hv, rfl, c, rest, v', rfl, h2, rfl⟩
  · exact k
  · obtain ⟨rfl, rfl⟩ := k.none_inv; exact .inr ⟨hv, rfl, c, rest, v', rfl, h2, rfl⟩
theorem recoverD_some {c : Frame} {rest : List Frame} {v' : Value} (h : c.mode = .panicking [{ v := v', recovered := false }]) :
    recoverD (c :: rest) = some (v', { c with mode := .panicking [{ v := v', recovered := true }] } :: rest) := by
  simp [recoverD, h]
end Go.Abs
namespace Go.Abs
open Go.RowKit (Below)
def Leaves (P : Program) (φ : Phi) (fr : Frame) (kind : CallKind) (w : World) : AOut → Prop
  | .returned v => ∃ v', VR φ v v' ∧ fr.mode = .returning ∧ fr.defers = [] ∧ fr.kind = kind ∧ ∃ fn, P.funcs[fr.fn]? = some fn ∧ (results fn fr.tmps).run P w = .ok v' w
  | .panicked v => ∃ v', VR φ v v' ∧ fr.mode = .panicking [{ v := v', recovered := false }] ∧ fr.defers = [] ∧ fr.kind = kind ∧ ∃ fn, P.funcs[fr.fn]? = some fn
def SimCall (P : Program) (O : Orc) (n : Nat) : Prop :=
  ∀ f args pan W o pan' W' wr, ev P O n (.call f args pan W) = some (.call o pan' W' wr) → W.wf →
    ∀ (φ : Phi) (base : Nat) (H : Nat → Blk) (w : World) (args' : Array Value) (kind : CallKind) (cs : List Frame), Rel φ base H w → Dom φ H W → Fresh φ W.next W'.next → LR φ args args'.toList →
      KindOk φ kind cs pan → (kind = .normal ∨ kind = .deferred) →
      ∃ φ' w' fr cs', Out φ φ' base H W W' wr w w' ∧ PanR pan pan' cs cs' ∧ Steps P (lone (Frame.enter P f args' kind) cs w) (lone fr cs' w') ∧ fr.fn = f ∧ Leaves P φ' fr kind w' o
def OSim (P : Program) (O : Orc) : Prop :=
  ∀ f args W v W', O.run f args W = some (v, W') → W.wf → ∀ fn body, P.funcs[f]? = some fn → fn.body = some body →
    ∀ (φ : Phi) (base : Nat) (H : Nat → Blk) (w : World) (args' : Array Value) (kind : CallKind) (cs : List Frame), Rel φ base H w → Dom φ H W → Fresh φ W.next W'.next → LR φ args args'.toList →
      KindOk φ kind cs none → (kind = .normal ∨ kind = .deferred) →
      ∃ φ' w' fr, Out φ φ' base H W W' [] w w' ∧ Steps P (lone (Frame.enter P f args' kind) cs w) (lone fr cs w') ∧ fr.fn = f ∧ Leaves P φ' fr kind w' (.returned v)
def SimRound (P : Program) (O : Orc) (n : Nat) : Prop :=
  ∀ l args W o pan' W' wr, ev P O n (.round l args W) = some (.call o pan' W' wr) → W.wf →
    ∀ (φ : Phi) (base : Nat) (H : Nat → Blk) (w : World) (p : PB) (f : FuncId) (tmps : Array Value) (st : LoopState) (pend : Option Code) (sz : Nat) (env : Env) (ps : List Tmp) (asg body : Code) (c : Frame) (cs : List Frame),
      Rel φ base H w → Dom φ H W → Fresh φ W.next W'.next → φ l = some p → W.get l = .loop st pend sz env ps asg body → TR φ (updAll env (ps.zip args)) tmps → tmps.size = sz →
      ∃ φ' w', Out φ φ' base H W W' wr w w' ∧ pan' = none ∧ ∃ v v', VR φ' v v' ∧
        ((o = .returned v ∧ Steps P (lone (Frame.round p.blk f tmps asg body .normal) (c :: cs) w) (lone (c.finish v') cs w')) ∨
         (o = .panicked v ∧ Steps P (lone (Frame.round p.blk f tmps asg body .normal) (c :: cs) w) (lone (c.raise [{ v := v', recovered := false }]) cs w')))
inductive OpRun (P : Program) (O : Orc) (N : Nat) (ro : Option Nat) (all : Array Oper) (o : Oper) (env : Env) (X : Aux) (W : AW) : Aux → AW → Value → FPr → Prop
  | skip (h : wantedA all env o = false) : OpRun P O N ro all o env X W X W undef ⟨some [], [], W.next, W.next⟩
  | val (h : wantedA all env o = true) (r : OpR) (hr : aop P ro env o W = some r) (v : Value) (hx : r.x = .value v) : OpRun P O N ro all o env X W X r.W v ⟨some r.rd, r.wr, W.next, r.W.next⟩
  | unit (h : wantedA all env o = true) (r : OpR) (hr : aop P ro env o W = some r) (hx : r.x = .skip) : OpRun P O N ro all o env X W X r.W undef ⟨some r.rd, r.wr, W.next, r.W.next⟩
  | defer (h : wantedA all env o = true) (r : OpR) (hr : aop P ro env o W = some r) (f : FuncId) (args : List Value) (hx : r.x = .defer f args) :
      OpRun P O N ro all o env X W { X with defs := (f, args) :: X.defs } r.W undef ⟨some r.rd, r.wr, W.next, r.W.next⟩
  | recov (h : wantedA all env o = true) (r : OpR) (hr : aop P ro env o W = some r) (hx : r.x = .recover) (v : Value) (hp : X.pan = some v) :
      OpRun P O N ro all o env X W { X with pan := none } r.W v ⟨some r.rd, r.wr, W.next, r.W.next⟩
  | norec (h : wantedA all env o = true) (r : OpR) (hr : aop P ro env o W = some r) (hx : r.x = .recover) (hp : X.pan = none) :
      OpRun P O N ro all o env X W X r.W .nilIface ⟨some r.rd, r.wr, W.next, r.W.next⟩
  | call (h : wantedA all env o = true) (r : OpR) (hr : aop P ro env o W = some r) (f : FuncId) (args : List Value) (hx : r.x = .enter f args) (m : Nat) (hm : m < N) (v : Value) (W' : AW) (wr : List Nat)
      (he : ev P O m (.call f args none r.W) = some (.call (.returned v) none W' wr)) : OpRun P O N ro all o env X W X W' v ⟨none, wr, W.next, W'.next⟩
  | round (h : wantedA all env o = true) (r : OpR) (hr : aop P ro env o W = some r) (l : Nat) (args : List Value) (hx : r.x = .round l args) (m : Nat) (hm : m < N) (v : Value) (W' : AW) (wr : List Nat)
      (he : ev P O m (.round l args r.W) = some (.call (.returned v) none W' wr)) : OpRun P O N ro all o env X W X W' v ⟨none, wr, W.next, W'.next⟩
inductive OpPan (P : Program) (O : Orc) (N : Nat) (ro : Option Nat) (all : Array Oper) (o : Oper) (env : Env) (X : Aux) (W : AW) : AW → Value → FPr → Prop
  | panic (h : wantedA all env o = true) (r : OpR) (hr : aop P ro env o W = some r) (v : Value) (hx : r.x = .panic v) : OpPan P O N ro all o env X W r.W v ⟨some r.rd, r.wr, W.next, r.W.next⟩
  | call (h : wantedA all env o = true) (r : OpR) (hr : aop P ro env o W = some r) (f : FuncId) (args : List Value) (hx : r.x = .enter f args) (m : Nat) (hm : m < N) (v : Value) (W' : AW) (wr : List Nat)
      (he : ev P O m (.call f args none r.W) = some (.call (.panicked v) none W' wr)) : OpPan P O N ro all o env X W W' v ⟨none, wr, W.next, W'.next⟩
  | round (h : wantedA all env o = true) (r : OpR) (hr : aop P ro env o W = some r) (l : Nat) (args : List Value) (hx : r.x = .round l args) (m : Nat) (hm : m < N) (v : Value) (W' : AW) (wr : List Nat)
      (he : ev P O m (.round l args r.W) = some (.call (.panicked v) none W' wr)) : OpPan P O N ro all o env X W W' v ⟨none, wr, W.next, W'.next⟩
variable {P : Program} {O : Orc} {φ φ' : Phi} {base : Nat} {H : Nat → Blk} {W W' : AW} {wr : List Nat} {w w' : World}
theorem yielded_eq {all : Array Oper} {env : Env} {tmps : Array Value} (h : TR φ env tmps) (j : Nat) : yielded all tmps j = yieldedA all env j := by
  unfold yielded yieldedA; cases hd : (all[j]?).bind (·.dst) with
  | none => rfl
  | some d =>
    simp only [Option.bind_some]; have hv := h d; rw [Array.getD_eq_getD_getElem?] at hv; cases ht : tmps[d]? with
    | none =>
      rw [ht] at hv; simp only [Option.getD_none] at hv; generalize env d = x at hv; cases hv <;> first | rfl | skip
    | some u =>
      rw [ht] at hv; simp only [Option.getD_some] at hv; generalize env d = x at hv; cases hv <;> rfl
theorem wanted_eq {all : Array Oper} {env : Env} {tmps : Array Value} (h : TR φ env tmps) (o : Oper) : Region.wanted o (yielded all tmps) = wantedA all env o := by
  unfold Region.wanted wantedA; cases o.guard with
  | none => rfl
  | some g => obtain ⟨j, want⟩ := g; simp only; rw [yielded_eq h]
theorem call_runs {n : Nat} {f : FuncId} {args : List Value} {pan : Option Value} {r : Res} (h : ev P O n (.call f args pan W) = some r) : ∃ fn body, P.funcs[f]? = some fn ∧ fn.body = some body ∧ (fn.name == "runtime.NumGoroutine") = false := by
  cases n with
  | zero => simp [ev] at h
  | succ n =>
    simp only [ev] at h; split at h
    case h_1 => cases h
    rename_i fn hf; split at h
    case isTrue => cases h
    rename_i hn; split at h
    case h_1 => cases h
    rename_i body hb; exact ⟨fn, body, hf, hb, by simpa using hn⟩
theorem OpSim.ok {s : Sem Next} {r : OpR} (h : OpSim P φ base H W w s r) (hx : ∀ v, r.x ≠ .panic v) : ∃ φ' w' nx, s.run P w = .ok nx w' ∧ NR φ' r.W r.x nx ∧ Out φ φ' base H W r.W r.wr w w' := by
  unfold OpSim at h; split at h
  · rename_i v hv; exact absurd hv (hx v)
  · exact h
theorem leave_ret {fr c : Frame} {cs : List Frame} {v : Value} (h : Leaves P φ fr .normal w (.returned v)) : ∃ v', VR φ v v' ∧ Steps P (lone fr (c :: cs) w) (lone (c.finish v') cs w) := by
  obtain ⟨v', h1, h2, h3, h4, fn, h5, h6⟩ := h; exact ⟨v', h1, .one (step_leave_returned ⟨h2, h3, h4, fn, h5, h6⟩)⟩
theorem leave_pan {fr c : Frame} {cs : List Frame} {v : Value} (h : Leaves P φ fr .normal w (.panicked v)) : ∃ v', VR φ v v' ∧ Steps P (lone fr (c :: cs) w) (lone (c.raise [{ v := v', recovered := false }]) cs w) := by
  obtain ⟨v', h1, h2, h3, h4, fn, h5⟩ := h; exact ⟨v', h1, .one (step_leave_panicked ⟨h2, h3, fn, h5⟩)⟩
theorem RoR_none {ro roC : Option Nat} (hro : match ro with | none => roC = none | some l => ∃ p, φ l = some p ∧ roC = some p.blk) : ro = none → roC = none := by
  intro h; subst h; exact hro
def RoR (φ : Phi) (ro roC : Option Nat) : Prop := match ro with
  | none => roC = none
  | some l => ∃ p, φ l = some p ∧ roC = some p.blk
theorem RoR.mono (h : PLe φ φ') {ro roC : Option Nat} (hr : RoR φ ro roC) : RoR φ' ro roC := by
  cases ro with
  | none => exact hr
  | some l => obtain ⟨p, h1, h2⟩ := hr; exact ⟨p, h _ _ h1, h2⟩
def HOk (φ : Phi) (H : Nat → Blk) (W : AW) (rd : Option (List Nat)) (wr : List Nat) : Prop :=
  match rd with
  | some rd => ∀ b p, φ b = some p → b ∈ rd ∨ b ∈ wr → H b = W.get b
  | none => Dom φ H W
theorem op_one {N lb : Nat} (hC : ∀ m, m < N → SimCall P O m) (hR : ∀ m, m < N → SimRound P O m) {ro : Option Nat} {all : Array Oper} {o : Oper} {env : Env} {X X' : Aux} {v : Value} {fp : FPr}
    (hrun : OpRun P O N ro all o env X W X' W' v fp) (hwf : W.wf) (hok : operOk o = true) (hr : Rel φ base H w) {a : Act} (hT : TR φ env a.tmps)
    (hH : HOk φ H W fp.rd fp.wr) (hF : Fresh φ W.next W'.next) (hD : DOk φ lb w X.defs a.defers)
    {b : Frame} {k : List Item} {cs : List Frame} {i : Nat} {rest : List Nat} (hro : RoR φ ro b.roundOf) (hK : KindOk φ b.kind cs X.pan) (ho : all[i]? = some o) :
    ∃ φ' w' v' cs' dfs, Out φ φ' base H W W' fp.wr w w' ∧ VR φ' v v' ∧ DOk φ' lb w' X'.defs dfs ∧ PanR X.pan X'.pan cs cs' ∧
      Steps P (lone (b.atR a (.inRegion all (i :: rest) :: k)) cs w) (lone (b.atR (({ a with defers := dfs } : Act).put o.dst v') (.inRegion all rest :: k)) cs' w') := by
  have hron : ro = none → b.roundOf = none := fun h => by subst h; exact hro
  have same : ({ a with defers := a.defers } : Act) = a := rfl; cases hrun with
  | skip h =>
    refine ⟨φ, w, undef, cs, a.defers, Out.same hr, VR.undef, hD, PanR.refl _ _, .one ?_⟩; have hw : Region.wanted o (yielded all a.tmps) = false := by rw [wanted_eq hT, h]
    have := stepR_op_skip (P := P) (b := b) (a := a) (k := k) (cs := cs) (w := w) (ops := all) (i := i) (rest := rest) (by rw [ho]; simpa using hw); rw [this, ho]; rfl
  | val h r haop _ hx =>
    have hw : Region.wanted o (yielded all a.tmps) = true := by rw [wanted_eq hT, h]
    obtain ⟨φ', w', nx, h1, h2, h3⟩ := (aop_sim (roC := b.roundOf) hr hT hok haop hH hF hron (fun g as hg => by rw [hx] at hg; cases hg)).ok (by rw [hx]; simp); rw [hx] at h2; cases nx <;> try exact h2.elim
    rename_i v'; exact ⟨φ', w', v', cs, a.defers, h3, h2, hD.out h3, PanR.refl _ _, .one (stp_value ho hw h1)⟩
  | unit h r haop hx =>
    have hw : Region.wanted o (yielded all a.tmps) = true := by rw [wanted_eq hT, h]
    obtain ⟨φ', w', nx, h1, h2, h3⟩ := (aop_sim (roC := b.roundOf) hr hT hok haop hH hF hron (fun g as hg => by rw [hx] at hg; cases hg)).ok (by rw [hx]; simp); rw [hx] at h2; cases nx <;> try exact h2.elim
    exact ⟨φ', w', undef, cs, a.defers, h3, VR.undef, hD.out h3, PanR.refl _ _, .one (stp_unit ho hw h1)⟩
  | defer h r haop f args hx =>
    have hw : Region.wanted o (yielded all a.tmps) = true := by rw [wanted_eq hT, h]
    obtain ⟨φ', w', nx, h1, h2, h3⟩ := (aop_sim (roC := b.roundOf) hr hT hok haop hH hF hron (fun g as hg => by rw [hx] at hg; cases hg)).ok (by rw [hx]; simp); rw [hx] at h2; cases nx <;> try exact h2.elim
    rename_i d; obtain ⟨as, cap, rfl, h4⟩ := h2; exact ⟨φ', w', undef, cs, _, h3, VR.undef, .call f h4 (hD.out h3), PanR.refl _ _, .one (stp_defer ho hw h1)⟩
  | recov h r haop hx _ hp =>
    have hw : Region.wanted o (yielded all a.tmps) = true := by rw [wanted_eq hT, h]
    obtain ⟨φ', w', nx, h1, h2, h3⟩ := (aop_sim (roC := b.roundOf) hr hT hok haop hH hF hron (fun g as hg => by rw [hx] at hg; cases hg)).ok (by rw [hx]; simp); rw [hx] at h2; cases nx <;> try exact h2.elim
    rw [hp] at hK; obtain ⟨hk1, c, rst, v', rfl, hk3, hk4⟩ := hK; have hrn : ro = none := (aop_good hwf haop).recov.1 hx; refine ⟨φ', w', v', _, a.defers, h3, hk4.mono h3.ext.le, hD.out h3, .inr ⟨⟨v, hp⟩, rfl, c, rst, v', rfl, hk3, rfl⟩, .one (stp_recover_some ho hw (hron hrn) h1 hk1 (recoverD_some hk3))⟩
  | norec h r haop hx hp =>
    have hw : Region.wanted o (yielded all a.tmps) = true := by rw [wanted_eq hT, h]
    obtain ⟨φ', w', nx, h1, h2, h3⟩ := (aop_sim (roC := b.roundOf) hr hT hok haop hH hF hron (fun g as hg => by rw [hx] at hg; cases hg)).ok (by rw [hx]; simp); rw [hx] at h2; cases nx <;> try exact h2.elim
    rw [hp] at hK; have hrn : ro = none := (aop_good hwf haop).recov.1 hx; exact ⟨φ', w', .nilIface, cs, a.defers, h3, .nilIface, hD.out h3, PanR.refl _ _, .one (stp_recover_none ho hw (hron hrn) h1 hK)⟩
  | call h r haop f args hx m hm _ _ wr he =>
    have hw : Region.wanted o (yielded all a.tmps) = true := by rw [wanted_eq hT, h]
    have hg := aop_good hwf haop; have hst := hg.still; unfold Still at hst; rw [hx] at hst; obtain ⟨hrW, hrwr⟩ := hst; have hH' : ∀ b p, φ b = some p → b ∈ r.rd ∨ b ∈ r.wr → H b = W.get b := by
      intro q p hq hmem; rcases hmem with hmem | hmem
      · exact hH q p hq (hg.rd q hmem)
      · rw [hrwr] at hmem; simp at hmem
    obtain ⟨φ1, w1, nx, h1, h2, h3⟩ := (aop_sim (roC := b.roundOf) hr hT hok haop hH' (fun q h1 h2 => by rw [hrW] at h2; omega) hron (fun g as hg => call_runs (P := P) (by rw [hx] at hg; cases hg; exact he))).ok (by rw [hx]; simp); rw [hx] at h2; cases nx <;> try exact h2.elim
    rename_i f' args'; obtain ⟨rfl, h4⟩ := h2; rw [hrW, hrwr] at h3; rw [hrW] at he; have hgood := ev_good P O m _ _ he hwf; have hrel := h3.rel; rw [ovl_self] at hrel; have hdom := Dom.next hH h3 (AFr.refl W)
    rw [ovl_self] at hdom; have hfr := Fresh.next hF h3 (AFr.refl W)
    obtain ⟨φ2, w2, fr, cs2, k1, k2, k3, _, k4⟩ := hC m hm f args none W (.returned v) none W' wr he hwf φ1 base H w1 args' .normal (b.atR a (.inRegion all (i :: rest) :: k) :: cs) hrel hdom hfr h4 (.inl rfl) (.inl rfl); obtain ⟨_, rfl⟩ := k2.none_inv; obtain ⟨v', q1, q2⟩ := leave_ret (c := b.atR a (.inRegion all (i :: rest) :: k)) (cs := cs) k4; have hO : Out φ φ2 base H W W' wr w w2 := by
      have := Out.trans (AFr.refl W) hgood.2 h3 (by rw [ovl_self]; exact k1); rw [List.nil_append] at this; exact this
    refine ⟨φ2, w2, v', cs, a.defers, hO, q1, hD.out hO, PanR.refl _ _, ?_⟩; have := (Steps.one (stp_enter (cs := cs) (k := k) (rest := rest) ho hw h1)).trans (k3.trans q2); rw [fin_atR ho] at this; exact this
  | round h r haop l args hx m hm _ _ wr he =>
    have hw : Region.wanted o (yielded all a.tmps) = true := by rw [wanted_eq hT, h]
    have hg := aop_good hwf haop; have hst := hg.still; unfold Still at hst; rw [hx] at hst; obtain ⟨hrW, hrwr⟩ := hst; have hH' : ∀ b p, φ b = some p → b ∈ r.rd ∨ b ∈ r.wr → H b = W.get b := by
      intro q p hq hmem; rcases hmem with hmem | hmem
      · exact hH q p hq (hg.rd q hmem)
      · rw [hrwr] at hmem; simp at hmem
    obtain ⟨φ1, w1, nx, h1, h2, h3⟩ := (aop_sim (roC := b.roundOf) hr hT hok haop hH' (fun q h1 h2 => by rw [hrW] at h2; omega) hron (fun g as hg => by rw [hx] at hg; cases hg)).ok (by rw [hx]; simp); rw [hx] at h2; cases nx <;> try exact h2.elim
    rename_i l' f' tmps asg body; obtain ⟨p, st, pend, sz, env2, ps, g1, rfl, g3, g4, g5⟩ := h2; rw [hrW, hrwr] at h3; rw [hrW] at he g3; have hgood := ev_good P O m _ _ he hwf; have hrel := h3.rel; rw [ovl_self] at hrel; have hdom := Dom.next hH h3 (AFr.refl W)
    rw [ovl_self] at hdom; have hfr := Fresh.next hF h3 (AFr.refl W)
    obtain ⟨φ2, w2, k1, _, v2, v', k2, k3⟩ := hR m hm l args W (.returned v) none W' wr he hwf φ1 base H w1 p f' tmps st pend sz env2 ps asg body (b.atR a (.inRegion all (i :: rest) :: k)) cs hrel hdom hfr g1 g3 g4 g5; rcases k3 with ⟨e, k3⟩ | ⟨e, _⟩
    · cases e; have hO : Out φ φ2 base H W W' wr w w2 := by
        have := Out.trans (AFr.refl W) hgood.2 h3 (by rw [ovl_self]; exact k1); rw [List.nil_append] at this; exact this
      refine ⟨φ2, w2, v', cs, a.defers, hO, k2, hD.out hO, PanR.refl _ _, ?_⟩; have := (Steps.one (stp_round (cs := cs) (k := k) (rest := rest) ho hw h1)).trans k3; rw [fin_atR ho] at this; exact this
    · cases e
theorem op_pan {N : Nat} (hC : ∀ m, m < N → SimCall P O m) (hR : ∀ m, m < N → SimRound P O m) {ro : Option Nat} {all : Array Oper} {o : Oper} {env : Env} {X : Aux} {v : Value} {fp : FPr}
    (hrun : OpPan P O N ro all o env X W W' v fp) (hwf : W.wf) (hok : operOk o = true) (hr : Rel φ base H w) {a : Act} (hT : TR φ env a.tmps)
    (hH : HOk φ H W fp.rd fp.wr) (hF : Fresh φ W.next W'.next)
    {b : Frame} {k : List Item} {cs : List Frame} {i : Nat} {rest : List Nat} (hro : RoR φ ro b.roundOf) (ho : all[i]? = some o) :
    ∃ φ' w' v' todo, Out φ φ' base H W W' fp.wr w w' ∧ VR φ' v v' ∧ NoCall todo ∧
      Steps P (lone (b.atR a (.inRegion all (i :: rest) :: k)) cs w) (lone { b.atR a todo with mode := .panicking [{ v := v', recovered := false }] } cs w') := by
  have hron : ro = none → b.roundOf = none := fun h => by subst h; exact hro
  cases hrun with
  | panic h r haop _ hx =>
    have hw : Region.wanted o (yielded all a.tmps) = true := by rw [wanted_eq hT, h]
    have := aop_sim (roC := b.roundOf) hr hT hok haop hH hF hron (fun g as hg => by rw [hx] at hg; cases hg); unfold OpSim at this; rw [hx] at this; obtain ⟨v', h1, h2, h3, h4⟩ := this; refine ⟨φ, w, v', .inRegion all (i :: rest) :: k, ?_, h2, trivial, .one (stp_panic ho hw h1)⟩; show Out φ φ base H W r.W r.wr w w; rw [h3, h4]; exact Out.same hr
  | call h r haop f args hx m hm _ _ wr he =>
    have hw : Region.wanted o (yielded all a.tmps) = true := by rw [wanted_eq hT, h]
    have hg := aop_good hwf haop; have hst := hg.still; unfold Still at hst; rw [hx] at hst; obtain ⟨hrW, hrwr⟩ := hst; have hH' : ∀ b p, φ b = some p → b ∈ r.rd ∨ b ∈ r.wr → H b = W.get b := by
      intro q p hq hmem; rcases hmem with hmem | hmem
      · exact hH q p hq (hg.rd q hmem)
      · rw [hrwr] at hmem; simp at hmem
    obtain ⟨φ1, w1, nx, h1, h2, h3⟩ := (aop_sim (roC := b.roundOf) hr hT hok haop hH' (fun q h1 h2 => by rw [hrW] at h2; omega) hron (fun g as hg => call_runs (P := P) (by rw [hx] at hg; cases hg; exact he))).ok (by rw [hx]; simp); rw [hx] at h2; cases nx <;> try exact h2.elim
    rename_i f' args'; obtain ⟨rfl, h4⟩ := h2; rw [hrW, hrwr] at h3; rw [hrW] at he; have hgood := ev_good P O m _ _ he hwf; have hrel := h3.rel; rw [ovl_self] at hrel; have hdom := Dom.next hH h3 (AFr.refl W)
    rw [ovl_self] at hdom; have hfr := Fresh.next hF h3 (AFr.refl W)
    obtain ⟨φ2, w2, fr, cs2, k1, k2, k3, _, k4⟩ := hC m hm f args none W (.panicked v) none W' wr he hwf φ1 base H w1 args' .normal (b.atR a (.inRegion all (i :: rest) :: k) :: cs) hrel hdom hfr h4 (.inl rfl) (.inl rfl); obtain ⟨_, rfl⟩ := k2.none_inv; obtain ⟨v', q1, q2⟩ := leave_pan (c := b.atR a (.inRegion all (i :: rest) :: k)) (cs := cs) k4; have hO : Out φ φ2 base H W W' wr w w2 := by
      have := Out.trans (AFr.refl W) hgood.2 h3 (by rw [ovl_self]; exact k1); rw [List.nil_append] at this; exact this
    refine ⟨φ2, w2, v', .inRegion all (i :: rest) :: k, hO, q1, trivial, ?_⟩; have := (Steps.one (stp_enter (cs := cs) (k := k) (rest := rest) ho hw h1)).trans (k3.trans q2); rw [Frame.raise_atR] at this; exact this
  | round h r haop l args hx m hm _ _ wr he =>
    have hw : Region.wanted o (yielded all a.tmps) = true := by rw [wanted_eq hT, h]
    have hg := aop_good hwf haop; have hst := hg.still; unfold Still at hst; rw [hx] at hst; obtain ⟨hrW, hrwr⟩ := hst; have hH' : ∀ b p, φ b = some p → b ∈ r.rd ∨ b ∈ r.wr → H b = W.get b := by
      intro q p hq hmem; rcases hmem with hmem | hmem
      · exact hH q p hq (hg.rd q hmem)
      · rw [hrwr] at hmem; simp at hmem
    obtain ⟨φ1, w1, nx, h1, h2, h3⟩ := (aop_sim (roC := b.roundOf) hr hT hok haop hH' (fun q h1 h2 => by rw [hrW] at h2; omega) hron (fun g as hg => by rw [hx] at hg; cases hg)).ok (by rw [hx]; simp); rw [hx] at h2; cases nx <;> try exact h2.elim
    rename_i l' f' tmps asg body; obtain ⟨p, st, pend, sz, env2, ps, g1, rfl, g3, g4, g5⟩ := h2; rw [hrW, hrwr] at h3; rw [hrW] at he g3; have hgood := ev_good P O m _ _ he hwf; have hrel := h3.rel; rw [ovl_self] at hrel; have hdom := Dom.next hH h3 (AFr.refl W)
    rw [ovl_self] at hdom; have hfr := Fresh.next hF h3 (AFr.refl W)
    obtain ⟨φ2, w2, k1, _, v2, v', k2, k3⟩ := hR m hm l args W (.panicked v) none W' wr he hwf φ1 base H w1 p f' tmps st pend sz env2 ps asg body (b.atR a (.inRegion all (i :: rest) :: k)) cs hrel hdom hfr g1 g3 g4 g5; rcases k3 with ⟨e, _⟩ | ⟨e, k3⟩
    · cases e
    · cases e; have hO : Out φ φ2 base H W W' wr w w2 := by
        have := Out.trans (AFr.refl W) hgood.2 h3 (by rw [ovl_self]; exact k1); rw [List.nil_append] at this; exact this
      refine ⟨φ2, w2, v', .inRegion all (i :: rest) :: k, hO, k2, trivial, ?_⟩; have := (Steps.one (stp_round (cs := cs) (k := k) (rest := rest) ho hw h1)).trans k3; rw [Frame.raise_atR] at this; exact this
end Go.Abs
namespace Go.Abs
open Go.RowKit (Below)
variable {P : Program} {O : Orc} {φ φ' : Phi} {base : Nat} {H : Nat → Blk} {W W' : AW} {w w' : World}
theorem ops_cons {n N : Nat} (hn : n < N) {ro : Option Nat} {sz : Nat} {all : Array Oper} {o : Oper} {rest : List Oper} {env : Env} {X : Aux} {p : Option Value} {env' : Env} {X' : Aux} {fps : List FPr}
    (h : ev P O (n + 1) (.ops ro sz all (o :: rest) env X W) = some (.ops p env' X' W' fps)) :
    (∃ X1 W1 v fp env1 fps', OpRun P O N ro all o env X W X1 W1 v fp ∧ putE sz o.dst env v = some env1 ∧ ev P O n (.ops ro sz all rest env1 X1 W1) = some (.ops p env' X' W' fps') ∧ fps = fp :: fps') ∨
    (∃ v fp, OpPan P O N ro all o env X W W' v fp ∧ p = some v ∧ env' = env ∧ X' = X ∧ fps = [fp]) := by
  simp only [ev] at h; have cont : ∀ {X1 : Aux} {W1 : AW} {v : Value} {fp : FPr}, OpRun P O N ro all o env X W X1 W1 v fp →
      (match putE sz o.dst env v with
        | none => none
        | some env => match ev P O n (.ops ro sz all rest env X1 W1) with
          | some (.ops p env X W fps) => some (Res.ops p env X W (fp :: fps))
          | _ => none) = some (.ops p env' X' W' fps) →
      (∃ X1 W1 v fp env1 fps', OpRun P O N ro all o env X W X1 W1 v fp ∧ putE sz o.dst env v = some env1 ∧ ev P O n (.ops ro sz all rest env1 X1 W1) = some (.ops p env' X' W' fps') ∧ fps = fp :: fps') := by
    intro X1 W1 v fp hrun hm; split at hm
    case h_1 => cases hm
    rename_i env1 hp; split at hm
    case h_2 => cases hm
    rename_i h1; cases hm; exact ⟨X1, W1, v, fp, env1, _, hrun, hp, h1, rfl⟩
  by_cases hw : wantedA all env o = true
  case neg =>
    rw [if_neg hw] at h; exact .inl (cont (.skip (by simpa using hw)) h)
  rw [if_pos hw] at h; split at h
  case h_1 => cases h
  rename_i r hr; split at h
  · rename_i v hx; exact .inl (cont (.val hw r hr v hx) h)
  · rename_i hx; exact .inl (cont (.unit hw r hr hx) h)
  · rename_i f args hx; exact .inl (cont (.defer hw r hr f args hx) h)
  · rename_i hx; split at h
    · rename_i v hp; exact .inl (cont (.recov hw r hr hx v hp) h)
    · rename_i hp; exact .inl (cont (.norec hw r hr hx hp) h)
  · rename_i v hx; cases h; exact .inr ⟨v, _, .panic hw r hr v hx, rfl, rfl, rfl, rfl⟩
  · rename_i f args hx; split at h
    · rename_i v W1 wr he; exact .inl (cont (.call hw r hr f args hx n hn v W1 wr he) h)
    · rename_i v W1 wr he; cases h; exact .inr ⟨v, _, .call hw r hr f args hx n hn v W' wr he, rfl, rfl, rfl, rfl⟩
    · cases h
  · rename_i l args hx; split at h
    · rename_i v W1 wr he; exact .inl (cont (.round hw r hr l args hx n hn v W1 wr he) h)
    · rename_i v W1 wr he; cases h; exact .inr ⟨v, _, .round hw r hr l args hx n hn v W' wr he, rfl, rfl, rfl, rfl⟩
    · cases h
theorem OpRun.good {N : Nat} {ro : Option Nat} {all : Array Oper} {o : Oper} {env : Env} {X X' : Aux} {v : Value} {fp : FPr} (hwf : W.wf) (h : OpRun P O N ro all o env X W X' W' v fp) :
    W'.wf ∧ AFr W W' fp.wr ∧ fp.lo = W.next ∧ fp.hi = W'.next ∧ (∀ rd, fp.rd = some rd → ∀ b ∈ rd, b < W.next) := by
  cases h with
  | skip h => exact ⟨hwf, AFr.refl _, rfl, rfl, fun rd h b hb => by cases h; simp at hb⟩
  | val h r hr _ hx => have g := aop_good hwf hr; exact ⟨g.wf, g.fr, rfl, rfl, fun rd h b hb => by cases h; exact g.rd b hb⟩
  | unit h r hr hx => have g := aop_good hwf hr; exact ⟨g.wf, g.fr, rfl, rfl, fun rd h b hb => by cases h; exact g.rd b hb⟩
  | defer h r hr f args hx => have g := aop_good hwf hr; exact ⟨g.wf, g.fr, rfl, rfl, fun rd h b hb => by cases h; exact g.rd b hb⟩
  | recov h r hr hx _ hp => have g := aop_good hwf hr; exact ⟨g.wf, g.fr, rfl, rfl, fun rd h b hb => by cases h; exact g.rd b hb⟩
  | norec h r hr hx hp => have g := aop_good hwf hr; exact ⟨g.wf, g.fr, rfl, rfl, fun rd h b hb => by cases h; exact g.rd b hb⟩
  | call h r hr f args hx m hm _ _ wr he =>
    have g := aop_good hwf hr; have hst := g.still; unfold Still at hst; rw [hx] at hst; have g2 := ev_good P O m _ _ he (by show r.W.wf; exact g.wf); refine ⟨g2.1, ?_, rfl, rfl, fun rd h => by cases h⟩; have := g2.2; rw [show (Task.call f args none r.W).W = W from hst.1] at this; exact this
  | round h r hr l args hx m hm _ _ wr he =>
    have g := aop_good hwf hr; have hst := g.still; unfold Still at hst; rw [hx] at hst; have g2 := ev_good P O m _ _ he (by show r.W.wf; exact g.wf); refine ⟨g2.1, ?_, rfl, rfl, fun rd h => by cases h⟩; have := g2.2; rw [show (Task.round l args r.W).W = W from hst.1] at this; exact this
theorem OpRun.plain {N : Nat} {ro : Option Nat} {all : Array Oper} {o : Oper} {env : Env} {X X' : Aux} {v : Value} {fp : FPr} (hwf : W.wf) (hp : plainOp o = true) (h : OpRun P O N ro all o env X W X' W' v fp) : X' = X := by
  cases h with
  | defer h r hr f args hx => have := (aop_good hwf hr).recov.2 (.inr ⟨f, args, hx⟩); rw [hp] at this; cases this
  | recov h r hr hx _ hpan => have := (aop_good hwf hr).recov.2 (.inl hx); rw [hp] at this; cases this
  | _ => rfl
theorem hHof {rd : Option (List Nat)} {wr : List Nat} (hd : Dom φ H W) (hlt : ∀ r, rd = some r → ∀ b ∈ r, b < W.next) (hwr : ∀ b ∈ wr, φ b ≠ none → b < W.next) :
    HOk φ H W rd wr := by
  cases rd with
  | none => exact hd
  | some r =>
    intro b p hb hm; rcases hm with hm | hm
    · exact hd b p hb (hlt r rfl b hm)
    · exact hd b p hb (hwr b hm (by rw [hb]; simp))
theorem ops_text {N : Nat} (hC : ∀ m, m < N → SimCall P O m) (hR : ∀ m, m < N → SimRound P O m) {ro : Option Nat} {sz : Nat} {all : Array Oper} (hok : all.toList.all operOk = true) : ∀ (rest : List Oper) (n i : Nat) (env : Env) (X : Aux) (W : AW) (p : Option Value) (env' : Env) (X' : Aux) (W' : AW) (fps : List FPr),
    n ≤ N → rest = all.toList.drop i → ev P O n (.ops ro sz all rest env X W) = some (.ops p env' X' W' fps) → W.wf →
    ∀ (φ : Phi) (base lb : Nat) (H : Nat → Blk) (w : World) (a : Act) (b : Frame) (k : List Item) (cs : List Frame), Rel φ base H w → Dom φ H W → Fresh φ W.next W'.next → TR φ env a.tmps → a.tmps.size = sz → DOk φ lb w X.defs a.defers →
      RoR φ ro b.roundOf → KindOk φ b.kind cs X.pan →
      ∃ φ' w' a' cs', Out φ φ' base H W W' (wrs fps) w w' ∧ TR φ' env' a'.tmps ∧ a'.tmps.size = sz ∧ DOk φ' lb w' X'.defs a'.defers ∧ PanR X.pan X'.pan cs cs' ∧
        match p with
        | none => Steps P (lone (b.atR a (.inRegion all (List.range' i rest.length) :: k)) cs w) (lone (b.atR a' k) cs' w')
        | some v => ∃ v' todo, VR φ' v v' ∧ NoCall todo ∧ Steps P (lone (b.atR a (.inRegion all (List.range' i rest.length) :: k)) cs w) (lone { b.atR a' todo with mode := .panicking [{ v := v', recovered := false }] } cs' w') := by
  intro rest
  induction rest with
  | nil =>
    intro n i env X W p env' X' W' fps hn hrest h hwf φ base lb H w a b k cs hr hd hf hT hs hD hro hK; cases n with
    | zero => simp [ev] at h
    | succ n =>
      simp only [ev] at h; cases h; exact ⟨φ, w, a, cs, Out.same hr, hT, hs, hD, PanR.refl _ _, .one stepR_region_end⟩
  | cons o rest ih =>
    intro n i env X W p env' X' W' fps hn hrest h hwf φ base lb H w a b k cs hr hd hf hT hs hD hro hK; cases n with
    | zero => simp [ev] at h
    | succ n =>
      have hoi : all[i]? = some o := by
        have h1 : (all.toList.drop i)[0]? = some o := by rw [← hrest]; rfl
        rw [List.getElem?_drop] at h1
        simpa using h1
      have hoo : operOk o = true := List.all_eq_true.1 hok o (List.mem_of_getElem? (by rw [Array.getElem?_toList]; exact hoi)); have hrest' : rest = all.toList.drop (i + 1) := by
        rw [← List.drop_drop, ← hrest]; rfl
      rcases ops_cons (N := N) (by omega) h with ⟨X1, W1, v, fp, env1, fps', hrun, hput, hev, rfl⟩ | ⟨v, fp, hpan, rfl, rfl, rfl, rfl⟩
      · obtain ⟨g1, g2, g3, g4, g5⟩ := hrun.good hwf; have gg := ev_good P O n _ _ hev g1; obtain ⟨φ1, w1, v', cs1, dfs, q1, q2, q3, q4, q5⟩ := op_one hC hR hrun hwf hoo hr hT (hHof hd g5 (fun c hc hne => by
            rcases Nat.lt_or_ge c W.next with h' | h'
            · exact h'
            · exact absurd (hf c h' (Nat.lt_of_lt_of_le (g2.lt c hc) gg.2.next)) hne)) (hf.le gg.2.next) hD hro hK hoi (rest := List.range' (i + 1) rest.length) (k := k)
        obtain ⟨t1, t2⟩ := TR.put (a := { a with defers := dfs }) (hT.mono q1.ext.le) hs q2 hput; obtain ⟨φ2, w2, a2, cs2, r1, r2, r3, r4, r5, r6⟩ := ih n (i + 1) env1 X1 W1 p env' X' W' fps' (by omega) hrest' hev g1 φ1 base lb _ w1 (({ a with defers := dfs } : Act).put o.dst v') b k cs1 q1.rel (hd.next q1 g2) (hf.next q1 g2) t1 t2
          (by rw [put_defers]; exact q3) (hro.mono q1.ext.le) (hK.next q1.ext.le q4)
        refine ⟨φ2, w2, a2, cs2, ?_, r2, r3, r4, q4.trans r5, ?_⟩
        · have := Out.trans g2 gg.2 q1 r1; exact this
        · rw [List.length_cons, List.range'_succ]; cases p with
          | none => exact q5.trans r6
          | some u =>
            obtain ⟨u', todo, s1, s0, s2⟩ := r6; exact ⟨u', todo, s1, s0, q5.trans s2⟩
      · have hlt : ∀ r, fp.rd = some r → ∀ b ∈ r, b < W.next := by
          cases hpan with
          | panic h r hr2 _ hx => have g := aop_good hwf hr2; intro rd h b hb; cases h; exact g.rd b hb
          | call => intro r h; cases h
          | round => intro r h; cases h
        have hwr : ∀ c ∈ fp.wr, φ c ≠ none → c < W.next := by
          intro c hc hne; rcases Nat.lt_or_ge c W.next with h' | h'
          · exact h'
          · refine absurd (hf c h' ?_) hne; have gg := ev_good P O (n + 1) _ _ h hwf; have := gg.2.lt c (by show c ∈ wrs [fp]; rw [wrs_one]; exact hc); exact this
        obtain ⟨φ1, w1, v', todo, q1, q2, q0, q3⟩ := op_pan hC hR hpan hwf hoo hr hT (hHof hd hlt hwr) hf hro hoi (rest := List.range' (i + 1) rest.length) (k := k) (cs := cs); refine ⟨φ1, w1, a, cs, by rw [wrs_one]; exact q1, hT.mono q1.ext.le, hs, hD.out q1, PanR.refl _ _, v', todo, q2, q0, ?_⟩; rw [List.length_cons, List.range'_succ]; exact q3
end Go.Abs
