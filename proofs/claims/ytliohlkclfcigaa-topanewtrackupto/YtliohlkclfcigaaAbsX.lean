/- A part of the proof that TopAnewTrack returns true at every input of bulk at most 1048576: shorter words for walks. -/
import Derived.Test.YtliohlkclfcigaaAbsM
import Derived.Test.YtliohlkclfcigaaAbsVc
set_option linter.unusedVariables false
set_option linter.unusedSimpArgs false
namespace Go.Abs
variable {P : Program} {O : Orc}
abbrev I64 : VT := .int .i64 (-9223372036854775808) 9223372036854775807
abbrev I6 (n : Int) : Prop := -9223372036854775808 ≤ n ∧ n ≤ 9223372036854775807
theorem lbr {n m : Nat} (h : Nat.ble n m = true := by rfl) : n ≤ m := Nat.le_of_ble_eq_true h
theorem Grow.trn {S S1 S2 : Sg} {W W1 W2 : AW} (h : Grow W.next S W S1 W1) (k : Grow W1.next S1 W1 S2 W2) : Grow W.next S W S2 W2 := h.trans h.next k
def force : Value → Option Value
  | .bool b => some (.bool b)
  | .int k n => some (.int k n)
  | .string s => some (.string s)
  | .pointer a => some (.pointer a)
  | .slice a n c => some (.slice a n c)
  | .map m => some (.map m)
  | .func f a b => some (.func f a b)
  | .agg cs => some (.agg cs)
  | .tuple cs => some (.tuple cs)
  | .nilFunc => some .nilFunc
  | _ => none
theorem force_eq {v w : Value} (h : force v = some w) : v = w := by
  cases v <;> simp [force] at h <;> exact h
def mvV (e : Env) : Op → Option Value
  | .move x | .assign x => force (aEval e x)
  | .nilCheck x => match aEval e x with
    | .pointer (some a) => some (.pointer (some a))
    | .func (.func f) a b => some (.func (.func f) a b)
    | .slice a n c => some (.slice a n c)
    | .map m => some (.map m)
    | _ => none
  | _ => none
section
variable {K : Nat} {M : Nat → Prop} {ro : Option Nat} {sz : Nat} {all : Array Oper} {rest : List Oper} {env : Env} {X : Aux} {W : AW} {acc : List FPr} {Q : Env → Aux → AW → List FPr → Prop}
variable {d : Nat} {op : Op} {ty : TypeId} {pos : String} {af : Array Edge} {gd : Option (Nat × Bool)}
theorem ROd.mv {v : Value} (h : mvV env op = some v) (hw : wantedA all env ⟨some d, op, ty, pos, af, gd⟩ = true) (hs : d < sz)
    (k : ROr P O K M ro sz all rest (upd env d v) X W (⟨some [], [], W.next, W.next⟩ :: acc) Q) : ROr P O K M ro sz all (⟨some d, op, ty, pos, af, gd⟩ :: rest) env X W acc Q := by
  refine ROd.val (v := v) (rd := []) ?_ hw hs k; unfold mvV at h; split at h
  · simp only [aop, force_eq h, okV]
  · simp only [aop, force_eq h, okV]
  · split at h <;> cases h <;> (rename_i he; simp only [aop, he, okV])
  · cases h
theorem Rm {v : Value} (k : ROr P O K M ro sz all rest (upd env d v) X W (⟨some [], [], W.next, W.next⟩ :: acc) Q) (h : mvV env op = some v := by exact rfl) (hw : wantedA all env ⟨some d, op, ty, pos, af, gd⟩ = true := by exact rfl) (hs : d < sz := by decide) :
    ROr P O K M ro sz all (⟨some d, op, ty, pos, af, gd⟩ :: rest) env X W acc Q := ROd.mv h hw hs k
theorem Rf {s : TypeId} {x : Operand} {f off b o : Nat} {ft : TypeId} (hf : fieldOf P s f = some (off, ft))
    (k : ROr P O K M ro sz all rest (upd env d (.pointer (some ⟨b, o + off, none⟩))) X W (⟨some [], [], W.next, W.next⟩ :: acc) Q)
    (hx : aEval env x = .pointer (some ⟨b, o, none⟩) := by exact rfl) (hw : wantedA all env ⟨some d, .fieldAddr s x f, ty, pos, af, gd⟩ = true := by exact rfl) (hs : d < sz := by decide) : ROr P O K M ro sz all (⟨some d, .fieldAddr s x f, ty, pos, af, gd⟩ :: rest) env X W acc Q :=
  ROd.fieldAddr hf hx hw hs k
variable {d2 : Nat} {op2 : Op} {ty2 : TypeId} {pos2 : String} {af2 : Array Edge} {gd2 : Option (Nat × Bool)}
theorem Rmm {v v2 : Value} (k : ROr P O K M ro sz all rest (upd (upd env d v) d2 v2) X W (⟨some [], [], W.next, W.next⟩ :: ⟨some [], [], W.next, W.next⟩ :: acc) Q) (h : mvV env op = some v := by exact rfl) (hw : wantedA all env ⟨some d, op, ty, pos, af, gd⟩ = true := by exact rfl) (hs : d < sz := by decide)
    (h2 : mvV (upd env d v) op2 = some v2 := by exact rfl) (hw2 : wantedA all (upd env d v) ⟨some d2, op2, ty2, pos2, af2, gd2⟩ = true := by exact rfl) (hs2 : d2 < sz := by decide) :
    ROr P O K M ro sz all (⟨some d, op, ty, pos, af, gd⟩ :: ⟨some d2, op2, ty2, pos2, af2, gd2⟩ :: rest) env X W acc Q := ROd.mv h hw hs (ROd.mv h2 hw2 hs2 k)
theorem Rmf {v : Value} {s : TypeId} {x : Operand} {f off b o : Nat} {ft : TypeId} (hf : fieldOf P s f = some (off, ft)) (k : ROr P O K M ro sz all rest (upd (upd env d v) d2 (.pointer (some ⟨b, o + off, none⟩))) X W (⟨some [], [], W.next, W.next⟩ :: ⟨some [], [], W.next, W.next⟩ :: acc) Q) (h : mvV env op = some v := by exact rfl) (hw : wantedA all env ⟨some d, op, ty, pos, af, gd⟩ = true := by exact rfl) (hs : d < sz := by decide)
    (hx : aEval (upd env d v) x = .pointer (some ⟨b, o, none⟩) := by exact rfl) (hw2 : wantedA all (upd env d v) ⟨some d2, .fieldAddr s x f, ty2, pos2, af2, gd2⟩ = true := by exact rfl) (hs2 : d2 < sz := by decide) :
    ROr P O K M ro sz all (⟨some d, op, ty, pos, af, gd⟩ :: ⟨some d2, .fieldAddr s x f, ty2, pos2, af2, gd2⟩ :: rest) env X W acc Q := ROd.mv h hw hs (ROd.fieldAddr hf hx hw2 hs2 k)
theorem Rff {s s2 : TypeId} {x x2 : Operand} {f f2 off off2 b o b2 o2 : Nat} {ft ft2 : TypeId} (hf : fieldOf P s f = some (off, ft)) (hf2 : fieldOf P s2 f2 = some (off2, ft2))
    (k : ROr P O K M ro sz all rest (upd (upd env d (.pointer (some ⟨b, o + off, none⟩))) d2 (.pointer (some ⟨b2, o2 + off2, none⟩))) X W (⟨some [], [], W.next, W.next⟩ :: ⟨some [], [], W.next, W.next⟩ :: acc) Q)
    (hx : aEval env x = .pointer (some ⟨b, o, none⟩) := by exact rfl) (hw : wantedA all env ⟨some d, .fieldAddr s x f, ty, pos, af, gd⟩ = true := by exact rfl) (hs : d < sz := by decide)
    (hx2 : aEval (upd env d (.pointer (some ⟨b, o + off, none⟩))) x2 = .pointer (some ⟨b2, o2, none⟩) := by exact rfl) (hw2 : wantedA all (upd env d (.pointer (some ⟨b, o + off, none⟩))) ⟨some d2, .fieldAddr s2 x2 f2, ty2, pos2, af2, gd2⟩ = true := by exact rfl) (hs2 : d2 < sz := by decide) :
    ROr P O K M ro sz all (⟨some d, .fieldAddr s x f, ty, pos, af, gd⟩ :: ⟨some d2, .fieldAddr s2 x2 f2, ty2, pos2, af2, gd2⟩ :: rest) env X W acc Q := ROd.fieldAddr hf hx hw hs (ROd.fieldAddr hf2 hx2 hw2 hs2 k)
theorem Ro (k : ROr P O K M ro sz all rest (upd env d undef) X W (⟨some [], [], W.next, W.next⟩ :: acc) Q) (hw : wantedA all env ⟨some d, op, ty, pos, af, gd⟩ = false := by exact rfl) (hs : d < sz := by decide) :
    ROr P O K M ro sz all (⟨some d, op, ty, pos, af, gd⟩ :: rest) env X W acc Q := ROd.offd hw hs k
theorem RV (v : Value) {rd : List Nat} (k : ROr P O K M ro sz all rest (upd env d v) X W (⟨some rd, [], W.next, W.next⟩ :: acc) Q) (h : aop P ro env ⟨some d, op, ty, pos, af, gd⟩ W = some ⟨.value v, W, rd, []⟩ := by exact rfl) (hw : wantedA all env ⟨some d, op, ty, pos, af, gd⟩ = true := by exact rfl) (hs : d < sz := by decide) :
    ROr P O K M ro sz all (⟨some d, op, ty, pos, af, gd⟩ :: rest) env X W acc Q := ROd.val h hw hs k
end
section
variable {K : Nat} {M : Nat → Prop} {ro : Option Nat} {sz : Nat} {env : Env} {X : Aux} {W : AW} {l : List Oper} {id : Nat} {Q : AExit → Env → Aux → AW → Prop}
theorem Rs {a b : Code} (h : RC P O K M ro sz a env X W (thenQ P O K M ro sz b Q)) : RC P O K M ro sz (.seq a b) env X W Q := RC_seqG h
theorem Rt {b : Code} (h : RC P O K M ro sz b env X W Q) : thenQ P O K M ro sz b Q .normal env X W := h
theorem Rn {all : Array Oper} {acc : List FPr} {Q : Env → Aux → AW → List FPr → Prop} (h : Q env X W acc) : ROr P O K M ro sz all [] env X W acc Q := ROd.nil h
theorem Rr (h : ROr P O K M ro sz ⟨l⟩ l env X W [] fun env X W _ => Q .normal env X W) : RC P O K M ro sz (.region id ⟨l⟩ false) env X W Q := RC_region rfl h
end
theorem us {f env : Env} {i : Nat} {v : Value} (h : f = env) (e : env i = v) : upd f i v = env := by subst h; exact upd_same e
theorem vr {p : Prop} (h : p := by repeat first | exact trivial | refine ⟨⟨_, rfl, by omega, by omega⟩, ?_⟩) : p := h
theorem VRows.i1 {S : Sg} {t0 : VT} {l : List Value} (h : VRows S [t0] l) : ∃ v0, l = [v0] ∧ VOk S t0 v0 := by
  obtain ⟨v0, _, rfl, q0, h0⟩ := VRows.inv h; obtain rfl := VRows.nil_inv h0; exact ⟨_, rfl, q0⟩
theorem VRows.i2 {S : Sg} {t0 t1 : VT} {l : List Value} (h : VRows S [t0, t1] l) : ∃ v0 v1, l = [v0, v1] ∧ VOk S t0 v0 ∧ VOk S t1 v1 := by
  obtain ⟨v0, _, rfl, q0, h0⟩ := VRows.inv h; obtain ⟨v1, _, rfl, q1, h1⟩ := VRows.inv h0; obtain rfl := VRows.nil_inv h1; exact ⟨_, _, rfl, q0, q1⟩
theorem VRows.i5 {S : Sg} {t0 t1 t2 t3 t4 : VT} {l : List Value} (h : VRows S [t0, t1, t2, t3, t4] l) : ∃ v0 v1 v2 v3 v4, l = [v0, v1, v2, v3, v4] ∧ VOk S t0 v0 ∧ VOk S t1 v1 ∧ VOk S t2 v2 ∧ VOk S t3 v3 ∧ VOk S t4 v4 := by
  obtain ⟨v0, _, rfl, q0, h0⟩ := VRows.inv h; obtain ⟨v1, _, rfl, q1, h1⟩ := VRows.inv h0; obtain ⟨v2, _, rfl, q2, h2⟩ := VRows.inv h1; obtain ⟨v3, _, rfl, q3, h3⟩ := VRows.inv h2; obtain ⟨v4, _, rfl, q4, h4⟩ := VRows.inv h3; obtain rfl := VRows.nil_inv h4; exact ⟨_, _, _, _, _, rfl, q0, q1, q2, q3, q4⟩
theorem VRows.i6 {S : Sg} {t0 t1 t2 t3 t4 t5 : VT} {l : List Value} (h : VRows S [t0, t1, t2, t3, t4, t5] l) : ∃ v0 v1 v2 v3 v4 v5, l = [v0, v1, v2, v3, v4, v5] ∧ VOk S t0 v0 ∧ VOk S t1 v1 ∧ VOk S t2 v2 ∧ VOk S t3 v3 ∧ VOk S t4 v4 ∧ VOk S t5 v5 := by
  obtain ⟨v0, _, rfl, q0, h0⟩ := VRows.inv h; obtain ⟨v1, _, rfl, q1, h1⟩ := VRows.inv h0; obtain ⟨v2, _, rfl, q2, h2⟩ := VRows.inv h1; obtain ⟨v3, _, rfl, q3, h3⟩ := VRows.inv h2; obtain ⟨v4, _, rfl, q4, h4⟩ := VRows.inv h3; obtain ⟨v5, _, rfl, q5, h5⟩ := VRows.inv h4; obtain rfl := VRows.nil_inv h5; exact ⟨_, _, _, _, _, _, rfl, q0, q1, q2, q3, q4, q5⟩
theorem VRows.i13 {S : Sg} {t0 t1 t2 t3 t4 t5 t6 t7 t8 t9 t10 t11 t12 : VT} {l : List Value} (h : VRows S [t0, t1, t2, t3, t4, t5, t6, t7, t8, t9, t10, t11, t12] l) : ∃ v0 v1 v2 v3 v4 v5 v6 v7 v8 v9 v10 v11 v12, l = [v0, v1, v2, v3, v4, v5, v6, v7, v8, v9, v10, v11, v12] ∧ VOk S t0 v0 ∧ VOk S t1 v1 ∧ VOk S t2 v2 ∧ VOk S t3 v3 ∧ VOk S t4 v4 ∧ VOk S t5 v5 ∧ VOk S t6 v6 ∧ VOk S t7 v7 ∧ VOk S t8 v8 ∧ VOk S t9 v9 ∧ VOk S t10 v10 ∧ VOk S t11 v11 ∧ VOk S t12 v12 := by
  obtain ⟨v0, _, rfl, q0, h0⟩ := VRows.inv h; obtain ⟨v1, _, rfl, q1, h1⟩ := VRows.inv h0; obtain ⟨v2, _, rfl, q2, h2⟩ := VRows.inv h1; obtain ⟨v3, _, rfl, q3, h3⟩ := VRows.inv h2; obtain ⟨v4, _, rfl, q4, h4⟩ := VRows.inv h3; obtain ⟨v5, _, rfl, q5, h5⟩ := VRows.inv h4; obtain ⟨v6, _, rfl, q6, h6⟩ := VRows.inv h5; obtain ⟨v7, _, rfl, q7, h7⟩ := VRows.inv h6; obtain ⟨v8, _, rfl, q8, h8⟩ := VRows.inv h7; obtain ⟨v9, _, rfl, q9, h9⟩ := VRows.inv h8; obtain ⟨v10, _, rfl, q10, h10⟩ := VRows.inv h9; obtain ⟨v11, _, rfl, q11, h11⟩ := VRows.inv h10; obtain ⟨v12, _, rfl, q12, h12⟩ := VRows.inv h11; obtain rfl := VRows.nil_inv h12; exact ⟨_, _, _, _, _, _, _, _, _, _, _, _, _, rfl, q0, q1, q2, q3, q4, q5, q6, q7, q8, q9, q10, q11, q12⟩
theorem RsOk.i1 {S : Sg} {t0 : RT} {l : List Value} (h : RsOk S [t0] l) : ∃ v0, l = [v0] ∧ ROk S t0 v0 := by
  obtain ⟨v0, _, rfl, q0, h0⟩ := RsOk.inv h; obtain rfl := RsOk.nil_inv h0; exact ⟨_, rfl, q0⟩
theorem RsOk.i2 {S : Sg} {t0 t1 : RT} {l : List Value} (h : RsOk S [t0, t1] l) : ∃ v0 v1, l = [v0, v1] ∧ ROk S t0 v0 ∧ ROk S t1 v1 := by
  obtain ⟨v0, _, rfl, q0, h0⟩ := RsOk.inv h; obtain ⟨v1, _, rfl, q1, h1⟩ := RsOk.inv h0; obtain rfl := RsOk.nil_inv h1; exact ⟨_, _, rfl, q0, q1⟩
theorem RsOk.i3 {S : Sg} {t0 t1 t2 : RT} {l : List Value} (h : RsOk S [t0, t1, t2] l) : ∃ v0 v1 v2, l = [v0, v1, v2] ∧ ROk S t0 v0 ∧ ROk S t1 v1 ∧ ROk S t2 v2 := by
  obtain ⟨v0, _, rfl, q0, h0⟩ := RsOk.inv h; obtain ⟨v1, _, rfl, q1, h1⟩ := RsOk.inv h0; obtain ⟨v2, _, rfl, q2, h2⟩ := RsOk.inv h1; obtain rfl := RsOk.nil_inv h2; exact ⟨_, _, _, rfl, q0, q1, q2⟩
section
variable {K : Nat} {M : Nat → Prop} {ro : Option Nat} {sz : Nat} {all : Array Oper} {rest : List Oper} {env : Env} {X : Aux} {W : AW} {acc : List FPr} {Q : Env → Aux → AW → List FPr → Prop}
variable {d : Nat} {ty : TypeId} {pos : String} {af : Array Edge} {gd : Option (Nat × Bool)}
theorem Rc {c : Callee} {as : Array Operand} {ats : Array TypeId} {f : FuncId} {vs : List Value} {S : Sg} {tys : List RT} {E : List Value → Prop} (hH : TH S W) (hK : K ≤ W.next) (hc : RK P O f vs W (Wr 0 S) (Post S W (Ret tys E)))
    (k : ∀ S1 W1, Grow W.next S W S1 W1 → TH S1 W1 → ∀ rs, RsOk S1 tys rs → E rs → ∀ wr, ROr P O K M ro sz all rest (upd env d (oneV rs)) X W1 (⟨none, wr, W.next, W1.next⟩ :: acc) Q)
    (h : aop P ro env ⟨some d, .call ⟨c, as, ats⟩, ty, pos, af, gd⟩ W = some ⟨.enter f vs, W, [], []⟩ := by exact rfl) (hw : wantedA all env ⟨some d, .call ⟨c, as, ats⟩, ty, pos, af, gd⟩ = true := by exact rfl) (hs : d < sz := by decide) :
    ROr P O K M ro sz all (⟨some d, .call ⟨c, as, ats⟩, ty, pos, af, gd⟩ :: rest) env X W acc Q := by
  refine ROd.call (M' := _) h hw hs hH.wf hK hc (fun _ _ hm => absurd hm Wr.zero) fun v W1 wr _ hq _ _ => ?_; obtain ⟨S1, g, h1, rs, rfl, hr, hx⟩ := hq; exact k S1 W1 g h1 rs hr hx wr
end
section
variable {K : Nat} {M : Nat → Prop} {ro : Option Nat} {sz : Nat} {all : Array Oper} {rest : List Oper} {env : Env} {X : Aux} {W : AW} {acc : List FPr} {Q : Env → Aux → AW → List FPr → Prop}
variable {d : Nat} {ty : TypeId} {pos : String} {af : Array Edge} {gd : Option (Nat × Bool)}
theorem RL (v : Value) {t : TypeId} {x : Operand} {kd : TK} {z : Value} {a own : Bool} {n by' b o g : Nat} {l : List Value} (ht : tinfo P t = some ⟨n, a, kd, z, by'⟩) (hb : W.get b = .cells own g l)
    (k : ROr P O K M ro sz all rest (upd env d v) X W (⟨some [b], [], W.next, W.next⟩ :: acc) Q) (hx : aEval env x = .pointer (some ⟨b, o, none⟩) := by exact rfl) (hle : o + n ≤ l.length := by exact lbr) (hv : mkV ⟨n, a, kd, z, by'⟩ ((l.drop o).take n) = some v := by exact rfl)
    (hw : wantedA all env ⟨some d, .load t x, ty, pos, af, gd⟩ = true := by exact rfl) (hs : d < sz := by decide) : ROr P O K M ro sz all (⟨some d, .load t x, ty, pos, af, gd⟩ :: rest) env X W acc Q := ROd.loadX ht hx hb hle hv hw hs k
theorem RL1 {S : Sg} (τ : VT) {t : TypeId} {x : Operand} {kd : TK} {z : Value} {by' b o g : Nat} {tys : List VT} (ht : tinfo P t = some ⟨1, false, kd, z, by'⟩) (hH : TH S W) (hb : S b = some (.cells tys g)) (hr : (tys.drop o).take 1 = [τ])
    (k : ∀ v, VOk S τ v → ROr P O K M ro sz all rest (upd env d v) X W (⟨some [b], [], W.next, W.next⟩ :: acc) Q) (hx : aEval env x = .pointer (some ⟨b, o, none⟩) := by exact rfl)
    (hw : wantedA all env ⟨some d, .load t x, ty, pos, af, gd⟩ = true := by exact rfl) (hs : d < sz := by decide) : ROr P O K M ro sz all (⟨some d, .load t x, ty, pos, af, gd⟩ :: rest) env X W acc Q := ROd.load1 ht hx hH hb hr hw hs k
theorem RLr {S : Sg} (τ : VT) {t : TypeId} {x : Operand} {kd : TK} {z : Value} {by' b o g : Nat} {tys : List VT} (ht : tinfo P t = some ⟨1, false, kd, z, by'⟩) (hH : TH S W) (hb : S b = some (.cells tys g))
    (k : ∀ v, VOk S τ v → ROr P O K M ro sz all rest (upd env d v) X W (⟨some [b], [], W.next, W.next⟩ :: acc) Q) (hx : aEval env x = .pointer (some ⟨b, o, none⟩) := by exact rfl) (hr : (tys.drop o).take 1 = [τ] := by exact rfl)
    (hw : wantedA all env ⟨some d, .load t x, ty, pos, af, gd⟩ = true := by exact rfl) (hs : d < sz := by decide) : ROr P O K M ro sz all (⟨some d, .load t x, ty, pos, af, gd⟩ :: rest) env X W acc Q := ROd.load1 ht hx hH hb hr hw hs k
theorem Ra (a b e : Int) {op : BinOp} {t t2 : TypeId} {x y : Operand}
    (k : ∀ n, -9223372036854775808 ≤ n → n ≤ 9223372036854775807 → (-9223372036854775808 ≤ e → e ≤ 9223372036854775807 → n = e) → ROr P O K M ro sz all rest (upd env d (.int .i64 n)) X W (⟨some [], [], W.next, W.next⟩ :: acc) Q)
    (hx : aEval env x = .int .i64 a := by exact rfl) (hy : aEval env y = .int .i64 b := by exact rfl) (he : binV P op t (isLit y) (.int .i64 a) (.int .i64 b) = some (.int .i64 (IntKind.i64.wrap e)) := by exact rfl)
    (hw : wantedA all env ⟨some d, .binOp op t x y t2, ty, pos, af, gd⟩ = true := by exact rfl) (hs : d < sz := by decide) :
    ROr P O K M ro sz all (⟨some d, .binOp op t x y t2, ty, pos, af, gd⟩ :: rest) env X W acc Q := ROd.arith hx hy he hw hs k
theorem RSo {S : Sg} (v : Value) (l' : List Value) {t : TypeId} {x y : Operand} {a : Bool} {kd : TK} {z : Value} {n by' b o g : Nat} {l : List Value} (ht : tinfo P t = some ⟨n, a, kd, z, by'⟩) (hH : TH S W) (hb : Ownd K S W b g l)
    (k : ∀ W1, W1.next = W.next → TH S W1 → Ownd K S W1 b g l' → Grow K S W S W1 → (∀ c, c ≠ b → W1.get c = W.get c) → ROr P O K M ro sz all rest env X W1 (⟨some [b], [b], W.next, W1.next⟩ :: acc) Q)
    (hx : aEval env x = .pointer (some ⟨b, o, none⟩) := by exact rfl) (hy : aEval env y = v := by exact rfl) (hn : (cellsOf v).length = n := by exact rfl) (hnt : noTup v = true := by exact rfl)
    (hle : o + n ≤ l.length := by exact lbr) (hl : splice l o (cellsOf v) = l' := by exact rfl) (hw : wantedA all env ⟨none, .store t x y, ty, pos, af, gd⟩ = true := by exact rfl) :
    ROr P O K M ro sz all (⟨none, .store t x y, ty, pos, af, gd⟩ :: rest) env X W acc Q := ROd.storeO ht hx hy hn hnt hH hb hle hl hw k
end
theorem bo {p : Prop} (h : p := by first | omega | (simp only [List.length_append, List.length_cons, List.length_nil]; omega)) : p := h
section
variable {ro : Option Nat} {sz : Nat} {all : Array Oper} {rest : List Oper} {env : Env} {X : Aux} {W W0 : AW} {acc : List FPr} {Q : Env → Aux → AW → List FPr → Prop}
variable {d : Nat} {ty : TypeId} {pos : String} {af : Array Edge} {gd : Option (Nat × Bool)}
theorem Rp {c : Callee} {as : Array Operand} {ats : Array TypeId} {f : FuncId} {vs : List Value} {h : Nat} {ns : List Int} {ss : List ByteArray} (st0 : HStep W0 h W) (hc : RK P O f vs W (HB W h) (fun _ W1 => HH W1 h ns ss ∧ HStep W h W1))
    (k : ∀ v W1, HH W1 h ns ss → HStep W h W1 → ∀ wr, ROr P O W0.next (HB W0 h) ro sz all rest (upd env d v) X W1 (⟨none, wr, W.next, W1.next⟩ :: acc) Q)
    (he : aop P ro env ⟨some d, .call ⟨c, as, ats⟩, ty, pos, af, gd⟩ W = some ⟨.enter f vs, W, [], []⟩ := by exact rfl) (hw : wantedA all env ⟨some d, .call ⟨c, as, ats⟩, ty, pos, af, gd⟩ = true := by exact rfl) (hs : d < sz := by decide) :
    ROr P O W0.next (HB W0 h) ro sz all (⟨some d, .call ⟨c, as, ats⟩, ty, pos, af, gd⟩ :: rest) env X W acc Q :=
  ROd.call (M' := _) he hw hs st0.aft.wf st0.aft.next hc (fun b hb hm => (st0.sub b hm).elim (fun h => h) fun hle => by omega) fun v W1 wr _ hq _ _ => k v W1 hq.1 hq.2 wr
end
theorem clo {X R : AW → Prop} {bx h : Nat} {W W1 : AW} (hXg : ∀ W, X W → bx < W.next ∧ R W) (hXs : ∀ W W1, X W → Aft (fun b => bx + 1 ≤ b) W W1 → X W1) (hx : X W) (hhx : ∀ b, HB W h b → bx + 1 ≤ b) (hs : HStep W h W1) : X W1 ∧ ∀ b, HB W1 h b → bx + 1 ≤ b :=
  ⟨hXs _ _ hx ⟨hs.aft.wf, hs.aft.next, fun b hb hn => hs.aft.same b hb fun h => hn (hhx b h)⟩, fun b hb => (hs.sub b hb).elim (hhx b) fun hle => by have := (hXg _ hx).1; omega⟩
theorem eQ {env : Env} {X : Aux} {W W0 : AW} {S S0 : Sg} {tys : List RT} {E : List Value → Prop} {rs : List ResultVar} (vs : List Value) (g : Grow W0.next S0 W0 S W) (hH : TH S W) (h : RsOk S tys vs) (hE : E vs) (hr : resL P env W rs = some vs := by exact rfl) (hX : X = {} := by exact rfl) :
    endQ P rs (Post S0 W0 (Ret tys E)) .ret env X W := endQ_r hr hX ⟨S, g, hH, vs, rfl, h, hE⟩
end Go.Abs
