/- A part of the proof that TopAnewTrack returns true at every input of bulk at most 1048576: an evaluator for the kernel. -/
import Derived.Test.YtliohlkclfcigaaAbsTa
set_option linter.unusedVariables false
set_option linter.unusedSimpArgs false
namespace Go.Abs
variable {P : Program}
inductive TExit where
  | exit (id : Nat)
  | goto (l : Nat)
  | ret
def toX : TExit → AExit
  | .exit id => .exit id
  | .goto l => .goto l
  | .ret => .ret
inductive TRun where
  | bad
  | nor (e : TE) (H : HT) (acc : List Nat)
  | out (x : TExit) (e : TE) (H : HT) (acc : List Nat)
inductive TCall where
  | bad
  | ret (v : Value) (H : HT) (wr : List Nat)
inductive TRow where
  | bad
  | fine (e : TE) (H : HT) (acc : List Nat) (fps : List FPr)
structure Ctx where
  call : FuncId → List Value → HT → TCall
  round : Nat → List Value → HT → TCall
noncomputable def revOn (l acc : List Nat) : List Nat := List.rec (motive := fun _ => List Nat → List Nat) (fun acc => acc) (fun a _ ih acc => ih (a :: acc)) l acc
theorem revOn_eq : ∀ (l acc : List Nat), revOn l acc = l.reverse ++ acc
  | [], _ => rfl
  | a :: l, acc => by show revOn l (a :: acc) = _; rw [revOn_eq l]; simp
noncomputable def gdT (all : Array Oper) (e : TE) (g : Option (Nat × Bool)) : Bool :=
  Option.rec (motive := fun _ => Bool) true
    (fun p => Option.rec (motive := fun _ => Bool) false
      (fun d => Option.rec (motive := fun _ => Bool) false (fun b => Bool.rec (motive := fun _ => Bool) (Bool.not b) b p.2) (vBool (eget e d)))
      ((all[p.1]?).bind (·.dst))) g
theorem gdT_eq (all : Array Oper) (e : TE) (o : Oper) : gdT all e o.guard = wantedA all (toE e) o := by
  unfold gdT wantedA yieldedA; cases o.guard with
  | none => rfl
  | some p =>
    obtain ⟨j, want⟩ := p; simp only; cases hd : (all[j]?).bind (·.dst) with
    | none => simp
    | some d =>
      simp only; show _ = (asBool' (eget e d) == some want); cases h : vBool (eget e d) with
      | none =>
        have : asBool' (eget e d) = none := by
          cases hv : eget e d <;> first | rfl | (rw [hv] at h; cases h)
        rw [this]; simp
      | some b =>
        rw [vBool_some h]; cases b <;> cases want <;> rfl
noncomputable def putT (sz : Nat) (dst : Option Tmp) (e : TE) (v : Value) (k : TE → TRow) : TRow :=
  Option.rec (motive := fun _ => TRow) (k e) (fun d => Bool.rec (motive := fun _ => TRow) .bad (k (Tr.set e d v)) (Nat.ble (Nat.succ d) sz)) dst
noncomputable def goT (K : Ctx) (sz : Nat) (dst : Option Tmp) (e : TE) (H : HT) (acc : List Nat) (fps : List FPr) (ih : TE → HT → List Nat → List FPr → TRow) (st : TStep) : TRow :=
  TStep.rec (motive := fun _ => TRow) .bad
    (fun v => putT sz dst e v fun e1 => ih e1 H acc (⟨some [], [], H.next, H.next⟩ :: fps))
    (fun v H1 rd wr => putT sz dst e v fun e1 => ih e1 H1 (revOn wr acc) (⟨some rd, wr, H.next, H1.next⟩ :: fps))
    (fun f args _ => TCall.rec (motive := fun _ => TRow) .bad (fun v H1 wr => putT sz dst e v fun e1 => ih e1 H1 (wr ++ acc) (⟨none, wr.reverse, H.next, H1.next⟩ :: fps)) (K.call f args H))
    (fun l args _ => TCall.rec (motive := fun _ => TRow) .bad (fun v H1 wr => putT sz dst e v fun e1 => ih e1 H1 (wr ++ acc) (⟨none, wr.reverse, H.next, H1.next⟩ :: fps)) (K.round l args H))
    st
noncomputable def opsT (P : Program) (K : Ctx) (ro : Option Nat) (sz : Nat) (all : Array Oper) (rest : List Oper) : TE → HT → List Nat → List FPr → TRow :=
  List.rec (motive := fun _ => TE → HT → List Nat → List FPr → TRow)
    (fun e H acc fps => .fine e H acc fps)
    (fun o _ ih e H acc fps => Bool.rec (motive := fun _ => TRow)
      (putT sz o.dst e undef fun e1 => ih e1 H acc (⟨some [], [], H.next, H.next⟩ :: fps))
      (goT K sz o.dst e H acc fps ih (stepO P (cO P o) ro e H))
      (gdT all e o.guard)) rest
def pairChk (fps : List FPr) (l : List (Nat × Nat)) : Bool :=
  l.all fun p => match fps[p.1]?, fps[p.2]? with
    | some a, some b => apartWB a b && apartWB b a
    | _, _ => false
noncomputable def regT (P : Program) (K : Ctx) (ro : Option Nat) (sz : Nat) (ops : Array Oper) (draw : Bool) (e : TE) (H : HT) (acc : List Nat) : TRun :=
  TRow.rec (motive := fun _ => TRun) .bad
    (fun e1 H1 acc1 fps => Bool.rec (motive := fun _ => TRun) (.nor e1 H1 acc1)
      (Bool.rec (motive := fun _ => TRun) .bad (List.rec (motive := fun _ => TRun) (.nor e1 H1 acc1) (fun p l _ => Bool.rec (motive := fun _ => TRun) .bad (.nor e1 H1 acc1) (pairChk fps.reverse (p :: l))) (unord ops)) (regionOk ops)) draw)
    (opsT P K ro sz ops ops.toList e H acc [])
noncomputable def seqT (r : TRun) (k : TE → HT → List Nat → TRun) : TRun :=
  TRun.rec (motive := fun _ => TRun) .bad (fun e H acc => k e H acc) (fun x e H acc => .out x e H acc) r
noncomputable def blockT (id : Nat) (r : TRun) : TRun :=
  TRun.rec (motive := fun _ => TRun) .bad (fun e H acc => .nor e H acc)
    (fun x e H acc => TExit.rec (motive := fun _ => TRun) (fun j => Bool.rec (motive := fun _ => TRun) (.out (.exit j) e H acc) (.nor e H acc) (Nat.beq j id)) (fun l => .out (.goto l) e H acc) (.out .ret e H acc) x) r
noncomputable def scopeT (r : TRun) : TRun :=
  TRun.rec (motive := fun _ => TRun) .bad (fun e H acc => .nor e H acc)
    (fun x e H acc => TExit.rec (motive := fun _ => TRun) (fun j => .out (.exit j) e H acc) (fun _ => .bad) (.out .ret e H acc) x) r
noncomputable def loopT (n : Nat) (k : TE → HT → List Nat → TRun) : TE → HT → List Nat → TRun :=
  Nat.rec (motive := fun _ => TE → HT → List Nat → TRun) (fun _ _ _ => .bad) (fun _ ih e H acc => seqT (k e H acc) ih) n
def exitX : Code → Option TExit
  | .ret => some .ret
  | .exit id => some (.exit id)
  | .goto l => some (.goto l)
  | _ => none
noncomputable def rangeT (K : Ctx) (ro : Option Nat) (sz : Nat) (f : Operand) (ps : List Tmp) (asg body : Code) (e : TE) (H : HT) (acc : List Nat) : TRun :=
  if roundOk (toW H) ro = false then .bad else
  match vFn (aEvalT e f) with
  | some (.func g, a, b) =>
    match K.call g (a ++ [.func (.yield H.next) #[] #[]] ++ b) (H.alloc (.loop .ready none sz e ps asg body)) with
    | .ret _ H1 wr =>
      match Tr.get H1.tr H.next with
      | some (.loop st pend sz' env' ps' asg' body') =>
        if st = .busy then .bad else
        match pend with
        | none => .nor e (H1.set H.next (.loop .exhausted pend sz' env' ps' asg' body')) (H.next :: (wr ++ acc))
        | some c => match exitX c with
          | some x => .out x e (H1.set H.next (.loop .exhausted pend sz' env' ps' asg' body')) (H.next :: (wr ++ acc))
          | none => .bad
      | _ => .bad
    | .bad => .bad
  | _ => .bad
noncomputable def comp (P : Program) (K : Ctx) (ro : Option Nat) (sz : Nat) (c : Code) : TE → HT → List Nat → TRun :=
  Code.rec (motive := fun _ => TE → HT → List Nat → TRun)
    (fun e H acc => .nor e H acc)
    (fun _ ops draw e H acc => regT P K ro sz ops draw e H acc)
    (fun _ _ iha ihb e H acc => seqT (iha e H acc) ihb)
    (fun c _ _ iha ihb e H acc => Option.rec (motive := fun _ => TRun) .bad (fun t => Bool.rec (motive := fun _ => TRun) (ihb e H acc) (iha e H acc) t) (vBool (aEvalT e c)))
    (fun id _ ih e H acc => blockT id (ih e H acc))
    (fun _ ih e H acc => loopT 1000000 ih e H acc)
    (fun f ps asg body _ _ e H acc => rangeT K ro sz f ps.toList asg body e H acc)
    (fun id e H acc => .out (.exit id) e H acc)
    (fun _ ih e H acc => scopeT (ih e H acc))
    (fun _ e H acc => .nor e H acc)
    (fun l e H acc => .out (.goto l) e H acc)
    (fun e H acc => .out .ret e H acc)
    (fun _ _ _ _ => .bad)
    c
noncomputable def resV (P : Program) (e : TE) (H : HT) (r : ResultVar) : Option Value :=
  match r with
  | .tmp t => some (eget e t)
  | .cell a t => match tinfo P t, vPtr (eget e a) with
    | some ti, some a => if 0 < ti.size then loadT H a ti.size ti.agg else none
    | _, _ => none
noncomputable def resT (P : Program) (e : TE) (H : HT) (rs : List ResultVar) : Option (List Value) :=
  List.rec (motive := fun _ => Option (List Value)) (some [])
    (fun r _ ih => Option.rec (motive := fun _ => Option (List Value)) none (fun v => Option.rec (motive := fun _ => Option (List Value)) none (fun vs => some (v :: vs)) ih) (resV P e H r)) rs
noncomputable def oneT (vs : List Value) : Value :=
  List.rec (motive := fun _ => Value) (.tuple ⟨vs⟩) (fun v r _ => List.rec (motive := fun _ => Value) v (fun _ _ _ => .tuple ⟨vs⟩) r) vs
noncomputable def retT (P : Program) (rs : List ResultVar) (r : TRun) : TCall :=
  TRun.rec (motive := fun _ => TCall) .bad
    (fun e H acc => Option.rec (motive := fun _ => TCall) .bad (fun vs => .ret (oneT vs) H acc) (resT P e H rs))
    (fun x e H acc => TExit.rec (motive := fun _ => TCall) (fun _ => .bad) (fun _ => .bad) (Option.rec (motive := fun _ => TCall) .bad (fun vs => .ret (oneT vs) H acc) (resT P e H rs)) x) r
def finfo (P : Program) (f : FuncId) : Option (Nat × Code × List ResultVar) :=
  match P.funcs[f]? with
  | none => none
  | some fn => if fn.name == "runtime.NumGoroutine" then none else
    match fn.body with
    | none => none
    | some body => some (fn.ntmps, body, fn.results.toList)
noncomputable def maxT (a b : Nat) : Nat := Bool.rec (motive := fun _ => Nat) a b (Nat.ble a b)
theorem maxT_eq (a b : Nat) : maxT a b = max a b := by
  unfold maxT; rw [ble_iff]; by_cases h : a ≤ b
  · rw [decide_eq_true h, Nat.max_eq_right h]
  · rw [decide_eq_false h, Nat.max_eq_left (by omega)]
noncomputable def callT (P : Program) (K : Ctx) (f : FuncId) (args : List Value) (H : HT) : TCall :=
  Option.rec (motive := fun _ => TCall) .bad (fun i => retT P i.2.2 (comp P K none (maxT (lenT args) i.1) i.2.1 (ofArgs args 0 .nil) H [])) (finfo P f)
def jumpX : TExit → Code
  | .ret => .ret
  | .exit id => .exit id
  | .goto l => .goto l
noncomputable def endT (l : Nat) (wr1 : List Nat) (j : Option Code) (H2 : HT) (wr2 : List Nat) : TCall :=
  match Tr.get H2.tr l with
  | some (.loop _ _ sz2 env2 ps2 asg2 body2) => .ret (.bool j.isNone) (H2.set l (.loop (if j.isNone then .ready else .done) j sz2 env2 ps2 asg2 body2)) (l :: (wr2 ++ l :: wr1))
  | _ => .bad
noncomputable def roundT (P : Program) (K : Ctx) (l : Nat) (args : List Value) (H : HT) : TCall :=
  match Tr.get H.tr l with
  | some (.loop _ _ sz env ps asg body) =>
    if args.length ≠ ps.length then .bad else
    match comp P K (some l) sz asg (setAll env (ps.zip args)) H [] with
    | .nor e1 H1 wr1 =>
      match Tr.get H1.tr l with
      | some (.loop .ready pend sz' env' ps' asg' body') =>
        match comp P K (some l) sz body e1 (H1.set l (.loop .busy pend sz' env' ps' asg' body')) [] with
        | .nor _ H2 wr2 => endT l wr1 none H2 wr2
        | .out x _ H2 wr2 => endT l wr1 (some (jumpX x)) H2 wr2
        | .bad => .bad
      | _ => .bad
    | _ => .bad
  | _ => .bad
noncomputable def ctx (P : Program) (d : Nat) : Ctx :=
  Nat.rec (motive := fun _ => Ctx) ⟨fun _ _ _ => .bad, fun _ _ _ => .bad⟩ (fun _ K => ⟨callT P K, roundT P K⟩) d
def CTok (P : Program) (t : Task) : TCall → Prop
  | .bad => True
  | .ret v H wr => ∃ n, ev P noO n t = some (.call (.returned v) none (toW H) wr.reverse)
structure CtxOk (P : Program) (K : Ctx) : Prop where
  call : ∀ f args H, (toW H).wf → CTok P (.call f args none (toW H)) (K.call f args H)
  round : ∀ l args H, (toW H).wf → CTok P (.round l args (toW H)) (K.round l args H)
def RTok (P : Program) (ro : Option Nat) (sz : Nat) (c : Code) (e : TE) (H : HT) (acc : List Nat) : TRun → Prop
  | .bad => True
  | .nor e' H' acc' => ∃ n wr, ev P noO n (.code ro sz c (toE e) {} (toW H)) = some (.code .normal (toE e') {} (toW H') wr) ∧ acc' = wr.reverse ++ acc
  | .out x e' H' acc' => ∃ n wr, ev P noO n (.code ro sz c (toE e) {} (toW H)) = some (.code (toX x) (toE e') {} (toW H') wr) ∧ acc' = wr.reverse ++ acc
def OTok (P : Program) (ro : Option Nat) (sz : Nat) (all : Array Oper) (rest : List Oper) (e : TE) (H : HT) (acc : List Nat) (fps : List FPr) : TRow → Prop
  | .bad => True
  | .fine e' H' acc' fps' => ∃ n l, ev P noO n (.ops ro sz all rest (toE e) {} (toW H)) = some (.ops none (toE e') {} (toW H') l) ∧ fps' = l.reverse ++ fps ∧ acc' = (wrs l).reverse ++ acc
theorem putT_fine {sz : Nat} {dst : Option Tmp} {e : TE} {v : Value} {k : TE → TRow} : putT sz dst e v k = .bad ∨ ∃ e1, putE sz dst (toE e) v = some (toE e1) ∧ putT sz dst e v k = k e1 := by
  cases dst with
  | none => exact .inr ⟨e, rfl, rfl⟩
  | some d =>
    show Bool.rec (motive := fun _ => TRow) .bad (k (Tr.set e d v)) (Nat.ble (Nat.succ d) sz) = _ ∨ _; cases h : Nat.ble (Nat.succ d) sz with
    | false => exact .inl rfl
    | true =>
      have : d < sz := Nat.le_of_ble_eq_true h; exact .inr ⟨Tr.set e d v, by simp only [putE]; rw [if_pos this, toE_set], by show Bool.rec (motive := fun _ => TRow) .bad (k (Tr.set e d v)) (Nat.ble (Nat.succ d) sz) = _; rw [h]⟩
theorem opsT_ok {K : Ctx} (hK : CtxOk P K) {ro : Option Nat} {sz : Nat} {all : Array Oper} : ∀ (rest : List Oper) (e : TE) (H : HT) (acc : List Nat) (fps : List FPr), (toW H).wf → OTok P ro sz all rest e H acc fps (opsT P K ro sz all rest e H acc fps) := by
  intro rest
  induction rest with
  | nil => intro e H acc fps _; exact ⟨1, [], by simp [ev], rfl, rfl⟩
  | cons o rest ih =>
    intro e H acc fps hwf; show OTok P ro sz all (o :: rest) e H acc fps (Bool.rec (motive := fun _ => TRow)
      (putT sz o.dst e undef fun e1 => opsT P K ro sz all rest e1 H acc (⟨some [], [], H.next, H.next⟩ :: fps))
      (goT K sz o.dst e H acc fps (opsT P K ro sz all rest) (stepO P (cO P o) ro e H))
      (gdT all e o.guard))
    rw [gdT_eq]; have cont : ∀ (v : Value) (H1 : HT) (fp : FPr) (n0 : Nat) (acc1 : List Nat), (toW H1).wf → acc1 = fp.wr.reverse ++ acc →
        (∀ n e1 r, n0 ≤ n → putE sz o.dst (toE e) v = some (toE e1) → ev P noO n (.ops ro sz all rest (toE e1) {} (toW H1)) = some r → ∀ env' X' W' l, r = .ops none env' X' W' l → ev P noO (n + 1) (.ops ro sz all (o :: rest) (toE e) {} (toW H)) = some (.ops none env' X' W' (fp :: l))) →
        OTok P ro sz all (o :: rest) e H acc fps (putT sz o.dst e v fun e1 => opsT P K ro sz all rest e1 H1 acc1 (fp :: fps)) := by
      intro v H1 fp n0 acc1 hwf1 hacc hev; rcases putT_fine (sz := sz) (dst := o.dst) (e := e) (v := v) (k := fun e1 => opsT P K ro sz all rest e1 H1 acc1 (fp :: fps)) with h | ⟨e1, h1, h2⟩
      · rw [h]; trivial
      · rw [h2]; have := ih e1 H1 acc1 (fp :: fps) hwf1; cases hr : opsT P K ro sz all rest e1 H1 acc1 (fp :: fps) with
        | bad => trivial
        | fine e' H' acc' fps' =>
          rw [hr] at this; obtain ⟨n, l, g1, g2, g3⟩ := this; refine ⟨max n n0 + 1, fp :: l, hev _ e1 _ (Nat.le_max_right _ _) h1 (ev_mono (Nat.le_max_left _ _) g1) _ _ _ _ rfl, by rw [g2]; simp, ?_⟩; rw [g3, hacc]; simp [wrs]
    cases hw : wantedA all (toE e) o with
    | false =>
      refine cont undef H ⟨some [], [], H.next, H.next⟩ 0 acc hwf (by simp) fun n e1 r _ hp he env' X' W' l hr => ?_; simp only [ev]; rw [if_neg (by rw [hw]; simp), hp]; simp only; rw [he, hr]; rfl
    | true =>
      simp only; have hs := stepO_ok (P := P) (ro := ro) (e := e) (o := o) hwf; cases hst : stepO P (cO P o) ro e H with
      | bad => trivial
      | val v =>
        rw [hst] at hs; have hs' : aop P ro (toE e) o (toW H) = some ⟨.value v, toW H, [], []⟩ := hs; refine cont v H ⟨some [], [], H.next, H.next⟩ 0 acc hwf (by simp) fun n e1 r _ hp he env' X' W' l hr => ?_; simp only [ev]; rw [if_pos hw, hs']; simp only; rw [hp]; simp only; rw [he, hr]; rfl
      | mem v H1 rd wr =>
        rw [hst] at hs; obtain ⟨x, hs', hx⟩ := hs; have hg := aop_good hwf hs'; refine cont v H1 ⟨some rd, wr, H.next, H1.next⟩ 0 (revOn wr acc) hg.wf (revOn_eq _ _) fun n e1 r _ hp he env' X' W' l hr => ?_; rcases hx with rfl | ⟨rfl, rfl⟩
        · simp only [ev]; rw [if_pos hw, hs']; simp only; rw [hp]; simp only; rw [he, hr]; rfl
        · simp only [ev]; rw [if_pos hw, hs']; simp only; rw [hp]; simp only; rw [he, hr]; rfl
      | enter f args rd =>
        rw [hst] at hs; have hs' : aop P ro (toE e) o (toW H) = some ⟨.enter f args, toW H, rd, []⟩ := hs; have hc := hK.call f args H hwf; show OTok P ro sz all (o :: rest) e H acc fps (TCall.rec (motive := fun _ => TRow) .bad (fun v H1 wr => putT sz o.dst e v fun e1 => opsT P K ro sz all rest e1 H1 (wr ++ acc) (⟨none, wr.reverse, H.next, H1.next⟩ :: fps)) (K.call f args H)); cases hct : K.call f args H with
        | bad => trivial
        | ret v H1 wr =>
          rw [hct] at hc; obtain ⟨n1, hn1⟩ := hc; have hg := ev_good P noO n1 _ _ hn1 hwf; refine cont v H1 ⟨none, wr.reverse, H.next, H1.next⟩ n1 (wr ++ acc) hg.1 (by simp) fun n e1 r hn hp he env' X' W' l hr => ?_; simp only [ev]; rw [if_pos hw, hs']; simp only; rw [ev_mono hn hn1]; simp only; rw [hp]; simp only; rw [he, hr]; rfl
      | round f args rd =>
        rw [hst] at hs; have hs' : aop P ro (toE e) o (toW H) = some ⟨.round f args, toW H, rd, []⟩ := hs; have hc := hK.round f args H hwf; show OTok P ro sz all (o :: rest) e H acc fps (TCall.rec (motive := fun _ => TRow) .bad (fun v H1 wr => putT sz o.dst e v fun e1 => opsT P K ro sz all rest e1 H1 (wr ++ acc) (⟨none, wr.reverse, H.next, H1.next⟩ :: fps)) (K.round f args H)); cases hct : K.round f args H with
        | bad => trivial
        | ret v H1 wr =>
          rw [hct] at hc; obtain ⟨n1, hn1⟩ := hc; have hg := ev_good P noO n1 _ _ hn1 hwf; refine cont v H1 ⟨none, wr.reverse, H.next, H1.next⟩ n1 (wr ++ acc) hg.1 (by simp) fun n e1 r hn hp he env' X' W' l hr => ?_; simp only [ev]; rw [if_pos hw, hs']; simp only; rw [ev_mono hn hn1]; simp only; rw [hp]; simp only; rw [he, hr]; rfl
end Go.Abs
