/- A part of the proof that TopAnewTrack returns true at every input of bulk at most 1048576: an evaluator for the kernel. -/
import Derived.Test.YtliohlkclfcigaaAbsTb
import Derived.Test.YtliohlkclfcigaaAbsU
import Derived.Test.YtliohlkclfcigaaAbsM
set_option linter.unusedVariables false
set_option linter.unusedSimpArgs false
namespace Go.Abs
variable {P : Program}
theorem ops_prints {ro : Option Nat} {sz : Nat} {all : Array Oper} : ∀ (rest : List Oper) (n : Nat) (env : Env) (X : Aux) (W : AW) (env' : Env) (X' : Aux) (W' : AW) (l : List FPr), ev P noO n (.ops ro sz all rest env X W) = some (.ops none env' X' W' l) →
    l.length = rest.length ∧ ∀ (i : Nat) (o : Oper) (fp : FPr), rest[i]? = some o → l[i]? = some fp → (silent o = true → Quiet fp) ∧ (writeless o = true → fp.wr = []) := by
  intro rest
  induction rest with
  | nil =>
    intro n env X W env' X' W' l h; cases n with
    | zero => simp [ev] at h
    | succ n => simp only [ev, Option.some.injEq, Res.ops.injEq] at h; rw [← h.2.2.2.2]; simp
  | cons o rest ih =>
    intro n env X W env' X' W' l h; cases n with
    | zero => simp [ev] at h
    | succ n =>
      have fin : ∀ {env1 : Env} {X1 : Aux} {W1 : AW} {fp : FPr}, ((silent o = true → Quiet fp) ∧ (writeless o = true → fp.wr = [])) →
          (match ev P noO n (.ops ro sz all rest env1 X1 W1) with
            | some (.ops p env X W fps) => some (Res.ops p env X W (fp :: fps))
            | _ => none) = some (.ops none env' X' W' l) → l.length = (o :: rest).length ∧ ∀ (i : Nat) (o' : Oper) (fp : FPr), (o :: rest)[i]? = some o' → l[i]? = some fp → (silent o' = true → Quiet fp) ∧ (writeless o' = true → fp.wr = []) := by
        intro env1 X1 W1 fp hq hh; split at hh
        · rename_i p e2 X2 W2 fps he; simp only [Option.some.injEq, Res.ops.injEq] at hh; obtain ⟨h1, h2, h3, h4, h5⟩ := hh; subst h1; obtain ⟨g1, g2⟩ := ih n _ _ _ _ _ _ _ he; subst h5; refine ⟨by simp [g1], fun i o' fp' ho hf => ?_⟩; cases i with
          | zero => simp at ho hf; subst ho; subst hf; exact hq
          | succ i => exact g2 i o' fp' (by simpa using ho) (by simpa using hf)
        · cases hh
      simp only [ev] at h; split at h
      · split at h
        · cases h
        · rename_i r hr; have hqu : (silent o = true → Quiet ⟨some r.rd, r.wr, W.next, r.W.next⟩) ∧ (writeless o = true → r.wr = []) := ⟨fun hs => by
            obtain ⟨g1, g2, g3, _⟩ := silent_quiet hs hr; exact ⟨by rw [g1], g2, by rw [g3]⟩, fun hs => (writeless_wr hs hr).1⟩
          have hqc : (∀ v, r.x ≠ .value v) → ∀ fp : FPr, (silent o = true → Quiet fp) ∧ (writeless o = true → fp.wr = []) := fun hx fp => ⟨fun hs => by
            obtain ⟨_, _, _, v, g⟩ := silent_quiet hs hr; exact (hx v g).elim, fun hs => by
            obtain ⟨_, v, g⟩ := writeless_wr hs hr; exact (hx v g).elim⟩
          cases hx : r.x with
          | value v =>
            rw [hx] at h; simp only at h; split at h
            · cases h
            · exact fin hqu h
          | skip =>
            rw [hx] at h; simp only at h; split at h
            · cases h
            · exact fin hqu h
          | defer f args =>
            rw [hx] at h; simp only at h; split at h
            · cases h
            · exact fin hqu h
          | recover =>
            rw [hx] at h; simp only at h; split at h
            · split at h
              · cases h
              · exact fin hqu h
            · split at h
              · cases h
              · exact fin hqu h
          | panic v => rw [hx] at h; simp at h
          | enter f args =>
            rw [hx] at h; simp only at h; split at h
            · split at h
              · cases h
              · exact fin (hqc (by rw [hx]; intro v hv; cases hv) _) h
            · simp at h
            · cases h
          | round f args =>
            rw [hx] at h; simp only at h; split at h
            · split at h
              · cases h
              · exact fin (hqc (by rw [hx]; intro v hv; cases hv) _) h
            · simp at h
            · cases h
      · split at h
        · cases h
        · exact fin (fp := ⟨some [], [], W.next, W.next⟩) ⟨fun _ => ⟨rfl, rfl, rfl⟩, fun _ => rfl⟩ h
theorem noConf_pairs {ops : Array Oper} {fps : List FPr} (h5 : fps.length = ops.toList.length) (h6 : ∀ (i : Nat) (o : Oper) (fp : FPr), ops.toList[i]? = some o → fps[i]? = some fp → (silent o = true → Quiet fp) ∧ (writeless o = true → fp.wr = []))
    (hp : pairChk fps (unord ops) = true) : noConfB ops fps = true := by
  have h5' : fps.length = ops.size := by rw [h5]; exact Array.length_toList
  unfold noConfB; simp only [List.all_eq_true, List.mem_range]; intro j hj i hij; rw [Bool.or_eq_true]; by_cases ho : ordered (Region.before ops) i j = true
  · exact .inl ho
  right; have hjs : j < ops.size := h5' ▸ hj; have e1 : fps[i]? = some fps[i] := List.getElem?_eq_getElem (by omega); have e2 : fps[j]? = some fps[j] := List.getElem?_eq_getElem hj; have o1 : ops.toList[i]? = some ops[i] := by simp
  have o2 : ops.toList[j]? = some ops[j] := by simp
  rw [e1, e2]; simp only [Bool.and_eq_true]; by_cases s1 : silent ops[i] = true
  · exact ((h6 i _ _ o1 e1).1 s1).apart
  by_cases s2 : silent ops[j] = true
  · exact ((h6 j _ _ o2 e2).1 s2).apart.symm
  by_cases s3 : writeless ops[i] = true ∧ writeless ops[j] = true
  · exact ⟨apartWB_of (.inl ((h6 i _ _ o1 e1).2 s3.1)), apartWB_of (.inl ((h6 j _ _ o2 e2).2 s3.2))⟩
  have hm : (i, j) ∈ unord ops := by
    unfold unord; simp only [List.mem_flatMap, List.mem_range, List.mem_map, List.mem_filter, Bool.and_eq_true, Bool.not_eq_true']; have hi : i < ops.size := by omega
    have d1 : ops.getD i default = ops[i] := by rw [Array.getD_eq_getD_getElem?, Array.getElem?_eq_getElem hi]; rfl
    have d2 : ops.getD j default = ops[j] := by rw [Array.getD_eq_getD_getElem?, Array.getElem?_eq_getElem hjs]; rfl
    refine ⟨j, hjs, i, ⟨hij, ⟨⟨by simpa using ho, by rw [d1]; simpa using s1⟩, by rw [d2]; simpa using s2⟩, ?_⟩, rfl⟩; rw [d1, d2, Bool.and_eq_false_iff]; rw [Classical.not_and_iff_not_or_not] at s3
    simpa using s3
  unfold pairChk at hp; rw [List.all_eq_true] at hp; have := hp _ hm; simp only [e1, e2, Bool.and_eq_true] at this; exact this
theorem regT_ok {K : Ctx} (hK : CtxOk P K) {ro : Option Nat} {sz id : Nat} {ops : Array Oper} {draw : Bool} {e : TE} {H : HT} {acc : List Nat} (hwf : (toW H).wf) : RTok P ro sz (.region id ops draw) e H acc (regT P K ro sz ops draw e H acc) := by
  have h := opsT_ok hK (ro := ro) (sz := sz) (all := ops) ops.toList e H acc [] hwf; unfold regT; cases hr : opsT P K ro sz ops ops.toList e H acc [] with
  | bad => trivial
  | fine e1 H1 acc1 fps =>
    rw [hr] at h; obtain ⟨n, l, h1, h2, h3⟩ := h; simp only; cases draw with
    | false => exact ⟨n + 1, wrs l, by simp only [ev]; rw [h1]; simp, h3⟩
    | true =>
      simp only; cases hreg : regionOk ops with
      | false => trivial
      | true =>
        simp only; obtain ⟨g1, g2⟩ := ops_prints _ _ _ _ _ _ _ _ _ h1; have done : pairChk l (unord ops) = true → RTok P ro sz (.region id ops true) e H acc (.nor e1 H1 acc1) := fun hp => by
          have hc := noConf_pairs g1 g2 hp; exact ⟨n + 1, wrs l, by simp only [ev]; rw [h1]; simp [hreg, hc], h3⟩
        have hl : fps.reverse = l := by rw [h2]; simp
        cases hu : unord ops with
        | nil => exact done (by rw [hu]; rfl)
        | cons p r =>
          simp only; cases hp : pairChk fps.reverse (p :: r) with
          | false => trivial
          | true => exact done (by rw [hu, ← hl]; exact hp)
theorem exitX_ok {c : Code} {x : TExit} (h : exitX c = some x) : exitOf c = some (toX x) := by
  cases c <;> simp only [exitX] at h <;> first | (cases h; done) | (cases h; rfl)
theorem comp_ok {K : Ctx} (hK : CtxOk P K) {ro : Option Nat} {sz : Nat} (c : Code) : ∀ (e : TE) (H : HT) (acc : List Nat), (toW H).wf → RTok P ro sz c e H acc (comp P K ro sz c e H acc) := by
  have wfOf : ∀ {n : Nat} {c : Code} {e : TE} {H : HT} {x : AExit} {e' : Env} {X' : Aux} {W' : AW} {wr : List Nat}, (toW H).wf → ev P noO n (.code ro sz c (toE e) {} (toW H)) = some (.code x e' X' W' wr) → W'.wf := fun hwf h => (ev_good P noO _ _ _ h hwf).1
  induction c with
  | skip => intro e H acc _; exact ⟨1, [], by simp only [ev], by simp⟩
  | region id ops draw => intro e H acc hwf; exact regT_ok hK hwf
  | seq a b iha ihb =>
    intro e H acc hwf; show RTok P ro sz (.seq a b) e H acc (seqT (comp P K ro sz a e H acc) (comp P K ro sz b)); have h := iha e H acc hwf; cases hr : comp P K ro sz a e H acc with
    | bad => trivial
    | out x e1 H1 acc1 =>
      rw [hr] at h; obtain ⟨n, wr, h1, h2⟩ := h; refine ⟨n + 1, wr, ?_, h2⟩; simp only [ev]; rw [h1]; cases x <;> rfl
    | nor e1 H1 acc1 =>
      rw [hr] at h; obtain ⟨n, wr, h1, h2⟩ := h; show RTok P ro sz (.seq a b) e H acc (comp P K ro sz b e1 H1 acc1); have h' := ihb e1 H1 acc1 (wfOf hwf h1); cases hr2 : comp P K ro sz b e1 H1 acc1 with
      | bad => trivial
      | nor e2 H2 acc2 =>
        rw [hr2] at h'; obtain ⟨n2, wr2, g1, g2⟩ := h'; refine ⟨max n n2 + 1, wr ++ wr2, ?_, by rw [g2, h2]; simp⟩; simp only [ev]; rw [ev_mono (Nat.le_max_left _ _) h1]; simp only; rw [ev_mono (Nat.le_max_right _ _) g1]
      | out x e2 H2 acc2 =>
        rw [hr2] at h'; obtain ⟨n2, wr2, g1, g2⟩ := h'; refine ⟨max n n2 + 1, wr ++ wr2, ?_, by rw [g2, h2]; simp⟩; simp only [ev]; rw [ev_mono (Nat.le_max_left _ _) h1]; simp only; rw [ev_mono (Nat.le_max_right _ _) g1]
  | cond o a b iha ihb =>
    intro e H acc hwf; show RTok P ro sz (.cond o a b) e H acc (Option.rec (motive := fun _ => TRun) .bad (fun t => Bool.rec (motive := fun _ => TRun) (comp P K ro sz b e H acc) (comp P K ro sz a e H acc) t) (vBool (aEvalT e o))); rw [aEvalT_eq]; cases hb : vBool (aEval (toE e) o) with
    | none => trivial
    | some t =>
      have hv := vBool_some hb; cases t with
      | true =>
        show RTok P ro sz _ e H acc (comp P K ro sz a e H acc); have h := iha e H acc hwf; cases hr : comp P K ro sz a e H acc with
        | bad => trivial
        | nor e1 H1 acc1 => rw [hr] at h; obtain ⟨n, wr, h1, h2⟩ := h; exact ⟨n + 1, wr, by simp only [ev, hv, if_true]; exact h1, h2⟩
        | out x e1 H1 acc1 => rw [hr] at h; obtain ⟨n, wr, h1, h2⟩ := h; exact ⟨n + 1, wr, by simp only [ev, hv, if_true]; exact h1, h2⟩
      | false =>
        show RTok P ro sz _ e H acc (comp P K ro sz b e H acc); have h := ihb e H acc hwf; cases hr : comp P K ro sz b e H acc with
        | bad => trivial
        | nor e1 H1 acc1 => rw [hr] at h; obtain ⟨n, wr, h1, h2⟩ := h; exact ⟨n + 1, wr, by simp only [ev, hv]; exact h1, h2⟩
        | out x e1 H1 acc1 => rw [hr] at h; obtain ⟨n, wr, h1, h2⟩ := h; exact ⟨n + 1, wr, by simp only [ev, hv]; exact h1, h2⟩
  | block id c ih =>
    intro e H acc hwf; show RTok P ro sz (.block id c) e H acc (blockT id (comp P K ro sz c e H acc)); have h := ih e H acc hwf; cases hr : comp P K ro sz c e H acc with
    | bad => trivial
    | nor e1 H1 acc1 => rw [hr] at h; obtain ⟨n, wr, h1, h2⟩ := h; exact ⟨n + 1, wr, by simp only [ev]; rw [h1], h2⟩
    | out x e1 H1 acc1 =>
      rw [hr] at h; obtain ⟨n, wr, h1, h2⟩ := h; cases x with
      | goto l => exact ⟨n + 1, wr, by simp only [ev]; rw [h1]; rfl, h2⟩
      | ret => exact ⟨n + 1, wr, by simp only [ev]; rw [h1]; rfl, h2⟩
      | exit j =>
        show RTok P ro sz (.block id c) e H acc (Bool.rec (motive := fun _ => TRun) (.out (.exit j) e1 H1 acc1) (.nor e1 H1 acc1) (Nat.beq j id)); cases hj : Nat.beq j id with
        | true =>
          have : j = id := Tr.beq_iff.1 hj; exact ⟨n + 1, wr, by simp only [ev]; rw [h1]; simp [toX, this], h2⟩
        | false =>
          have : j ≠ id := fun hc => by rw [Tr.beq_iff.2 hc] at hj; cases hj
          exact ⟨n + 1, wr, by simp only [ev]; rw [h1]; simp [toX, this], h2⟩
  | loop c ih =>
    intro e H acc hwf; show RTok P ro sz (.loop c) e H acc (loopT 1000000 (comp P K ro sz c) e H acc); have key : ∀ (m : Nat) (e : TE) (H : HT) (acc : List Nat), (toW H).wf → RTok P ro sz (.loop c) e H acc (loopT m (comp P K ro sz c) e H acc) := by
      intro m
      induction m with
      | zero => intro e H acc _; trivial
      | succ m ihm =>
        intro e H acc hwf; show RTok P ro sz (.loop c) e H acc (seqT (comp P K ro sz c e H acc) (loopT m (comp P K ro sz c))); have h := ih e H acc hwf; cases hr : comp P K ro sz c e H acc with
        | bad => trivial
        | out x e1 H1 acc1 =>
          rw [hr] at h; obtain ⟨n, wr, h1, h2⟩ := h; refine ⟨n + 1, wr, ?_, h2⟩; simp only [ev]; rw [h1]; cases x <;> rfl
        | nor e1 H1 acc1 =>
          rw [hr] at h; obtain ⟨n, wr, h1, h2⟩ := h; show RTok P ro sz (.loop c) e H acc (loopT m (comp P K ro sz c) e1 H1 acc1); have h' := ihm e1 H1 acc1 (wfOf hwf h1); cases hr2 : loopT m (comp P K ro sz c) e1 H1 acc1 with
          | bad => trivial
          | nor e2 H2 acc2 =>
            rw [hr2] at h'; obtain ⟨n2, wr2, g1, g2⟩ := h'; refine ⟨max n n2 + 1, wr ++ wr2, ?_, by rw [g2, h2]; simp⟩; simp only [ev]; rw [ev_mono (Nat.le_max_left _ _) h1]; simp only; rw [ev_mono (Nat.le_max_right _ _) g1]
          | out x e2 H2 acc2 =>
            rw [hr2] at h'; obtain ⟨n2, wr2, g1, g2⟩ := h'; refine ⟨max n n2 + 1, wr ++ wr2, ?_, by rw [g2, h2]; simp⟩; simp only [ev]; rw [ev_mono (Nat.le_max_left _ _) h1]; simp only; rw [ev_mono (Nat.le_max_right _ _) g1]
    exact key _ e H acc hwf
  | rangeFunc f ps asg body _ _ =>
    intro e H acc hwf; show RTok P ro sz (.rangeFunc f ps asg body) e H acc (rangeT K ro sz f ps.toList asg body e H acc); unfold rangeT; split
    · trivial
    · rename_i hro; rw [aEvalT_eq]; split
      case h_2 => trivial
      rename_i g a b hf; obtain ⟨x, y, hx, hy, hv⟩ := vFn_some hf; have hwf1 : (toW (H.alloc (.loop .ready none sz e ps.toList asg body))).wf := by
        rw [toW_alloc]; intro b hb; have hb' : H.next + 1 ≤ b := hb
        show (if b = (toW H).next then _ else (toW H).get b) = _; rw [if_neg (show ¬ b = (toW H).next by show ¬ b = H.next; omega)]; exact hwf b (show H.next ≤ b by omega)
      have hc := hK.call g (a ++ [.func (.yield H.next) #[] #[]] ++ b) (H.alloc (.loop .ready none sz e ps.toList asg body)) hwf1; split
      case h_2 => trivial
      rename_i v H1 wr hcall; rw [hcall] at hc; obtain ⟨n, hn⟩ := hc; rw [toW_alloc] at hn; split
      case h_2 => trivial
      rename_i st pend sz' env' ps' asg' body' hl; have hl' := toW_get hl; split
      · trivial
      · rename_i hst; have hn' : ev P noO n (.call g (x.toList ++ [Value.func (.yield (toW H).next) #[] #[]] ++ y.toList) none ((toW H).alloc (.loop .ready none sz (toE e) ps.toList asg body))) = some (.call (.returned v) none (toW H1) wr.reverse) := by rw [hx, hy]; exact hn
        have hlb : (toW H1).get (toW H).next = .loop st pend sz' (toE env') ps' asg' body' := hl'
        cases pend with
        | none =>
          refine ⟨n + 1, wr.reverse ++ [H.next], ?_, by simp⟩; simp only [ev]; rw [if_neg hro, hv]; simp only; rw [hn']; simp only [hlb]; rw [if_neg hst, toW_set]; rfl
        | some c =>
          simp only; cases hxx : exitX c with
          | none => trivial
          | some x' =>
            refine ⟨n + 1, wr.reverse ++ [H.next], ?_, by simp⟩; simp only [ev]; rw [if_neg hro, hv]; simp only; rw [hn']; simp only [hlb]; rw [if_neg hst, exitX_ok hxx, toW_set]; rfl
  | exit id => intro e H acc _; exact ⟨1, [], by simp only [ev, toX], by simp⟩
  | scope c ih =>
    intro e H acc hwf; show RTok P ro sz (.scope c) e H acc (scopeT (comp P K ro sz c e H acc)); have h := ih e H acc hwf; cases hr : comp P K ro sz c e H acc with
    | bad => trivial
    | nor e1 H1 acc1 => rw [hr] at h; obtain ⟨n, wr, h1, h2⟩ := h; exact ⟨n + 1, wr, by simp only [ev]; rw [h1], h2⟩
    | out x e1 H1 acc1 =>
      rw [hr] at h; obtain ⟨n, wr, h1, h2⟩ := h; cases x with
      | goto l => trivial
      | ret => exact ⟨n + 1, wr, by simp only [ev]; rw [h1]; rfl, h2⟩
      | exit j => exact ⟨n + 1, wr, by simp only [ev]; rw [h1]; rfl, h2⟩
  | label l => intro e H acc _; exact ⟨1, [], by simp only [ev], by simp⟩
  | goto l => intro e H acc _; exact ⟨1, [], by simp only [ev, toX], by simp⟩
  | ret => intro e H acc _; exact ⟨1, [], by simp only [ev, toX], by simp⟩
  | refuse w => intro e H acc _; trivial
end Go.Abs
namespace Go.Abs
variable {P : Program}
theorem resT_some {e : TE} {H : HT} : ∀ (rs : List ResultVar) (vs : List Value), resT P e H rs = some vs →
    (rs.mapM fun (r : ResultVar) => match r with
      | .tmp t => some (toE e t)
      | .cell a t => match tinfo P t, asPtr (toE e a) with
        | some ti, some a => ((toW H).row a ti.size).bind (mkV ti)
        | _, _ => none) = some vs := by
  intro rs
  induction rs with
  | nil => intro vs h; cases h; rfl
  | cons r rs ih =>
    intro vs h; rw [List.mapM_cons]; change Option.rec (motive := fun _ => Option (List Value)) none (fun v => Option.rec (motive := fun _ => Option (List Value)) none (fun vs => some (v :: vs)) (resT P e H rs)) (resV P e H r) = some vs at h; unfold resV at h; split at h
    · rename_i t; simp only at h; cases hr : resT P e H rs with
      | none => rw [hr] at h; cases h
      | some ws =>
        rw [hr] at h; cases h; rw [ih ws hr]; rfl
    · rename_i a t; split at h
      · rename_i ti b ht hb; split at h
        · rename_i hs; cases hl : loadT H b ti.size ti.agg with
          | none => rw [hl] at h; cases h
          | some v =>
            rw [hl] at h; simp only at h; cases hr : resT P e H rs with
            | none => rw [hr] at h; cases h
            | some ws =>
              rw [hr] at h; cases h; rw [ih ws hr]; simp only [ht, show toE e a = _ from vPtr_some hb, asPtr, loadT_some hs hl ti rfl rfl]; rfl
        · cases h
      · cases h
theorem oneT_eq (vs : List Value) : oneT vs = (match vs with
    | [v] => v
    | vs => .tuple ⟨vs⟩) := by
  cases vs with
  | nil => rfl
  | cons v r => cases r <;> rfl
theorem callT_ok {K : Ctx} (hK : CtxOk P K) (f : FuncId) (args : List Value) (H : HT) (hwf : (toW H).wf) : CTok P (.call f args none (toW H)) (callT P K f args H) := by
  unfold callT; cases hi : finfo P f with
  | none => trivial
  | some i =>
    obtain ⟨nt, body, rs⟩ := i; simp only; unfold finfo at hi; split at hi
    · cases hi
    rename_i fn hfn; split at hi
    · cases hi
    rename_i hname; split at hi
    · cases hi
    rename_i body' hb; cases hi; have h := comp_ok hK (ro := none) (sz := maxT (lenT args) fn.ntmps) body (ofArgs args 0 .nil) H [] hwf; have last : ∀ {x : AExit} {e : TE} {H' : HT} {acc : List Nat} {n : Nat} {wr : List Nat}, (x = .normal ∨ x = .ret) → ev P noO n (.code none (maxT (lenT args) fn.ntmps) body (toE (ofArgs args 0 .nil)) {} (toW H)) = some (.code x (toE e) {} (toW H') wr) → acc = wr.reverse ++ [] →
        CTok P (.call f args none (toW H)) (Option.rec (motive := fun _ => TCall) .bad (fun vs => .ret (oneT vs) H' acc) (resT P e H' fn.results.toList)) := by
      intro x e H' acc n wr hx h1 h2; cases hr : resT P e H' fn.results.toList with
      | none => trivial
      | some vs =>
        have hres : resultsA P fn (toE e) (toW H') = some (oneT vs) := by
          have h0 : resultsA P fn (toE e) (toW H') = (some vs).map (fun vs => match vs with
            | [v] => v
            | vs => .tuple ⟨vs⟩) := congrArg (Option.map _) (resT_some _ _ hr)
          rw [h0, Option.map_some, oneT_eq]
        have hfin : ev P noO 1 (.fin f (toE e) [] none (toW H')) = some (.call (.returned (oneT vs)) none (toW H') []) := by
          simp only [ev, hfn, hres, Option.map_some]
        rw [maxT_eq, lenT_eq, toE_argEnv] at h1; refine ⟨max n 1 + 1, ?_⟩; simp only [ev, hfn, hb]; rw [if_neg (by simpa using hname)]; simp only [noO_run, ite_self]; rw [show ({ defs := [], pan := none } : Aux) = {} from rfl, ev_mono (Nat.le_max_left n 1) h1]; rw [h2, List.append_nil, List.reverse_reverse]; rcases hx with rfl | rfl
        · simp only; rw [ev_mono (Nat.le_max_right n 1) hfin]; simp
        · simp only; rw [ev_mono (Nat.le_max_right n 1) hfin]; simp
    cases hr : comp P K none (maxT (lenT args) fn.ntmps) body (ofArgs args 0 .nil) H [] with
    | bad => trivial
    | nor e H' acc =>
      rw [hr] at h; obtain ⟨n, wr, h1, h2⟩ := h; exact last (.inl rfl) h1 h2
    | out x e H' acc =>
      rw [hr] at h; obtain ⟨n, wr, h1, h2⟩ := h; cases x with
      | exit j => trivial
      | goto l => trivial
      | ret => exact last (.inr rfl) h1 h2
theorem jumpX_of (x : TExit) : jumpOf (toX x) = some (jumpX x) := by cases x <;> rfl
theorem wf_setK {W : AW} {k : Nat} {x : Blk} (h : W.wf) (hk : W.get k ≠ .none) : (W.set k x).wf := by
  intro b hb; show (if b = k then x else W.get b) = .none; rw [if_neg, h b hb]; intro hc; subst hc; exact hk (h b hb)
theorem roundT_ok {K : Ctx} (hK : CtxOk P K) (l : Nat) (args : List Value) (H : HT) (hwf : (toW H).wf) : CTok P (.round l args (toW H)) (roundT P K l args H) := by
  unfold roundT; split
  case h_2 => trivial
  rename_i st pend sz env ps asg body hl; have hl' := toW_get hl; split
  · trivial
  rename_i hlen; have h := comp_ok hK (ro := some l) (sz := sz) asg (setAll env (ps.zip args)) H [] hwf; split
  case h_2 => trivial
  rename_i e1 H1 wr1 hr1; rw [hr1] at h; obtain ⟨n1, w1, h1, h2⟩ := h; rw [List.append_nil] at h2; have hwf1 : (toW H1).wf := (ev_good P noO _ _ _ h1 hwf).1; split
  case h_2 => trivial
  rename_i pend' sz' env' ps' asg' body' hl1; have hl1' := toW_get hl1; have hwf2 : (toW (H1.set l (.loop .busy pend' sz' env' ps' asg' body'))).wf := by
    rw [toW_set]; exact wf_setK hwf1 (by rw [hl1']; simp [toB])
  have h' := comp_ok hK (ro := some l) (sz := sz) body e1 (H1.set l (.loop .busy pend' sz' env' ps' asg' body')) [] hwf2; rw [toE_setAll] at h1; have fin : ∀ {x : AExit} {e2 : TE} {H2 : HT} {wr2 w2 : List Nat} {n2 : Nat} {j : Option Code}, (∀ v, x ≠ .panic v) → jumpOf x = j → ev P noO n2 (.code (some l) sz body (toE e1) {} (toW (H1.set l (.loop .busy pend' sz' env' ps' asg' body')))) = some (.code x (toE e2) {} (toW H2) w2) → wr2 = w2.reverse →
      CTok P (.round l args (toW H)) (endT l wr1 j H2 wr2) := by
    intro x e2 H2 wr2 w2 n2 j hx hj hev hw; unfold endT; split
    case h_2 => trivial
    rename_i st2 pend2 sz2 env2 ps2 asg2 body2 hl2; have hl2' := toW_get hl2; refine ⟨max n1 n2 + 1, ?_⟩; rw [toW_set] at hev; simp only [ev, hl', toB]; rw [if_neg hlen, ev_mono (Nat.le_max_left n1 n2) h1]; simp only [hl1', toB]; rw [show Blk.loop .busy pend' sz' (toE env') ps' asg' body' = toB (.loop .busy pend' sz' env' ps' asg' body') from rfl, ev_mono (Nat.le_max_right n1 n2) hev]; simp only [List.isEmpty_nil, if_true]; subst hj; subst hw; have tail : (match (toW H2).get l with
        | .loop _ _ sz2 env2 ps2 asg2 body2 => some (Res.call (.returned (.bool (jumpOf x).isNone)) none ((toW H2).set l (.loop (if (jumpOf x).isNone then .ready else .done) (jumpOf x) sz2 env2 ps2 asg2 body2)) (w1 ++ l :: (w2 ++ [l])))
        | _ => none) = some (Res.call (.returned (.bool (jumpOf x).isNone)) none (toW (H2.set l (.loop (if (jumpOf x).isNone then .ready else .done) (jumpOf x) sz2 env2 ps2 asg2 body2))) (l :: (w2.reverse ++ l :: wr1)).reverse) := by
      rw [hl2']; simp only [toB, toW_set]; rw [h2]; simp
    cases x with
    | panic v => exact (hx v rfl).elim
    | normal => exact tail
    | exit id => exact tail
    | goto g => exact tail
    | ret => exact tail
  split
  · rename_i e2 H2 wr2 hr2; rw [hr2] at h'; obtain ⟨n2, w2, g1, g2⟩ := h'; rw [List.append_nil] at g2; exact fin (fun v hv => by cases hv) rfl g1 g2
  · rename_i x e2 H2 wr2 hr2; rw [hr2] at h'; obtain ⟨n2, w2, g1, g2⟩ := h'; rw [List.append_nil] at g2; exact fin (fun v hv => by cases x <;> cases hv) (jumpX_of x) g1 g2
  · trivial
theorem ctx_ok (P : Program) : ∀ d, CtxOk P (ctx P d)
  | 0 => ⟨fun _ _ _ _ => trivial, fun _ _ _ _ => trivial⟩
  | d + 1 => ⟨callT_ok (ctx_ok P d), roundT_ok (ctx_ok P d)⟩
noncomputable def sayT (c : TCall) : Bool := TCall.rec (motive := fun _ => Bool) false (fun v _ _ => Option.rec (motive := fun _ => Bool) false (fun b => b) (vBool v)) c
theorem RK_kernel {d : Nat} {f : FuncId} (h : sayT (callT P (ctx P d) f [] ⟨0, .nil⟩) = true) : RK P noO f [] ⟨0, fun _ => .none⟩ (fun _ => False) (fun v _ => v = .bool true) := by
  have hW : toW ⟨0, .nil⟩ = ⟨0, fun _ => .none⟩ := by
    simp only [toW, AW.mk.injEq, true_and]; funext b; rw [Tr.get_nil]
  have hc := callT_ok (ctx_ok P d) f [] ⟨0, .nil⟩ (by rw [hW]; intro b _; rfl); cases hr : callT P (ctx P d) f [] ⟨0, .nil⟩ with
  | bad => rw [hr] at h; cases h
  | ret v H wr =>
    rw [hr] at h hc; obtain ⟨n, hn⟩ := hc; rw [hW] at hn; refine ⟨n, v, toW H, wr.reverse, hn, fun b _ hb => absurd hb (Nat.not_lt_zero b), ?_⟩; cases hv : vBool v with
    | none => simp only [sayT, hv] at h; cases h
    | some b =>
      simp only [sayT, hv] at h; cases h; exact vBool_some hv
end Go.Abs
namespace Go.Abs
variable {P : Program}
noncomputable def orcA (P : Program) (fA : FuncId) : Orc := orcM P (fun f => f == fA) 0 (fun _ => .none)
theorem orcA_none {fA f : FuncId} {args : List Value} {W : AW} (h : (f == fA) = false) : (orcA P fA).run f args W = none := orcM_none (F := fun f => f == fA) h
theorem RK_awake {fA : FuncId} {fn : Func} {body : Code} (hfn : P.funcs[fA]? = some fn) (hname : (fn.name == "runtime.NumGoroutine") = false) (hb : fn.body = some body)
    (h : RK P noO fA [] ⟨0, fun _ => .none⟩ (fun _ => False) (fun v _ => v = .bool true)) (B : Orc) (W : AW) : RK P (orU (orcA P fA) B) fA [] W (fun _ => False) (fun v _ => v = .bool true) := by
  obtain ⟨v, V, h1, _, _, _, h2⟩ := orc_run (F := fun f => f == fA) (K := 0) (G := fun _ => .none) (by simp) (fun _ _ => rfl) (fun b hb => absurd hb (Nat.not_lt_zero b)) (fun v hv => by simp at hv) h (fun b hb => absurd hb (Nat.not_lt_zero b)) (fun v W' hv => by rw [hv]; rfl); subst h1; have hr := (h2 W (Nat.zero_le _) (fun b hb => absurd hb (Nat.not_lt_zero b))).1 rfl; obtain ⟨n, v, W', wr, g1, g2, g3⟩ := RK_ans (O := orU (orcA P fA) B) hfn hname hb (orU_left hr); exact ⟨n, v, W', wr, g1, g2, g3.1⟩
end Go.Abs
