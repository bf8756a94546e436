/- A part of the proof that TopAnewTrack returns true at every input of bulk at most 1048576: rules for runs. -/
import Derived.Test.YtliohlkclfcigaaAbsF
set_option linter.unusedVariables false
set_option linter.unusedSimpArgs false
namespace Go.Abs
variable {P : Program} {O : Orc}
theorem ev_monoN : ∀ (n : Nat) (t : Task) (r : Res), ev P O n t = some r → ∀ m, n ≤ m → ev P O m t = some r := by
  intro n
  induction n with
  | zero => intro t r h; simp [ev] at h
  | succ n ih0 =>
    intro t r h m hm; cases m with
    | zero => omega
    | succ m =>
    have ih : ∀ t r, ev P O n t = some r → ev P O m t = some r := fun t r h => ih0 t r h m (by omega); cases t with
    | code ro sz c env X W =>
      simp only [ev] at h ⊢; cases c with
      | skip => exact h
      | label l => exact h
      | ret => exact h
      | exit id => exact h
      | goto l => exact h
      | refuse w => exact h
      | seq a b =>
        simp only at h ⊢; split at h
        · rename_i h1; rw [ih _ _ h1]; simp only; split at h
          case h_2 => cases h
          rename_i h2; rw [ih _ _ h2]; exact h
        · rename_i hne h1; rw [ih _ _ h1]; simp only; exact h
        · cases h
      | cond c x y =>
        simp only at h ⊢; split at h
        case h_2 => cases h
        exact ih _ _ h
      | block id c =>
        simp only at h ⊢; split at h
        · rename_i h1; rw [ih _ _ h1]; exact h
        · rename_i hne h1; rw [ih _ _ h1]; simp only; exact h
        · cases h
      | scope c =>
        simp only at h ⊢; split at h
        · cases h
        · rename_i hne h1; rw [ih _ _ h1]; simp only; exact h
        · cases h
      | loop c =>
        simp only at h ⊢; split at h
        · rename_i h1; rw [ih _ _ h1]; simp only; split at h
          case h_2 => cases h
          rename_i h2; rw [ih _ _ h2]; exact h
        · rename_i hne h1; rw [ih _ _ h1]; simp only; exact h
        · cases h
      | region id ops draw =>
        simp only at h ⊢; split at h
        · cases h
        rename_i hdr; rw [if_neg hdr]; split at h
        case h_2 => cases h
        rename_i h1; rw [ih _ _ h1]; exact h
      | rangeFunc f ps asg body =>
        simp only at h ⊢; split at h
        · cases h
        rename_i hrok; rw [if_neg hrok]; split at h
        case h_2 => cases h
        rename_i hf; split at h
        · rename_i h1; rw [ih _ _ h1]; exact h
        · rename_i h1; rw [ih _ _ h1]; exact h
        · cases h
    | ops ro sz all rest env X W =>
      simp only [ev] at h ⊢; cases rest with
      | nil => exact h
      | cons o rest =>
        simp only at h ⊢; have cont : ∀ {v : Value} {X : Aux} {W : AW} {fp : FPr} {r : Res},
            (match putE sz o.dst env v with
              | none => none
              | some env => match ev P O n (.ops ro sz all rest env X W) with
                | some (.ops p env X W fps) => some (Res.ops p env X W (fp :: fps))
                | _ => none) = some r →
            (match putE sz o.dst env v with
              | none => none
              | some env => match ev P O m (.ops ro sz all rest env X W) with
                | some (.ops p env X W fps) => some (Res.ops p env X W (fp :: fps))
                | _ => none) = some r := by
          intro v X W fp r hm; split at hm
          case h_1 => cases hm
          rename_i env1 hp; split at hm
          case h_2 => cases hm
          rename_i h1; rw [ih _ _ h1]; exact hm
        by_cases hw : wantedA all env o = true
        case neg => rw [if_neg hw] at h ⊢; exact cont h
        rw [if_pos hw] at h ⊢; split at h
        case h_1 => cases h
        rename_i rr hr; split at h
        · rename_i v hx; exact cont h
        · rename_i hx; exact cont h
        · rename_i f args hx; exact cont h
        · rename_i hx; split at h
          · exact cont h
          · exact cont h
        · rename_i v hx; exact h
        · rename_i f args hx; split at h
          · rename_i v W1 wr he; rw [ih _ _ he]; exact cont h
          · rename_i v W1 wr he; rw [ih _ _ he]; exact h
          · cases h
        · rename_i l args hx; split at h
          · rename_i v W1 wr he; rw [ih _ _ he]; exact cont h
          · rename_i v W1 wr he; rw [ih _ _ he]; exact h
          · cases h
    | call f args pan W =>
      simp only [ev] at h ⊢; split at h
      case h_1 => cases h
      rename_i fn hfn; split at h
      case isTrue => cases h
      rename_i hn; rw [if_neg hn]; split at h
      case h_1 => cases h
      rename_i body hb; split at h
      case h_1 => exact h
      split at h
      case h_2 => cases h
      rename_i h1; rw [ih _ _ h1]; simp only; split at h
      · split at h
        case h_2 => cases h
        rename_i h2; simp only [ih _ _ h2]; exact h
      · split at h
        case h_2 => cases h
        rename_i h2; simp only [ih _ _ h2]; exact h
      · split at h
        case h_2 => cases h
        rename_i h2; simp only [ih _ _ h2]; exact h
      · cases h
    | fin f env defs mode W =>
      simp only [ev] at h ⊢; split at h
      · exact h
      · split at h
        case h_2 => cases h
        rename_i h1; simp only [ih _ _ h1]; split at h
        case h_2 => cases h
        rename_i h2; simp only [ih _ _ h2]; exact h
    | round l args W =>
      simp only [ev] at h ⊢; split at h
      case h_2 => cases h
      rename_i hg; split at h
      · cases h
      rename_i hlen; rw [if_neg hlen]; split at h
      case h_2 => cases h
      rename_i h1; rw [ih _ _ h1]; simp only; split at h
      case h_2 => cases h
      rename_i hg1; split at h
      case h_2 => cases h
      rename_i h2; simp only [ih _ _ h2]; exact h
theorem ev_mono {n m : Nat} (hm : n ≤ m) {t : Task} {r : Res} (h : ev P O n t = some r) : ev P O m t = some r := ev_monoN n t r h m hm
end Go.Abs
namespace Go.Abs
variable {P : Program} {O : Orc}
def RC (P : Program) (O : Orc) (K : Nat) (M : Nat → Prop) (ro : Option Nat) (sz : Nat) (c : Code) (env : Env) (X : Aux) (W : AW) (Q : AExit → Env → Aux → AW → Prop) : Prop :=
  ∃ n e env' X' W' wr, ev P O n (.code ro sz c env X W) = some (.code e env' X' W' wr) ∧ (∀ b ∈ wr, b < K → M b) ∧ Q e env' X' W'
def RK (P : Program) (O : Orc) (f : FuncId) (args : List Value) (W : AW) (M : Nat → Prop) (Q : Value → AW → Prop) : Prop :=
  ∃ n v W' wr, ev P O n (.call f args none W) = some (.call (.returned v) none W' wr) ∧ (∀ b ∈ wr, b < W.next → M b) ∧ Q v W'
structure Aft (M : Nat → Prop) (W W' : AW) : Prop where
  wf : W'.wf
  next : W.next ≤ W'.next
  same : ∀ b, b < W.next → ¬ M b → W'.get b = W.get b
theorem Aft.refl {M : Nat → Prop} {W : AW} (h : W.wf) : Aft M W W := ⟨h, Nat.le_refl _, fun _ _ _ => rfl⟩
theorem aft_of {M : Nat → Prop} {t : Task} {r : Res} {n : Nat} (h : ev P O n t = some r) (hwf : t.W.wf) (hm : ∀ b ∈ r.wr, b < t.W.next → M b) : Aft M t.W r.W := by
  have g := ev_good P O n t r h hwf; exact ⟨g.1, g.2.next, fun b hb hn => g.2.same b hb fun hc => hn (hm b hc hb)⟩
theorem RK.mono {f : FuncId} {args : List Value} {W : AW} {M M' : Nat → Prop} {Q Q' : Value → AW → Prop} (hwf : W.wf) (h : RK P O f args W M Q) (hM : ∀ b, b < W.next → M b → M' b) (hQ : ∀ v W', Aft M W W' → Q v W' → Q' v W') : RK P O f args W M' Q' := by
  obtain ⟨n, v, W', wr, h1, h2, h3⟩ := h; exact ⟨n, v, W', wr, h1, fun b hb hlt => hM b hlt (h2 b hb hlt), hQ v W' (aft_of (M := M) h1 hwf h2) h3⟩
theorem RC.mono {K : Nat} {M : Nat → Prop} {ro : Option Nat} {sz : Nat} {c : Code} {env : Env} {X : Aux} {W : AW} {Q Q' : AExit → Env → Aux → AW → Prop} (h : RC P O K M ro sz c env X W Q) (hQ : ∀ e env X W, Q e env X W → Q' e env X W) : RC P O K M ro sz c env X W Q' := by
  obtain ⟨n, e, env', X', W', wr, h1, h2, h3⟩ := h; exact ⟨n, e, env', X', W', wr, h1, h2, hQ _ _ _ _ h3⟩
def resL (P : Program) (env : Env) (W : AW) : List ResultVar → Option (List Value)
  | [] => some []
  | .tmp t :: r => match resL P env W r with
    | some vs => some (env t :: vs)
    | none => none
  | .cell a t :: r => match tinfo P t with
    | none => none
    | some ti => match asPtr (env a) with
      | none => none
      | some ad => match W.row ad ti.size with
        | none => none
        | some row => match mkV ti row with
          | none => none
          | some v => match resL P env W r with
            | some vs => some (v :: vs)
            | none => none
def oneV : List Value → Value
  | [v] => v
  | vs => .tuple ⟨vs⟩
theorem resL_mapM (P : Program) (env : Env) (W : AW) : ∀ (l : List ResultVar) (vs : List Value), resL P env W l = some vs → (l.mapM fun (r : ResultVar) => match r with
    | .tmp t => some (env t)
    | .cell a t => match tinfo P t, asPtr (env a) with
      | some ti, some a => (W.row a ti.size).bind (mkV ti)
      | _, _ => none) = some vs
  | [], vs, h => by simp only [resL] at h; cases h; rfl
  | .tmp t :: r, vs, h => by
    simp only [resL] at h; split at h
    case h_2 => cases h
    rename_i vs' h1; cases h; simp [resL_mapM P env W r vs' h1]
  | .cell a t :: r, vs, h => by
    simp only [resL] at h; split at h
    case h_1 => cases h
    rename_i ti hti; split at h
    case h_1 => cases h
    rename_i ad had; split at h
    case h_1 => cases h
    rename_i row hrow; split at h
    case h_1 => cases h
    rename_i v hv; split at h
    case h_2 => cases h
    rename_i vs' h1; cases h; simp [resL_mapM P env W r vs' h1, hti, had, hrow, hv]
def endQ (P : Program) (rs : List ResultVar) (Q : Value → AW → Prop) (e : AExit) (env : Env) (X : Aux) (W : AW) : Prop :=
  (match e with
    | .normal | .ret => True
    | _ => False) ∧ X.defs = [] ∧ X.pan = none ∧ match resL P env W rs with
    | some vs => Q (oneV vs) W
    | none => False
theorem RK_intro {f : FuncId} {fn : Func} {body : Code} {nt : Nat} {rs : List ResultVar} {args : List Value} {W : AW} {M : Nat → Prop} {Q : Value → AW → Prop} (hf : P.funcs[f]? = some fn) (hn : (fn.name == "runtime.NumGoroutine") = false) (hb : fn.body = some body) (hnt : fn.ntmps = nt) (hrs : fn.results.toList = rs) (hO : O.run f args W = none)
    (h : RC P O W.next M none (max args.length nt) body (argEnv args) {} W (endQ P rs Q)) : RK P O f args W M Q := by
  subst hnt; obtain ⟨n, e, env1, X1, W1, wr1, h1, h2, h3, h4, h5, h6⟩ := h; split at h6
  case h_2 => exact h6.elim
  rename_i vs hvs; have hv : resultsA P fn env1 W1 = some (oneV vs) := by
    unfold resultsA; rw [hrs]; refine (congrArg (Option.map _) (resL_mapM P env1 W1 rs vs hvs)).trans ?_; cases vs with
    | nil => rfl
    | cons a r => cases r <;> rfl
  generalize oneV vs = v at hv h6; have hfin : ev P O (n + 1) (.fin f env1 X1.defs none W1) = some (.call (.returned v) none W1 []) := by
    rw [h4]; simp only [ev, hf, hv, Option.map_some]
  have h1' := ev_mono (Nat.le_succ n) h1; rw [Nat.succ_eq_add_one] at h1'; generalize n + 1 = m at hfin h1'; refine ⟨m + 1, v, W1, wr1 ++ [], ?_, by simpa using h2, h6⟩; simp only [ev, hf, hn, hb, Bool.false_eq_true, if_false, Option.isNone_none, if_true, hO]; have e0 : ({ defs := [], pan := none } : Aux) = {} := rfl; rw [e0, h1']; cases e with
  | normal => simp only; rw [hfin]; simp [h5]
  | ret => simp only; rw [hfin]; simp [h5]
  | exit id => exact h3.elim
  | goto l => exact h3.elim
  | panic v => exact h3.elim
end Go.Abs
namespace Go.Abs
variable {P : Program} {O : Orc}
def ApartP (a b : FPr) : Prop := a.wr = [] ∨ ∃ rd, b.rd = some rd ∧ ∀ x ∈ a.wr, x ∉ b.wr ∧ ¬ (b.lo ≤ x ∧ x < b.hi) ∧ x ∉ rd
theorem apartWB_of {a b : FPr} (h : ApartP a b) : apartWB a b = true := by
  unfold apartWB; rw [Bool.or_eq_true]; rcases h with h | ⟨rd, h1, h2⟩
  · left; rw [h]; rfl
  · right; rw [Bool.and_eq_true, List.all_eq_true, h1]; refine ⟨fun x hx => ?_, ?_⟩
    · obtain ⟨g1, g2, _⟩ := h2 x hx; simp only [Bool.and_eq_true, Bool.not_eq_true', List.contains_eq_mem, decide_eq_false_iff_not, Bool.and_eq_false_iff]; refine ⟨g1, ?_⟩; by_cases hc : b.lo ≤ x
      · right; exact fun hd => g2 ⟨hc, hd⟩
      · left; exact hc
    · rw [List.all_eq_true]; intro x hx; simp only [Bool.not_eq_true', List.contains_eq_mem, decide_eq_false_iff_not]; exact (h2 x hx).2.2
def silent (o : Oper) : Bool :=
  match o.op with
  | .move _ | .assign _ | .pick .. | .build .. | .nilCheck _ | .binOp .. | .unOp .. | .makeInterface .. | .makeFunc .. | .fieldAddr .. | .field .. | .indexAddr .. | .index .. | .extract .. | .typeAssert .. => true
  | .call ⟨.builtin .max, _, _⟩ | .call ⟨.builtin .min, _, _⟩ => true
  | _ => false
def writeless (o : Oper) : Bool :=
  silent o || match o.op with
  | .load .. | .alloc _ | .box .. | .buildSlice .. | .makeMap .. | .makeSlice .. | .slice .. => true
  | .call ⟨.builtin .len, _, _⟩ => true
  | _ => false
def unord (ops : Array Oper) : List (Nat × Nat) :=
  let bf := Region.before ops
  (List.range ops.size).flatMap fun j => ((List.range j).filter fun i => !ordered bf i j && !silent (ops.getD i default) && !silent (ops.getD j default) && !(writeless (ops.getD i default) && writeless (ops.getD j default))).map fun i => (i, j)
def Quiet (f : FPr) : Prop := f.rd = some [] ∧ f.wr = [] ∧ f.lo = f.hi
theorem Quiet.apart {a b : FPr} (h : Quiet a) : apartWB a b = true ∧ apartWB b a = true := by
  obtain ⟨h1, h2, h3⟩ := h; refine ⟨apartWB_of (.inl h2), apartWB_of (.inr ⟨[], h1, fun x _ => ⟨by simp [h2], by omega, by simp⟩⟩)⟩
theorem silent_quiet {ro : Option Nat} {e : Env} {o : Oper} {W : AW} {r : OpR} (hs : silent o = true) (h : aop P ro e o W = some r) : r.rd = [] ∧ r.wr = [] ∧ r.W = W ∧ ((∃ v, r.x = .value v)) := by
  obtain ⟨dst, op, ty, pos, after, guard⟩ := o; have ok : ∀ v, r = okV W v → r.rd = [] ∧ r.wr = [] ∧ r.W = W ∧ ((∃ v, r.x = .value v)) := by
    intro v hv; subst hv; exact ⟨rfl, rfl, rfl, v, rfl⟩
  cases op <;> simp only [silent] at hs <;> try (cases hs; done)
  all_goals simp only [aop] at h
  case move x => cases h; exact ok _ rfl
  case assign x => cases h; exact ok _ rfl
  case pick c a b => simp only [Option.map_eq_some_iff] at h; obtain ⟨t, _, rfl⟩ := h; exact ok _ rfl
  case build t ps =>
    split at h
    · split at h
      · cases h
      · simp only [Option.map_eq_some_iff] at h; obtain ⟨t, _, rfl⟩ := h; exact ok _ rfl
    · cases h
  case nilCheck x => split at h <;> first | (cases h; exact ok _ rfl) | cases h
  case binOp => simp only [Option.map_eq_some_iff] at h; obtain ⟨t, _, rfl⟩ := h; exact ok _ rfl
  case unOp => simp only [Option.map_eq_some_iff] at h; obtain ⟨t, _, rfl⟩ := h; exact ok _ rfl
  case makeInterface t x =>
    split at h
    · split at h
      · cases h
      · cases h; exact ok _ rfl
    · cases h
  case makeFunc => split at h <;> first | (cases h; exact ok _ rfl) | cases h
  case fieldAddr => split at h <;> first | (cases h; exact ok _ rfl) | cases h
  case field =>
    split at h
    · simp only [Option.map_eq_some_iff] at h; obtain ⟨t, _, rfl⟩ := h; exact ok _ rfl
    · cases h
  case indexAddr => simp only [Option.map_eq_some_iff] at h; obtain ⟨t, _, rfl⟩ := h; exact ok _ rfl
  case index => simp only [Option.map_eq_some_iff] at h; obtain ⟨t, _, rfl⟩ := h; exact ok _ rfl
  case extract => simp only [Option.bind_eq_some_iff, Option.map_eq_some_iff] at h; obtain ⟨_, _, t, _, rfl⟩ := h; exact ok _ rfl
  case typeAssert =>
    split at h
    · split at h
      · cases h
      · split at h
        · cases h; exact ok _ rfl
        · split at h
          · cases h; exact ok _ rfl
          · cases h
    · split at h
      · cases h
      · split at h
        · cases h; exact ok _ rfl
        · cases h
    · cases h
  case call c =>
    obtain ⟨callee, args, ats⟩ := c; cases callee with
    | value f => simp at hs
    | invoke r m => simp at hs
    | builtin b =>
      cases b <;> simp at hs <;> simp only at h
      all_goals
        split at h <;> first | (simp only [Option.map_eq_some_iff] at h; obtain ⟨t, _, rfl⟩ := h; exact ok _ rfl) | (cases h; done) | (simp_all; done)
theorem writeless_wr {ro : Option Nat} {e : Env} {o : Oper} {W : AW} {r : OpR} (hs : writeless o = true) (h : aop P ro e o W = some r) : r.wr = [] ∧ ((∃ v, r.x = .value v)) := by
  unfold writeless at hs; rw [Bool.or_eq_true] at hs; rcases hs with hs | hs
  · obtain ⟨_, h2, _, h4⟩ := silent_quiet hs h; exact ⟨h2, h4⟩
  obtain ⟨dst, op, ty, pos, after, guard⟩ := o; cases op <;> simp only at hs <;> try (cases hs; done)
  all_goals simp only [aop] at h
  case load => split at h <;> first | (simp only [Option.bind_eq_some_iff, Option.map_eq_some_iff] at h; obtain ⟨_, _, v, _, rfl⟩ := h; exact ⟨rfl, v, rfl⟩) | cases h
  case alloc => simp only [Option.map_eq_some_iff] at h; obtain ⟨t, _, rfl⟩ := h; exact ⟨rfl, _, rfl⟩
  case box => split at h <;> first | (cases h; exact ⟨rfl, _, rfl⟩) | cases h
  case buildSlice =>
    split at h
    · split at h
      · split at h
        · simp only [Option.map_eq_some_iff] at h; obtain ⟨t, _, rfl⟩ := h; exact ⟨rfl, _, rfl⟩
        · cases h
      · cases h
    · cases h
  case makeMap =>
    split at h
    · split at h
      · cases h; exact ⟨rfl, _, rfl⟩
      · cases h
    · cases h
  case makeSlice =>
    split at h
    · split at h
      · split at h
        · cases h; exact ⟨rfl, _, rfl⟩
        · cases h
      · cases h
    · cases h
  case slice => simp only [Option.map_eq_some_iff] at h; obtain ⟨t, _, rfl⟩ := h; exact ⟨rfl, _, rfl⟩
  case call c =>
    obtain ⟨callee, args, ats⟩ := c; cases callee with
    | value f => simp at hs
    | invoke r m => simp at hs
    | builtin b =>
      cases b <;> simp at hs <;> simp only at h
      all_goals
        split at h <;> first | (simp only [Option.bind_eq_some_iff, Option.map_eq_some_iff] at h; obtain ⟨_, _, t, _, rfl⟩ := h; exact ⟨rfl, _, rfl⟩) | (cases h; done) | (simp_all; done)
def ROd (P : Program) (O : Orc) (K : Nat) (M : Nat → Prop) (ro : Option Nat) (sz : Nat) (all : Array Oper) (rest : List Oper) (env : Env) (X : Aux) (W : AW) (acc : List FPr) (Q : Env → Aux → AW → List FPr → Prop) : Prop :=
  ∃ n env' X' W' fps, ev P O n (.ops ro sz all rest env X W) = some (.ops none env' X' W' fps) ∧ (∀ b ∈ wrs fps, b < K → M b) ∧ Q env' X' W' (acc ++ fps) ∧ fps.length = rest.length ∧ ∀ (i : Nat) (o : Oper) (fp : FPr), rest[i]? = some o → fps[i]? = some fp → (silent o = true → Quiet fp) ∧ (writeless o = true → fp.wr = [])
def pairsOk (fps : List FPr) : List (Nat × Nat) → Prop
  | [] => True
  | (i, j) :: r => (match fps[i]?, fps[j]? with
    | some a, some b => ApartP a b ∧ ApartP b a
    | _, _ => False) ∧ pairsOk fps r
theorem pairsOk_mem {fps : List FPr} {l : List (Nat × Nat)} (h : pairsOk fps l) {i j : Nat} (hm : (i, j) ∈ l) {a b : FPr} (ha : fps[i]? = some a) (hb : fps[j]? = some b) : ApartP a b ∧ ApartP b a := by
  induction l with
  | nil => simp at hm
  | cons p r ih =>
    rcases List.mem_cons.1 hm with rfl | hm
    · have := h.1; rw [ha, hb] at this; exact this
    · exact ih h.2 hm
section shut
variable {K : Nat} {M : Nat → Prop} {ro : Option Nat} {sz id : Nat} {ops : Array Oper} {env : Env} {X : Aux} {W : AW} {Q : AExit → Env → Aux → AW → Prop} {a b c : Code}
def thenQ (P : Program) (O : Orc) (K : Nat) (M : Nat → Prop) (ro : Option Nat) (sz : Nat) (b : Code) (Q : AExit → Env → Aux → AW → Prop) : AExit → Env → Aux → AW → Prop
  | .normal, env, X, W => RC P O K M ro sz b env X W Q
  | e, env, X, W => Q e env X W
theorem RC_seqG (h : RC P O K M ro sz a env X W (thenQ P O K M ro sz b Q)) : RC P O K M ro sz (.seq a b) env X W Q := by
  obtain ⟨n, e, env1, X1, W1, wr1, h1, h2, h3⟩ := h; have other : e ≠ .normal → Q e env1 X1 W1 → RC P O K M ro sz (.seq a b) env X W Q := by
    intro hne hq; refine ⟨n + 1, e, env1, X1, W1, wr1, ?_, h2, hq⟩; simp only [ev]; rw [h1]; cases e <;> first | rfl | exact absurd rfl hne
  cases e with
  | normal =>
    obtain ⟨m, e2, env2, X2, W2, wr2, g1, g2, g3⟩ := h3; refine ⟨max n m + 1, e2, env2, X2, W2, wr1 ++ wr2, ?_, fun b hb hlt => (List.mem_append.1 hb).elim (fun hb => h2 b hb hlt) (fun hb => g2 b hb hlt), g3⟩; simp only [ev]; rw [ev_mono (Nat.le_max_left _ _) h1]; simp only; rw [ev_mono (Nat.le_max_right _ _) g1]
  | exit id => exact other (by simp) h3
  | goto l => exact other (by simp) h3
  | ret => exact other (by simp) h3
  | panic v => exact other (by simp) h3
def blockQ (id : Nat) (Q : AExit → Env → Aux → AW → Prop) : AExit → Env → Aux → AW → Prop
  | .exit id', env, X, W => if id' = id then Q .normal env X W else Q (.exit id') env X W
  | e, env, X, W => Q e env X W
theorem RC_blockG (h : RC P O K M ro sz c env X W (blockQ id Q)) : RC P O K M ro sz (.block id c) env X W Q := by
  obtain ⟨n, e, env1, X1, W1, wr1, h1, h2, h3⟩ := h; cases e with
  | exit id' =>
    refine ⟨n + 1, if id' = id then .normal else .exit id', env1, X1, W1, wr1, by simp only [ev]; rw [h1], h2, ?_⟩; simp only [blockQ] at h3; by_cases hid : id' = id
    · rw [if_pos hid] at h3 ⊢; exact h3
    · rw [if_neg hid] at h3 ⊢; exact h3
  | normal => exact ⟨n + 1, _, env1, X1, W1, wr1, by simp only [ev]; rw [h1], h2, h3⟩
  | goto l => exact ⟨n + 1, _, env1, X1, W1, wr1, by simp only [ev]; rw [h1], h2, h3⟩
  | ret => exact ⟨n + 1, _, env1, X1, W1, wr1, by simp only [ev]; rw [h1], h2, h3⟩
  | panic v => exact ⟨n + 1, _, env1, X1, W1, wr1, by simp only [ev]; rw [h1], h2, h3⟩
theorem RC_condG {o : Operand} {t : Bool} (ho : aEval env o = .bool t) (ha : t = true → RC P O K M ro sz a env X W Q) (hb : t = false → RC P O K M ro sz b env X W Q) : RC P O K M ro sz (.cond o a b) env X W Q := by
  cases t with
  | true =>
    obtain ⟨n, e, env1, X1, W1, wr1, h1, h2, h3⟩ := ha rfl; exact ⟨n + 1, e, env1, X1, W1, wr1, by simp only [ev, ho]; exact h1, h2, h3⟩
  | false =>
    obtain ⟨n, e, env1, X1, W1, wr1, h1, h2, h3⟩ := hb rfl; exact ⟨n + 1, e, env1, X1, W1, wr1, by simp only [ev, ho]; exact h1, h2, h3⟩
theorem RC_skipG (h : Q .normal env X W) : RC P O K M ro sz .skip env X W Q := ⟨1, _, _, _, _, [], by simp only [ev], by simp, h⟩
theorem RC_retG (h : Q .ret env X W) : RC P O K M ro sz .ret env X W Q := ⟨1, _, _, _, _, [], by simp only [ev], by simp, h⟩
theorem RC_exitG (h : Q (.exit id) env X W) : RC P O K M ro sz (.exit id) env X W Q := ⟨1, _, _, _, _, [], by simp only [ev], by simp, h⟩
def turnQ (I : Nat → Env → Aux → AW → Prop) (m : Nat) (Q : AExit → Env → Aux → AW → Prop) : AExit → Env → Aux → AW → Prop
  | .normal, env, X, W => ∃ m', m' < m ∧ I m' env X W
  | e, env, X, W => Q e env X W
theorem RC_loopG (I : Nat → Env → Aux → AW → Prop) (hturn : ∀ m env X W, I m env X W → RC P O K M ro sz c env X W (turnQ I m Q)) (m : Nat) (h0 : I m env X W) : RC P O K M ro sz (.loop c) env X W Q := by
  induction m using Nat.strongRecOn generalizing env X W with
  | _ m ih =>
    obtain ⟨n, e, env1, X1, W1, wr1, h1, h2, h3⟩ := hturn m env X W h0; have other : e ≠ .normal → Q e env1 X1 W1 → RC P O K M ro sz (.loop c) env X W Q := by
      intro hne hq; refine ⟨n + 1, e, env1, X1, W1, wr1, ?_, h2, hq⟩; simp only [ev]; rw [h1]; cases e <;> first | rfl | exact absurd rfl hne
    cases e with
    | normal =>
      obtain ⟨m', hm, hI⟩ := h3; obtain ⟨k, e2, env2, X2, W2, wr2, g1, g2, g3⟩ := ih m' hm hI; refine ⟨max n k + 1, e2, env2, X2, W2, wr1 ++ wr2, ?_, fun b hb hlt => (List.mem_append.1 hb).elim (fun hb => h2 b hb hlt) (fun hb => g2 b hb hlt), g3⟩; simp only [ev]; rw [ev_mono (Nat.le_max_left _ _) h1]; simp only; rw [ev_mono (Nat.le_max_right _ _) g1]
    | exit id => exact other (by simp) h3
    | goto l => exact other (by simp) h3
    | ret => exact other (by simp) h3
    | panic v => exact other (by simp) h3
end shut
end Go.Abs
namespace Go.Abs
variable {P : Program} {O : Orc}
def noO : Orc := ⟨fun _ _ _ => none, fun _ _ _ _ _ h => by cases h⟩
@[simp] theorem noO_run (f : FuncId) (args : List Value) (W : AW) : noO.run f args W = none := rfl
attribute [simp] wantedA yieldedA aop aEval upd argEnv okV binV unV arithI putE endQ resL oneV asBool' asInt' asPtr asTuple asAgg' asSlice isLit foldA max2A min2A noTup cellsOf mkV fillL splice indexAddrA indexA sliceA idx? lenA partV callA pairsOk ApartP
@[simp] theorem alloc_next (W : AW) (x : Blk) : (W.alloc x).next = W.next + 1 := rfl
@[simp] theorem set_next (W : AW) (k : Nat) (x : Blk) : (W.set k x).next = W.next := rfl
@[simp] theorem alloc_get (W : AW) (x : Blk) (b : Nat) : (W.alloc x).get b = if b = W.next then x else W.get b := rfl
@[simp] theorem set_get (W : AW) (k : Nat) (x : Blk) (b : Nat) : (W.set k x).get b = if b = k then x else W.get b := rfl
attribute [simp] AW.row AW.put
theorem wf_allocW {W : AW} (h : W.wf) (x : Blk) : (W.alloc x).wf := (wf_alloc h x).1
theorem wf_setW {W : AW} (h : W.wf) {k : Nat} (hk : k < W.next) (x : Blk) : (W.set k x).wf := (wf_set h hk x).1
theorem wrap_i64 {n : Int} (h1 : -9223372036854775808 ≤ n) (h2 : n < 9223372036854775808) : IntKind.i64.wrap n = n := by
  have e : (2 : Int) ^ 64 = 18446744073709551616 := by decide
  have e2 : (2 : Int) ^ 63 = 9223372036854775808 := by decide
  simp only [IntKind.wrap, IntKind.bits, IntKind.signed, e, Bool.true_and, e2, show 64 - 1 = 63 from rfl]; by_cases h : 0 ≤ n
  · have : n % 18446744073709551616 = n := Int.emod_eq_of_lt h (by omega); rw [this, if_neg (by simp; omega)]
  · have : n % 18446744073709551616 = n + 18446744073709551616 := by omega
    rw [this, if_pos (by simp; omega)]; omega
attribute [simp] thenQ blockQ turnQ
end Go.Abs
