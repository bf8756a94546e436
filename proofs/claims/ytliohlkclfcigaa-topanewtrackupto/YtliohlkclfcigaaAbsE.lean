/- A part of the proof that TopAnewTrack returns true at every input of bulk at most 1048576: each operation, met by the machine. -/
import Derived.Test.YtliohlkclfcigaaAbsDc
set_option linter.unusedVariables false
set_option linter.unusedSimpArgs false
namespace Go.Abs
open Go.RowKit (Below)
variable {P : Program} {φ : Phi} {base : Nat} {H : Nat → Blk} {W : AW} {w : World}
theorem row_sim (hr : Rel φ base H w) {b o o' n : Nat} {p : PB} (hp : φ b = some p) (hH : H b = W.get b) (ho : n ≠ 0 → o' = p.off + o) {vs : List Value} (h : W.row ⟨b, o, none⟩ n = some vs) :
    ∃ vs', LR φ vs vs' ∧ vs.length = n ∧ OneC vs ∧ (loadCells ⟨p.blk, o', none⟩ n).run P w = .ok vs'.toArray w := by
  by_cases h0 : n = 0
  · subst h0; have : vs = [] := by
      unfold AW.row at h; split at h
      · split at h <;> cases h; rfl
      · cases h
    subst this; exact ⟨[], .nil, rfl, fun v hv => by simp at hv, rfl⟩
  · rw [ho h0]; obtain ⟨vs', g1, g2, g3, g4, _⟩ := run_row (P := P) hr hp hH h; exact ⟨vs', g1, g2, g3, g4⟩
theorem sim_copy (hr : Rel φ base H w) {t : TypeId} {d d' s s' : Value} {ts : Array TypeId} {rt : TypeId} {r : OpR} (h0 : ts[0]? = some t) (hd : VR φ d d') (hs : VR φ s s') (h : copyA P t d s W = some r)
    (hH : ∀ b p, φ b = some p → b ∈ r.rd ∨ b ∈ r.wr → H b = W.get b) : OpSim P φ base H W w (do pure (.value (← Builtin.copy_ ts rt #[d', s']))) r := by
  unfold copyA at h; split at h
  case h_2 => cases h
  rename_i sz ag el z nb ht; split at h
  case h_2 => cases h
  rename_i te bs n c sb m c2 hte; have hE := tinfo_facts hte; have hmin : Nat.min m n = min m n := rfl; split at h
  · rename_i hz; cases h; have hempty : ∀ a : Option Addr, ∃ cells : Array Value, (Builtin.firstCells te.size (min m n) (.slice a m c2)).run P w = .ok cells w ∧ cells = #[] := by
      intro a; cases a with
      | none => exact ⟨#[], rfl, rfl⟩
      | some a => exact ⟨#[], by simp [Builtin.firstCells, loadCells, hz, loadCellsFrom], rfl⟩
    have fin : ∀ (a1 a2 : Option Addr) (c1 c3 : Nat), (Builtin.copy_ ts rt #[.slice a1 n c1, .slice a2 m c3]).run P w = .ok (.int .i64 (min m n : Nat)) w := by
      intro a1 a2 c1 c3; have hl : (Builtin.firstCells te.size (min m n) (.slice a2 m c3)).run P w = .ok #[] w := by
        cases a2 with
        | none => rfl
        | some a => simp [Builtin.firstCells, loadCells, hz, loadCellsFrom]
      cases a1 <;> simp [Builtin.copy_, h0, tinfo_slice ht, Builtin.lenOf, hE.size, hmin, hl, storeCells] <;> rfl
    refine OpSim.valrd hr (v' := .int .i64 (min m n : Nat)) ?_ (.int _ _); cases hd <;> cases hs <;> simp only [Sem.run_bind, fin, Result.andThen_ok, Sem.run_pure]
  · rename_i hz; split at h
    case h_2 => cases h
    rename_i a b; split at h
    case h_2 => cases h
    rename_i vs hrow; split at h
    case h_2 => cases h
    rename_i W' hput; cases h; cases hd with
    | slice b1 o1 _ _ o1' c1' p1 hp1 hn1 hc1 ho1 hx1 hg1 =>
      cases hs with
      | slice b2 o2 _ _ o2' c2' p2 hp2 hn2 hc2 ho2 hx2 hg2 =>
        have hnz : min m n ≠ 0 := by rintro h; rw [h] at hz; simp at hz
        have e1 := ho1 (.inl (by omega)); subst e1; have e2 := ho2 (.inl (by omega)); subst e2; obtain ⟨vs', g1, g2, g3, g4⟩ := row_sim (P := P) hr hp2 (hH b2 p2 hp2 (.inl (by simp))) (fun _ => rfl) hrow; obtain ⟨w', q1, q2⟩ := run_put (P := P) hr hp1 (hH b1 p1 hp1 (.inl (by simp))) g1 g3 hput; refine OpSim.mk (φ' := φ) (w' := w') (nx := .value (.int .i64 (min m n : Nat))) ?_ (.int _ _) q2; simp [Builtin.copy_, h0, tinfo_slice ht, Builtin.lenOf, hE.size, hmin, Builtin.firstCells, g4, q1]; rfl
theorem sim_clear (hr : Rel φ base H w) {t : TypeId} {x x' : Value} {ts : Array TypeId} {rt : TypeId} {r : OpR} (h0 : ts[0]? = some t) (hx : VR φ x x') (h : clearA P t x W = some r)
    (hH : ∀ b p, φ b = some p → b ∈ r.rd ∨ b ∈ r.wr → H b = W.get b) : OpSim P φ base H W w (do pure (.value (← Builtin.clear_ ts rt #[x']))) r := by
  unfold clearA at h; split at h
  case h_2 => cases h
  rename_i sz ag el z nb ht; split at h
  case h_2 => cases h
  rename_i te bs n c hte; have hE := tinfo_facts hte; split at h
  case isTrue => cases h
  rename_i hz; split at h
  case h_2 => cases h
  rename_i a; split at h
  case h_2 => cases h
  rename_i W' hput; cases h; cases hx with
  | slice b1 o1 _ _ o1' c1' p1 hp1 hn1 hc1 ho1 hx1 hg1 =>
    have hnz : n ≠ 0 := by rintro rfl; simp at hz
    have e1 := ho1 (.inl hnz); subst e1; have hzz : LR φ (cellsOf te.zero) te.zero.cells.toList := (VR.closed hE.closed).cells; have hlr : LR φ (repCells n (cellsOf te.zero)) (Builtin.zeroCells te.zero.cells n).toList := by
      rw [zeroCells_toList]; exact hzz.flatten_replicate n
    obtain ⟨w', q1, q2⟩ := run_put (P := P) hr hp1 (hH b1 p1 hp1 (.inl (by simp))) hlr (OneC.flatten_replicate (closed_cells_one hE.closed) n) hput; refine OpSim.mk (φ' := φ) (w' := w') (nx := .value (.tuple #[])) ?_ (VR.mkTuple .nil) q2; cases n with
    | zero => exact absurd rfl hnz
    | succ n => simp [Builtin.clear_, h0, tinfo_slice ht, hE.zero, q1]
theorem sim_typeAssert (hr : Rel φ base H w) {t st : TypeId} {x x' : Value} {ok : Bool} {ti : TI} (ht : tinfo P t = some ti) (hk : ti.kind ≠ .iface) (hx : VR φ x x') :
    (∀ u v, x = .iface u v → u = t → OpSim P φ base H W w (do pure (.value (← Instr.typeAssert x' st t ok))) (okV W (if ok then .tuple ⟨[v, .bool true]⟩ else v))) ∧
    (∀ u v, x = .iface u v → u ≠ t → ok = true → OpSim P φ base H W w (do pure (.value (← Instr.typeAssert x' st t ok))) (okV W (.tuple ⟨[ti.zero, .bool false]⟩))) ∧
    (x = .nilIface → ok = true → OpSim P φ base H W w (do pure (.value (← Instr.typeAssert x' st t ok))) (okV W (.tuple ⟨[ti.zero, .bool false]⟩))) := by
  have hT := tinfo_facts ht; obtain ⟨d, hd, _, hrun⟩ := hT.und; have hni : ∀ ms, d ≠ .interface ms := fun ms h => hk (by rw [← hd, h]; rfl); refine ⟨fun u v hxx hu => ?_, fun u v hxx hu hok => ?_, fun hxx hok => ?_⟩
  · subst hxx; subst hu; cases hx with
    | iface _ _ v' hv =>
      refine OpSim.val hr (v' := if ok then .tuple #[v', .bool true] else v') ?_ ?_
      · cases d <;> first | exact absurd rfl (hni _) | simp [Instr.typeAssert, hrun]
      · cases ok
        · exact hv
        · exact VR.mkTuple (.cons hv (.cons (.bool _) .nil))
  · subst hxx; subst hok; cases hx with
    | iface _ _ v' hv =>
      refine OpSim.val hr (v' := .tuple #[ti.zero, .bool false]) ?_ (VR.mkTuple (.cons (VR.closed hT.closed) (.cons (.bool _) .nil))); cases d <;> first | exact absurd rfl (hni _) | simp [Instr.typeAssert, hrun, hu, hT.zero]
  · subst hxx; subst hok; cases hx; refine OpSim.val hr (v' := .tuple #[ti.zero, .bool false]) ?_ (VR.mkTuple (.cons (VR.closed hT.closed) (.cons (.bool _) .nil))); cases d <;> first | exact absurd rfl (hni _) | simp [Instr.typeAssert, hrun, hT.zero]
theorem LR.parts {e : Env} {a : Act} (hT : TR φ e a.tmps) (ps : Array (Nat × Operand)) (hok : (ps.toList.map (·.2)).all operandOk = true) :
    (ps.toList.map fun p => (p.1, aEval e p.2)).map (·.1) = ((ps.map fun (x : Nat × Operand) => (x.1, a.eval x.2)).toList).map (·.1) ∧
      LR φ ((ps.toList.map fun p => (p.1, aEval e p.2)).map (·.2)) (((ps.map fun (x : Nat × Operand) => (x.1, a.eval x.2)).toList).map (·.2)) := by
  refine ⟨by simp, ?_⟩; have := LR.map_eval hT (ps.toList.map (·.2)) hok
  simpa [List.map_map, Function.comp_def] using this
theorem optVR {e : Env} {a : Act} (hT : TR φ e a.tmps) (x : Option Operand) (hok : x.all operandOk = true) : OptVR φ (x.map (aEval e)) (x.map a.eval) := by
  cases x with
  | none => trivial
  | some x => exact hT.eval hok
end Go.Abs
namespace Go.Abs
open Go.RowKit (Below)
variable {P : Program} {φ : Phi} {base : Nat} {H : Nat → Blk} {W : AW} {w : World}
theorem allOf {l : List Operand} (h : l.all operandOk = true) {x : Operand} (hx : x ∈ l) : operandOk x = true := (List.all_eq_true.1 h) x hx
theorem isLit_const {y : Operand} (h : isLit y = true) : ∃ c, y = .const c := by
  cases y <;> first | exact ⟨_, rfl⟩ | cases h
theorem args_list (c : Array Operand) (ρ : Operand → Value) : (c.map ρ).toList = c.toList.map ρ := by simp
theorem OpSim.congr {s s' : Sem Next} {r : OpR} (h : s'.run P w = s.run P w) (hs : OpSim P φ base H W w s r) : OpSim P φ base H W w s' r := by
  unfold OpSim at hs ⊢; rw [h]; exact hs
theorem aop_sim {ro roC : Option Nat} {env : Env} {a : Act} {o : Oper} {r : OpR} (hr : Rel φ base H w) (hT : TR φ env a.tmps) (hok : operOk o = true) (h : aop P ro env o W = some r)
    (hH : ∀ b p, φ b = some p → b ∈ r.rd ∨ b ∈ r.wr → H b = W.get b) (hf : ∀ b, W.next ≤ b → b < r.W.next → φ b = none) (hro : ro = none → roC = none)
    (hcall : ∀ g as, r.x = .enter g as → ∃ fn body, P.funcs[g]? = some fn ∧ fn.body = some body ∧ (fn.name == "runtime.NumGoroutine") = false) :
    OpSim P φ base H W w (o.semAt roC a.eval) r := by
  obtain ⟨dst, op, ty, pos, after, guard⟩ := o; have hok' : op.operands.toList.all operandOk = true := by
    have := hok; unfold operOk at this; rw [Array.all_eq_true'] at this; exact List.all_eq_true.2 fun x hx => this x (by simpa using hx)
  have sem : (∀ c, op ≠ .defer c) → (Oper.mk dst op ty pos after guard).semAt roC a.eval = execOp a.eval ⟨dst, op, ty, pos, after, guard⟩ := fun hd => Oper.semAt_eq _ _ _ hd; have ev : ∀ x, x ∈ op.operands.toList → VR φ (aEval env x) (a.eval x) := fun x hx => hT.eval (allOf hok' hx); cases op with
  | move x =>
    rw [sem (by simp)]; simp only [aop, Option.some.injEq] at h; subst h; exact OpSim.val hr rfl (ev x (by simp [Op.operands]))
  | assign x =>
    rw [sem (by simp)]; simp only [aop, Option.some.injEq] at h; subst h; exact OpSim.val hr rfl (ev x (by simp [Op.operands]))
  | pick c x y =>
    rw [sem (by simp)]; simp only [aop, Option.map_eq_some_iff] at h; obtain ⟨t, ht, rfl⟩ := h; have hc := ev c (by simp [Op.operands]); have e1 : aEval env c = .bool t := by
      revert ht; cases aEval env c <;> simp [asBool']
    rw [e1] at hc; have e2 : a.eval c = .bool t := by generalize a.eval c = q at hc; cases hc; rfl
    refine OpSim.val hr (v' := if t then a.eval x else a.eval y) (by simp [execOp, e2, asBool]) ?_; cases t
    · exact ev y (by simp [Op.operands])
    · exact ev x (by simp [Op.operands])
  | alloc t =>
    rw [sem (by simp)]; simp only [aop, Option.map_eq_some_iff] at h; obtain ⟨ti, ht, rfl⟩ := h; exact sim_alloc hr (hf _ (Nat.le_refl _) (by simp [AW.alloc])) ht
  | box t x =>
    rw [sem (by simp)]; simp only [aop] at h; split at h
    case isTrue => cases h
    rename_i hn; cases h; have hv := ev x (by simp [Op.operands]); exact sim_box hr (hf _ (Nat.le_refl _) (by simp [AW.alloc])) hv (hv.cells_one (noTup_ne (by simpa using hn)))
  | build t ps =>
    rw [sem (by simp)]; simp only [aop] at h; split at h
    case h_2 => cases h
    rename_i ti pl ht hpl; split at h
    case isTrue => cases h
    rename_i hn; simp only [Option.map_eq_some_iff] at h; obtain ⟨cs, hc, rfl⟩ := h; obtain ⟨h1, h2⟩ := LR.parts hT ps (by simpa [Op.operands] using hok'); refine sim_build hr ht hpl h1 h2 (fun x hx => ?_) hc; simp only [List.mem_map] at hx; obtain ⟨q, hq, rfl⟩ := hx; have hn' : ps.toList.all (fun p => noTup (aEval env p.2)) = true := by simpa using hn
    exact (hT.eval (allOf (by simpa [Op.operands] using hok') (List.mem_map.2 ⟨q, hq, rfl⟩))).cells_one (noTup_ne ((List.all_eq_true.1 hn') q hq))
  | buildSlice t n ps =>
    rw [sem (by simp)]; simp only [aop] at h; split at h
    case h_2 => cases h
    rename_i s ag el z nb ht; split at h
    case h_2 => cases h
    rename_i te hte; split at h
    case isFalse => cases h
    rename_i hn; simp only [Option.map_eq_some_iff] at h; obtain ⟨cs, hc, rfl⟩ := h; obtain ⟨h1, h2⟩ := LR.parts hT ps (by simpa [Op.operands] using hok'); refine sim_buildSlice hr (hf _ (Nat.le_refl _) (by simp [AW.alloc])) ht rfl hte hn.1 h1 h2 (fun x hx => ?_) hc; simp only [List.mem_map] at hx; obtain ⟨q, hq, rfl⟩ := hx; exact (hT.eval (allOf (by simpa [Op.operands] using hok') (List.mem_map.2 ⟨q, hq, rfl⟩))).cells_one (noTup_ne ((List.all_eq_true.1 hn.2) q hq))
  | insert t m k v =>
    rw [sem (by simp)]; simp only [aop] at h; exact sim_mapUpdate hr (ev m (by simp [Op.operands])) (ev k (by simp [Op.operands])) (ev v (by simp [Op.operands])) h hH
  | load t x =>
    rw [sem (by simp)]; simp only [aop] at h; split at h
    case h_2 => cases h
    rename_i ti ad ht hp; simp only [Option.bind_eq_some_iff, Option.map_eq_some_iff] at h; obtain ⟨vs, hrow, v, hv, rfl⟩ := h; have hx := ev x (by simp [Op.operands]); generalize aEval env x = xv at hx hp; cases xv <;> simp [asPtr] at hp; rename_i oa; cases oa <;> simp at hp; subst hp; exact sim_load hr ht hx (fun b p hb hbl => hH b p hb (.inl (by simp [hbl]))) hrow hv _
  | store t x y =>
    rw [sem (by simp)]; simp only [aop] at h; split at h
    case h_2 => cases h
    rename_i ti ad ht hp; split at h
    case isFalse => cases h
    rename_i hc; simp only [Option.map_eq_some_iff] at h; obtain ⟨W', hput, rfl⟩ := h; have hx := ev x (by simp [Op.operands]); generalize aEval env x = xv at hx hp; cases xv <;> simp [asPtr] at hp; rename_i oa; cases oa <;> simp at hp; subst hp; have hy := ev y (by simp [Op.operands]); exact sim_store hr ht hx hy (hy.cells_one (noTup_ne hc.2)) (fun b p hb hbl => hH b p hb (.inl (by simp [hbl]))) hc.1 hput _
  | ready g => simp [aop] at h
  | waits g => simp [aop] at h
  | nilCheck x =>
    rw [sem (by simp)]; have hx := ev x (by simp [Op.operands]); simp only [aop] at h; generalize hxa : a.eval x = xa at hx; split at h
    · rename_i ad he; rw [he] at hx; cases h; cases hx with
      | ptr b o p hp => exact OpSim.val hr (by simp [execOp, hxa]) (.ptr b o p hp)
    · rename_i f x1 y1 he; rw [he] at hx; cases h; have hx2 := hx; cases hx with
      | fn => exact OpSim.val hr (by simp [execOp, hxa]) hx2
    · rename_i a1 n c he; rw [he] at hx; cases h; have hx2 := hx; cases hx with
      | nilSlice => exact OpSim.val hr (by simp [execOp, hxa]) hx2
      | slice => exact OpSim.val hr (by simp [execOp, hxa]) hx2
    · rename_i m he; rw [he] at hx; cases h; have hx2 := hx; cases hx with
      | nilMap => exact OpSim.val hr (by simp [execOp, hxa]) hx2
      | map => exact OpSim.val hr (by simp [execOp, hxa]) hx2
    · cases h
  | binOp op t x y yt =>
    rw [sem (by simp)]; simp only [aop, Option.map_eq_some_iff] at h; obtain ⟨v, hv, rfl⟩ := h; exact OpSim.congr (by simp [execOp]) (sim_binOp hr (xo := x) (yo := y) isLit_const (ev x (by simp [Op.operands])) (ev y (by simp [Op.operands])) hv)
  | unOp op t x =>
    rw [sem (by simp)]; simp only [aop, Option.map_eq_some_iff] at h; obtain ⟨v, hv, rfl⟩ := h; exact sim_unOp hr (ev x (by simp [Op.operands])) hv
  | convert s d x =>
    rw [sem (by simp)]; have hx := ev x (by simp [Op.operands]); simp only [aop] at h; split at h
    case h_2 => cases h
    rename_i ts td hs hd; obtain ⟨c1, c2, c3, c4, c5⟩ := sim_convert (P := P) hr hx hs hd; split at h
    · rename_i k k' n hk he; cases h; exact c1 k k' n hk he
    · rename_i v hk he; split at h
      case h_2 => cases h
      cases h; exact c2 v hk he
    · rename_i el v hk he; split at h
      case h_2 => cases h
      rename_i z nb hel; cases h; exact c3 el v 1 z nb hk he hel (hf _ (Nat.le_refl _) (by simp [AW.alloc]))
    · rename_i an n cap hk he; split at h
      case h_2 => cases h
      rename_i el hks; split at h
      case h_2 => cases h
      rename_i s1 a1 z1 n1 hel; split at h
      · cases h; exact c4 el n cap _ hk hks he hel rfl
      · rename_i ad; simp only [Option.bind_eq_some_iff, Option.map_eq_some_iff] at h; obtain ⟨vs, hrow, bs, hbs, rfl⟩ := h; exact c5 el ad n cap _ vs bs hk hks he hel rfl hrow hbs (fun b p hb hbl => hH b p hb (.inl (by simp [hbl])))
    · cases h
  | sliceToArrayPointer d x => simp [aop] at h
  | makeInterface t x =>
    rw [sem (by simp)]; simp only [aop] at h; split at h
    case h_2 => cases h
    rename_i ti ht; obtain ⟨d, hd, _, hrun⟩ := (tinfo_facts ht).und; split at h
    case h_1 => cases h
    rename_i hk; cases h; refine OpSim.val hr (v' := .iface t (a.eval x)) ?_ (.iface t _ _ (ev x (by simp [Op.operands]))); have hni : ∀ ms, d ≠ .interface ms := fun ms h => hk (by rw [← hd, h]; rfl); cases d <;> first | exact absurd rfl (hni _) | simp [execOp, Instr.makeInterface, hrun]
  | makeFunc fn first captured =>
    rw [sem (by simp)]; simp only [aop] at h; split at h
    case h_2 => cases h
    rename_i f; cases h; have h1 := LR.map_eval hT first.toList (by simp [Op.operands] at hok'; simpa using hok'.1)
    have h2 := LR.map_eval hT captured.toList (by simp [Op.operands] at hok'; simpa using hok'.2); refine OpSim.val hr (v' := .func (.func f) (first.map a.eval) (captured.map a.eval)) (by simp [execOp, Instr.makeFunc]) ?_; obtain ⟨s1, e1⟩ := LR.arr_get (x := ⟨first.toList.map (aEval env)⟩) (x' := first.map a.eval) (by rw [args_list]; exact h1); obtain ⟨s2, e2⟩ := LR.arr_get (x := ⟨captured.toList.map (aEval env)⟩) (x' := captured.map a.eval) (by rw [args_list]; exact h2); exact .fn f _ _ _ _ s1 s2 e1 e2
  | makeMap t rr =>
    rw [sem (by simp)]; simp only [aop] at h; split at h
    case h_2 => cases h
    rename_i s ag k e z nb ht; split at h
    case isFalse => cases h
    rename_i hc; cases h; refine sim_makeMap hr (hf _ (Nat.le_refl _) (by simp [AW.alloc])) ht (r := rr.map (aEval env)) (r' := rr.map a.eval) ?_; cases rr with
    | none => trivial
    | some x =>
      have hx := ev x (by simp [Op.operands]); refine ⟨hx, ?_⟩; simp only [Option.all_some] at hc; have e1 : ∃ k n, aEval env x = .int k n := by
        revert hc; cases aEval env x <;> simp [asInt']
      obtain ⟨k, n, e1⟩ := e1; rw [e1] at hx; have e2 : a.eval x = .int k n := by generalize a.eval x = q at hx; cases hx; rfl
      exact hc
  | makeChan t s => simp [aop] at h
  | makeSlice t l c =>
    rw [sem (by simp)]; have hl := ev l (by simp [Op.operands]); have hc := ev c (by simp [Op.operands]); simp only [aop] at h; split at h
    case h_2 => cases h
    rename_i s ag el z nb n m ht hle hce; split at h
    case h_2 => cases h
    rename_i te hte; split at h
    case isFalse => cases h
    rename_i hb; cases h; rw [hle] at hl; rw [hce] at hc; have e1 : a.eval l = .int .i64 n := by generalize a.eval l = q at hl; cases hl; rfl
    have e2 : a.eval c = .int .i64 m := by generalize a.eval c = q at hc; cases hc; rfl
    have := sim_makeSlice (P := P) hr (hf _ (Nat.le_refl _) (by simp [AW.alloc])) ht hte hb.1 hb.2.1 hb.2.2.1 hb.2.2.2
    simpa only [execOp, e1, e2] using this
  | slice t x lo hi mx =>
    rw [sem (by simp)]; simp only [aop, Option.map_eq_some_iff] at h; obtain ⟨q, hq, rfl⟩ := h; simp only [Op.operands] at hok'; have o1 : lo.all operandOk = true := by cases lo <;> simp_all
    have o2 : hi.all operandOk = true := by cases hi <;> simp_all
    have o3 : mx.all operandOk = true := by cases mx <;> simp_all
    exact sim_slice hr (ev x (by simp [Op.operands])) (optVR hT lo o1) (optVR hT hi o2) (optVR hT mx o3) hq (fun b p hb hbl => hH b p hb (.inl hbl))
  | fieldAddr s x f =>
    rw [sem (by simp)]; simp only [aop] at h; split at h
    case h_2 => cases h
    rename_i off ft ad hfo hp; cases h; have hx := ev x (by simp [Op.operands]); generalize aEval env x = xv at hx hp; cases xv <;> simp [asPtr] at hp; rename_i oa; cases oa <;> simp at hp; subst hp; exact sim_fieldAddr hr hfo hx
  | field s x f =>
    rw [sem (by simp)]; simp only [aop] at h; split at h
    case h_2 => cases h
    rename_i off ft cs hfo hp; simp only [Option.map_eq_some_iff] at h; obtain ⟨v, hv, rfl⟩ := h; have hx := ev x (by simp [Op.operands]); generalize aEval env x = xv at hx hp; cases xv <;> simp [asAgg'] at hp; subst hp; exact sim_field hr hfo hx hv
  | indexAddr t x ix =>
    rw [sem (by simp)]; simp only [aop, Option.map_eq_some_iff] at h; obtain ⟨v, hv, rfl⟩ := h; exact sim_indexAddr hr (ev x (by simp [Op.operands])) (ev ix (by simp [Op.operands])) hv
  | index t x ix =>
    rw [sem (by simp)]; simp only [aop, Option.map_eq_some_iff] at h; obtain ⟨v, hv, rfl⟩ := h; exact sim_index hr (ev x (by simp [Op.operands])) (ev ix (by simp [Op.operands])) hv
  | lookup t m k ok =>
    rw [sem (by simp)]; simp only [aop] at h; exact sim_lookup hr (ev m (by simp [Op.operands])) (ev k (by simp [Op.operands])) h hH
  | mapUpdate t m k v =>
    rw [sem (by simp)]; simp only [aop] at h; exact sim_mapUpdate hr (ev m (by simp [Op.operands])) (ev k (by simp [Op.operands])) (ev v (by simp [Op.operands])) h hH
  | mapEntry t m k =>
    rw [sem (by simp)]; simp only [aop] at h; exact sim_mapEntry hr (ev m (by simp [Op.operands])) (ev k (by simp [Op.operands])) h hH
  | entryStore t m s v =>
    rw [sem (by simp)]; simp only [aop] at h; exact sim_entryStore (t := t) hr (ev m (by simp [Op.operands])) (ev s (by simp [Op.operands])) (ev v (by simp [Op.operands])) h hH
  | range t x => simp [aop] at h
  | next i s => simp [aop] at h
  | entry i => simp [aop] at h
  | typeAssert x st t ok =>
    rw [sem (by simp)]; have hx := ev x (by simp [Op.operands]); simp only [aop] at h; split at h
    · rename_i ti u v ht he; split at h
      case h_1 => cases h
      rename_i hk; obtain ⟨c1, c2, c3⟩ := sim_typeAssert (P := P) (st := st) (ok := ok) hr ht hk hx; split at h
      · rename_i hu; cases h; exact c1 u v he hu
      · rename_i hu; split at h
        case isFalse => cases h
        rename_i hok2; cases h; exact c2 u v he hu hok2
    · rename_i ti ht he; split at h
      case h_1 => cases h
      rename_i hk; obtain ⟨c1, c2, c3⟩ := sim_typeAssert (P := P) (st := st) (ok := ok) hr ht hk hx; split at h
      case isFalse => cases h
      rename_i hok2; cases h; exact c3 he hok2
    · cases h
  | extract x i =>
    rw [sem (by simp)]; simp only [aop, Option.bind_eq_some_iff, Option.map_eq_some_iff] at h; obtain ⟨vs, hvs, v, hv, rfl⟩ := h; exact sim_extract hr (ev x (by simp [Op.operands])) hvs hv
  | go c => simp [aop] at h
  | send c x => simp [aop] at h
  | recv t c ok => simp [aop] at h
  | select cs b => simp [aop] at h
  | panic x =>
    rw [sem (by simp)]; have hx := ev x (by simp [Op.operands]); simp only [aop] at h; split at h
    case h_2 => cases h
    rename_i t v he; cases h; rw [he] at hx; generalize hxa : a.eval x = xa at hx; cases hx with
    | iface _ _ v' hv => exact ⟨.iface t v', by simp [execOp, hxa, Instr.panic], .iface t _ _ hv, rfl, rfl⟩
  | defer c =>
    simp only [aop] at h; split at h
    case h_2 => cases h
    rename_i f hc; split at h
    case h_2 => cases h
    rename_i g first cap hfe
    cases h; obtain rfl := hro rfl; have hargs : c.args.toList.all operandOk = true := by
      rw [List.all_eq_true]; intro x hx; exact allOf hok' (by simp [Op.operands, Call.operands, hc]; exact .inr (by simpa using hx))
    have hfv := ev f (by simp [Op.operands, Call.operands, hc]); rw [hfe] at hfv; obtain ⟨x', y', e1, l1, l2⟩ := hfv.fn_inv; refine OpSim.mk (φ' := φ) (w' := w) (nx := .defer ⟨.fn (.func g) y', x' ++ c.args.map a.eval⟩) ?_ ⟨_, y', rfl, ?_⟩ (Out.same hr)
    · simp [Oper.semAt, execOp, resolve, hc, e1, Deferred.ofValue]
    · have := (l1.append (LR.map_eval hT c.args.toList hargs)).append l2
      simpa using this
  | call c =>
    rw [sem (by simp)]; have hargs : c.args.toList.all operandOk = true := by
      rw [List.all_eq_true]; intro x hx; exact allOf hok' (by simp [Op.operands, Call.operands]; exact .inr (by simpa using hx))
    have hla := LR.map_eval hT c.args.toList hargs; obtain ⟨callee, args, ats⟩ := c; simp only [aop] at h; cases callee with
    | value f =>
      simp only at h; have hfv := ev f (by simp [Op.operands, Call.operands]); have := sim_call (P := P) hr hfv (args' := args.map a.eval) (by simpa using hla) h hH hcall
      simpa only [execOp, resolve] using this
    | invoke rv m => cases h
    | builtin b =>
      simp only at h hla; have hbi : ∀ (b : Builtin), (execOp a.eval ⟨dst, .call ⟨.builtin b, args, ats⟩, ty, pos, after, guard⟩).run P w = (builtin b ats ty (args.map fun | .const _ => true | _ => false) (args.map a.eval)).run P w := by
        intro b; simp [execOp, resolve, invoke]; rfl
      have conv : ∀ (b : Builtin) (s : Sem Value), (∀ cs, builtin b ats ty cs (args.map a.eval) = do pure (.value (← s))) → OpSim P φ base H W w (do pure (.value (← s))) r → OpSim P φ base H W w (execOp a.eval ⟨dst, .call ⟨.builtin b, args, ats⟩, ty, pos, after, guard⟩) r := by
        intro b s hs hsim; unfold OpSim at hsim ⊢; rw [hbi b, hs]; exact hsim
      generalize hAL : args.toList.map (aEval env) = al at h hla; have hal2 : (args.map a.eval).toList = args.toList.map a.eval := by simp
      split at h
      · rename_i s x; simp only [Option.bind_eq_some_iff] at h; obtain ⟨t, ht, u, hu, tu, htu, h⟩ := h; split at h
        case h_1 => cases h
        rename_i hnk; generalize hq : args.toList.map a.eval = q at hla; cases hla with
        | cons hs hla => cases hla with
          | cons hx hla => cases hla with
            | nil =>
              rename_i s' x'; have hargs2 : args.map a.eval = #[s', x'] := by apply Array.ext'; rw [hal2, hq]
              refine conv .append _ (fun cs => by rfl) ?_
              rw [hargs2]; exact sim_append hr htu (fun k hk => hnk k hk) ht hu hs hx h hH hf
      · rename_i x; simp only [Option.bind_eq_some_iff, Option.map_eq_some_iff] at h; obtain ⟨t, ht, rr, hrr, rfl⟩ := h; generalize hq : args.toList.map a.eval = q at hla; cases hla with
        | cons hx hla => cases hla with
          | nil =>
            rename_i x'; have hargs2 : args.map a.eval = #[x'] := by apply Array.ext'; rw [hal2, hq]
            refine conv .len _ (fun cs => by rfl) ?_
            rw [hargs2]; exact sim_len hr ht hx hrr (fun b p hb hbl => hH b p hb (.inl hbl))
      · rename_i x l; simp only [Option.map_eq_some_iff] at h; obtain ⟨v, hv, rfl⟩ := h; refine conv .max _ (fun cs => by rfl) ?_
        exact sim_max hr (by rw [hal2]; exact hla) hv
      · rename_i x l; simp only [Option.map_eq_some_iff] at h; obtain ⟨v, hv, rfl⟩ := h; refine conv .min _ (fun cs => by rfl) ?_
        exact sim_min hr (by rw [hal2]; exact hla) hv
      · split at h
        case h_2 => cases h
        cases h; refine OpSim.mk (φ' := φ) (w' := w) (nx := .recover) ?_ trivial (Out.same hr); rw [hbi]; rfl
      · rename_i d s; simp only [Option.bind_eq_some_iff] at h; obtain ⟨t, ht, h⟩ := h; generalize hq : args.toList.map a.eval = q at hla; cases hla with
        | cons hs hla => cases hla with
          | cons hx hla => cases hla with
            | nil =>
              rename_i s' x'; have hargs2 : args.map a.eval = #[s', x'] := by apply Array.ext'; rw [hal2, hq]
              refine conv .copy _ (fun cs => by rfl) ?_
              rw [hargs2]; exact sim_copy hr ht hs hx h hH
      · rename_i x; simp only [Option.bind_eq_some_iff] at h; obtain ⟨t, ht, h⟩ := h; generalize hq : args.toList.map a.eval = q at hla; cases hla with
        | cons hx hla => cases hla with
          | nil =>
            rename_i x'; have hargs2 : args.map a.eval = #[x'] := by apply Array.ext'; rw [hal2, hq]
            refine conv .clear _ (fun cs => by rfl) ?_
            rw [hargs2]; exact sim_clear hr ht hx h hH
      · cases h
end Go.Abs
