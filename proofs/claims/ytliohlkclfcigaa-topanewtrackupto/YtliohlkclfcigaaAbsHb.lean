/- A part of the proof that TopAnewTrack returns true at every input of bulk at most 1048576: codes and calls, met by the machine. -/
import Derived.Test.YtliohlkclfcigaaAbsHa
set_option linter.unusedVariables false
set_option linter.unusedSimpArgs false
namespace Go.Abs
open Go.RowKit (Below)
variable {P : Program} {O : Orc} {φ φ' : Phi} {base lb : Nat} {H : Nat → Blk} {W W' : AW} {w w' : World}
theorem run_loadVar (hr : Rel φ base H w) {t : TypeId} {ti : TI} (ht : tinfo P t = some ti) {x' : Value} {a : Addr} (hx : VR φ (.pointer (some a)) x')
    (hH : ∀ b p, φ b = some p → b = a.block → H b = W.get b) {vs : List Value} {v : Value} (hrow : W.row a ti.size = some vs) (hv : mkV ti vs = some v) :
    ∃ v', (do loadVar t (← asAddr x')).run P w = .ok v' w ∧ VR φ v v' := by
  have hT := tinfo_facts ht; cases hx with
  | ptr b o p hp =>
    obtain ⟨vs', h1, h2, h3, h4, h5⟩ := run_row (P := P) hr hp (hH b p hp rfl) hrow; unfold mkV at hv; by_cases ha : ti.agg = true
    · rw [if_pos ha] at hv; cases hv; refine ⟨_, ?_, VR.mkAgg h1 h3⟩; simp [asAddr, loadVar, hT.agg, ha, hT.size, h4]
    · rw [if_neg ha] at hv; have ha' : ti.agg = false := by simpa using ha
      cases vs with
      | nil => cases hv
      | cons u us =>
        simp at hv; subst hv; cases h1 with
        | cons hu _ =>
          refine ⟨_, ?_, hu⟩; have := h5 _ rfl; simp [asAddr, loadVar, hT.agg, ha', this]
theorem results_sim (hr : Rel φ base H w) (hd : Dom φ H W) (hwf : W.wf) {env : Env} {tmps : Array Value} (hT : TR φ env tmps) {fn : Func} {v : Value} (h : resultsA P fn env W = some v) :
    ∃ v', (results fn tmps).run P w = .ok v' w ∧ VR φ v v' := by
  unfold resultsA at h; simp only [Option.map_eq_some_iff] at h; obtain ⟨vs, hvs, h⟩ := h; have key : ∀ (l : List ResultVar) (vs : List Value), (l.mapM fun (r : ResultVar) => match r with
      | .tmp t => some (env t)
      | .cell a t => match tinfo P t, asPtr (env a) with
        | some ti, some a => (W.row a ti.size).bind (mkV ti)
        | _, _ => none) = some vs → ∃ vs', (l.mapM fun (r : ResultVar) => (match r with
      | .tmp t => pure (tmps.getD t undef)
      | .cell a t => do loadVar t (← asAddr (tmps.getD a undef)) : Sem Value)).run P w = .ok vs' w ∧ LR φ vs vs' := by
    intro l
    induction l with
    | nil => intro vs h; simp at h; subst h; exact ⟨[], rfl, .nil⟩
    | cons r l ih =>
      intro vs h; simp only [List.mapM_cons, Option.bind_eq_bind, Option.bind_eq_some_iff, Option.pure_def, Option.some.injEq] at h; obtain ⟨v, hv, vs2, hvs2, rfl⟩ := h; obtain ⟨vs', h1, h2⟩ := ih vs2 hvs2; have hone : ∃ v', (match r with
          | .tmp t => pure (tmps.getD t undef)
          | .cell a t => do loadVar t (← asAddr (tmps.getD a undef)) : Sem Value).run P w = .ok v' w ∧ VR φ v v' := by
        cases r with
        | tmp t => simp at hv; subst hv; exact ⟨_, rfl, hT t⟩
        | cell a t =>
          simp only at hv; split at hv
          case h_2 => cases hv
          rename_i ti ad hti had; simp only [Option.bind_eq_some_iff] at hv; obtain ⟨row, hrow, hmk⟩ := hv; have hva := hT a; generalize env a = xv at hva had; cases xv <;> simp [asPtr] at had; rename_i oa; cases oa <;> simp at had; subst had; exact run_loadVar hr hti hva (fun b p hb e => by subst e; exact hd _ p hb (row_lt hwf hrow)) hrow hmk
      obtain ⟨v', q1, q2⟩ := hone; refine ⟨v' :: vs', ?_, .cons q2 h2⟩; simp only [List.mapM_cons, Sem.run_bind, q1, Result.andThen_ok, h1, Sem.run_pure]
  obtain ⟨vs', h1, h2⟩ := key _ _ hvs; have hrun : (results fn tmps).run P w = .ok (if h : vs'.toArray.size = 1 then vs'.toArray[0] else .tuple vs'.toArray) w := by
    unfold results; rw [Array.mapM_eq_mapM_toList]; simp only [map_eq_pure_bind, Sem.run_bind]
    erw [h1]
    rfl
  refine ⟨_, hrun, ?_⟩; subst h; cases h2 with
  | nil => exact VR.mkTuple .nil
  | cons hv t =>
    cases t with
    | nil => exact hv
    | cons hv2 t => exact VR.mkTuple (.cons hv (.cons hv2 t))
theorem DOk.put {r : Nat} {o : Obj} {ds : List (FuncId × List Value)} {dc : List Deferred} (h : DOk φ lb w ds dc) (hne : ∀ d ∈ dc, ∀ r', d.target = .collected r' → r' ≠ r) : DOk φ lb (w.putObj r o) ds dc := by
  induction h with
  | nil => exact .nil
  | mark r' h hφ hb hne' t ih =>
    refine .mark r' ?_ hφ hb hne' (ih fun d hd => hne d (List.mem_cons_of_mem _ hd)); rw [World.putObj_heap_other (hne ⟨.collected r', #[]⟩ (List.mem_cons_self ..) r' rfl)]; exact h
  | call f h t ih => exact .call f h (ih fun d hd => hne d (List.mem_cons_of_mem _ hd))
theorem step_mark {fr : Frame} {cs : List Frame} {r : Nat} {as : Array Value} {ds : List Deferred} (hm : fr.mode ≠ .run) (hd : fr.defers = ⟨.collected r, as⟩ :: ds) (hh : w.heap[r]? = some (.deferred (some []))) :
    step P (lone fr cs w) = .next (lone { fr with defers := ds } cs (w.putObj r (.deferred none))) := by
  refine step_lone_go ?_; have hrun := run_takeDeferred (P := P) hh; cases hmode : fr.mode with
  | run => exact absurd hmode hm
  | returning => simp [stepG, unwind, hmode, hd, hrun]
  | panicking chain => simp [stepG, unwind, hmode, hd, hrun]
theorem marks_run {ds : List (FuncId × List Value)} {dc : List Deferred} (h : DOk φ lb w ds dc) : ∀ (fr : Frame) (cs : List Frame), fr.defers = dc → fr.mode ≠ .run → base ≤ lb → Rel φ base H w →
    ∃ w1 dc1, Steps P (lone fr cs w) (lone { fr with defers := dc1 } cs w1) ∧ Rel φ base H w1 ∧ Below base w w1 ∧ w1.heap.size = w.heap.size ∧ (∀ C, C < lb → w1.heap[C]? = w.heap[C]?) ∧ DOk φ lb w1 ds dc1 ∧
      (ds = [] → dc1 = []) ∧ ∀ f args ds', ds = (f, args) :: ds' → ∃ as cap dc', dc1 = ⟨.fn (.func f) cap, as⟩ :: dc' ∧ LR φ args (as.toList ++ cap.toList) ∧ DOk φ lb w1 ds' dc' := by
  generalize hn : dc.length = n
  induction n generalizing w ds dc with
  | zero =>
    intro fr cs hfr hm hbl hr; cases h with
    | nil =>
      refine ⟨w, [], ?_, hr, Below.refl _ _, rfl, fun _ _ => rfl, .nil, fun _ => rfl, (fun _ _ _ h => by cases h)⟩; rw [← hfr]; exact Steps.refl _ _
    | mark => simp at hn
    | call => simp at hn
  | succ n ih =>
    intro fr cs hfr hm hbl hr; cases h with
    | nil => simp at hn
    | mark r h hφ hb hne t =>
      have h1 := step_mark (P := P) (cs := cs) hm hfr h; have hrel : Rel φ base H (w.putObj r (.deferred none)) :=
        ⟨fun b p hp => (hr.agree b p hp).of_block (World.putObj_heap_other (hφ b p hp)), hr.inj, by simpa using hr.size, by simpa using hr.lt⟩
      have ht := t.put (o := .deferred none) hne; obtain ⟨w1, dc1, q1, q2, q3, q4, q5, q6, q7, q8⟩ := ih ht (by simpa using hn) { fr with defers := _ } cs rfl hm hbl hrel; refine ⟨w1, dc1, .head h1 q1, q2, ?_, by rw [q4]; simp, fun C hC => ?_, q6, q7, q8⟩
      · have hb0 : Below base w (w.putObj r (.deferred none)) := ⟨rfl, rfl, rfl, by simp, fun k hk => World.putObj_heap_other (by omega)⟩
        exact hb0.trans q3
      · rw [q5 C hC]; exact World.putObj_heap_other (by omega)
    | call f hl t =>
      refine ⟨w, _, ?_, hr, Below.refl _ _, rfl, fun _ _ => rfl, .call f hl t, (fun h => by cases h), fun f' args' ds' he => ?_⟩
      · rw [← hfr]; exact Steps.refl _ _
      · cases he; exact ⟨_, _, _, rfl, hl, t⟩
def ModeR (φ : Phi) (fr : Frame) : Option Value → Prop
  | none => fr.mode = .returning
  | some v => ∃ v', VR φ v v' ∧ fr.mode = .panicking [{ v := v', recovered := false }]
def SimFin (P : Program) (O : Orc) (n : Nat) : Prop :=
  ∀ f env defs mode W o m W' wr, ev P O n (.fin f env defs mode W) = some (.call o m W' wr) → W.wf →
    ∀ (φ : Phi) (base lb : Nat) (H : Nat → Blk) (w : World) (fr : Frame) (cs : List Frame) (kind : CallKind), Rel φ base H w → Dom φ H W → Fresh φ W.next W'.next → TR φ env fr.tmps → DOk φ lb w defs fr.defers →
      base ≤ lb → lb ≤ w.heap.size → fr.kind = kind → fr.fn = f → (∃ fn, P.funcs[f]? = some fn) → ModeR φ fr mode →
      ∃ φ' w' fr', Ext φ φ' w W.next W'.next ∧ Rel φ' base (ovl H W'.get W.next W'.next wr) w' ∧ Below base w w' ∧ (∀ C, C < lb → (∀ b p, φ b = some p → p.blk ≠ C) → w'.heap[C]? = w.heap[C]?) ∧
        Steps P (lone fr cs w) (lone fr' cs w') ∧ fr'.fn = f ∧ Leaves P φ' fr' kind w' o
theorem fin_sim {n : Nat} (hC : SimCall P O n) (hF : SimFin P O n) : SimFin P O (n + 1) := by
  intro f env defs mode W o m W' wr h hwf φ base lb H w fr cs kind hr hd hf hT hD hbl hlb hk hfn hfx hM; have hm : fr.mode ≠ .run := by
    cases mode with
    | none => have : fr.mode = .returning := hM; rw [this]; simp
    | some v => obtain ⟨v', _, h2⟩ := hM; rw [h2]; simp
  obtain ⟨w1, dc1, q1, q2, q3, q4, q5, q6, q7, q8⟩ := marks_run (P := P) hD fr cs rfl hm hbl hr; simp only [ev] at h; cases defs with
  | nil =>
    have hdc := q7 rfl; subst hdc; simp only at h; cases mode with
    | some v =>
      cases h; obtain ⟨v', h1, h2⟩ := hM; obtain ⟨fn, hfx⟩ := hfx; refine ⟨φ, w1, _, Ext.refl _ _ _ _, by rw [ovl_self]; exact q2, q3, fun C hC _ => q5 C hC, q1, hfn, v', h1, h2, rfl, hk, fn, ?_⟩; show P.funcs[fr.fn]? = some fn; rw [hfn]; exact hfx
    | none =>
      simp only at h; obtain ⟨fn, hfx⟩ := hfx; rw [hfx] at h; simp only [Option.map_eq_some_iff] at h; obtain ⟨v, hv, h⟩ := h; cases h; obtain ⟨v', g1, g2⟩ := results_sim q2 hd hwf hT hv; refine ⟨φ, w1, _, Ext.refl _ _ _ _, by rw [ovl_self]; exact q2, q3, fun C hC _ => q5 C hC, q1, hfn, v', g2, hM, rfl, hk, fn, ?_, g1⟩; show P.funcs[fr.fn]? = some fn; rw [hfn]; exact hfx
  | cons d ds =>
    obtain ⟨g, args⟩ := d; obtain ⟨as, cap, dc', rfl, k2, k3⟩ := q8 g args ds rfl; simp only at h; split at h
    case h_2 => cases h
    rename_i vr mode' W1 wr1 he; split at h
    case h_2 => cases h
    rename_i o' m' W2 wr2 he2; cases h; have g1 := ev_good P O n _ _ he hwf; have g2 := ev_good P O n _ _ he2 g1.1; have g1' : AFr W W1 wr1 := g1.2; have g2' : AFr W1 W' wr2 := g2.2; obtain ⟨fn, bd, c1, c2, c3⟩ := call_runs he; have hst := step_defer (P := P) (fr := { fr with defers := ⟨.fn (.func g) cap, as⟩ :: dc' }) (cs := cs) (w := w1) (d := ⟨.fn (.func g) cap, as⟩) (ds := dc') (f := g) (args := as ++ cap) hm rfl rfl (by
      simp only [invoke]; exact run_callFunc c1 c2 c3 _)
    have hKO : KindOk φ .deferred ({ fr with defers := dc' } :: cs) mode := by
      cases mode with
      | none =>
        have : fr.mode = .returning := hM; refine .inr ⟨rfl, ?_⟩; simp [recoverD, this]
      | some v => obtain ⟨v', h1, h2⟩ := hM; exact ⟨rfl, _, cs, v', rfl, h2, h1⟩
    obtain ⟨φ2, w2, fr2, cs2, r1, r2, r3, _, v', r4, r5, r6, r7, fnx, r8, r9⟩ := hC g args mode W _ mode' W1 wr1 he hwf φ base H w1 (as ++ cap) .deferred ({ fr with defers := dc' } :: cs) q2 hd (hf.le g2.2.next) (by simpa using k2) hKO (.inr rfl); have hc : ∃ c : Frame, cs2 = c :: cs ∧ ModeR φ2 { c with mode := settle c.mode } mode' ∧ c.tmps = fr.tmps ∧ c.defers = dc' ∧ c.kind = fr.kind ∧ c.fn = fr.fn := by
      rcases r2 with ⟨rfl, rfl⟩ | ⟨⟨v, rfl⟩, rfl, c, rest, v', hcs, h2, rfl⟩
      · refine ⟨_, rfl, ?_, rfl, rfl, rfl, rfl⟩; cases mode' with
        | none =>
          have : fr.mode = .returning := hM; show settle fr.mode = .returning; rw [this]; rfl
        | some v =>
          obtain ⟨v', h1, h2⟩ := hM; refine ⟨v', h1.mono r1.ext.le, ?_⟩; show settle fr.mode = _; rw [h2]; rfl
      · cases hcs; exact ⟨_, rfl, rfl, rfl, rfl, rfl, rfl⟩
    obtain ⟨c, rfl, hcm, hct, hcd, hck, hcf⟩ := hc; have hback := step_going_returned (P := P) (fr := fr2) (c := c) (cs := cs) (w := w2) (v := v') r7 ⟨r5, r6, fnx, r8, r9⟩; obtain ⟨φ3, w3, fr3, t1, t2, t3, t4, t5, t6⟩ := hF f env ds mode' W1 _ _ W' wr2 he2 g1.1 φ2 base lb _ w2 { c with mode := settle c.mode } cs kind r1.rel (hd.next r1 g1.2) (hf.next r1 g1.2) (by show TR φ2 env c.tmps; rw [hct]; exact hT.mono r1.ext.le)
      (by show DOk φ2 lb w2 ds c.defers; rw [hcd]; exact k3.out r1) hbl (by have := r1.keeps.below.size; omega) (by show c.kind = kind; rw [hck]; exact hk) (by show c.fn = f; rw [hcf]; exact hfn) hfx hcm
    refine ⟨φ3, w3, fr3, ?_, ?_, ?_, ?_, ?_, t6⟩
    · have hex : Ext φ φ2 w W.next W'.next := ⟨r1.ext.le, fun b p h1 h2 => by
        obtain ⟨u1, u2, u3⟩ := r1.ext.new b p h1 h2; rw [q4] at u3; exact ⟨u1, Nat.lt_of_lt_of_le u2 g2'.next, u3⟩⟩
      exact Ext.comp (by have := r1.keeps.below.size; omega) hex t1 g1'.next (Nat.le_refl _)
    · rw [ovl_trans g1' g2'] at t2; exact t2
    · exact (q3.trans r1.keeps.below).trans t3
    · intro C hC hn; have hn2 : ∀ b p, φ2 b = some p → p.blk ≠ C := by
        intro b p hb e; cases hb0 : φ b with
        | some p0 => have := r1.ext.le _ _ hb0; rw [hb] at this; cases this; exact hn b p hb0 e
        | none =>
          obtain ⟨_, _, h3⟩ := r1.ext.new b p hb hb0; rcases h3 with h3 | ⟨b0, p0, h4, h5⟩
          · omega
          · exact hn b0 p0 h4 (h5.trans e)
      rw [t4 C hC hn2, r1.keeps.other C (by omega) hn, q5 C hC]
    · exact q1.trans ((Steps.one hst).trans (r3.trans ((Steps.one hback).trans t5)))
end Go.Abs
namespace Go.Abs
open Go.RowKit (Below)
variable {P : Program} {O : Orc} {φ φ' : Phi} {base lb : Nat} {H : Nat → Blk} {W W' : AW} {w w' : World}
theorem TR_args {args : List Value} {args' : Array Value} (h : LR φ args args'.toList) (n : Nat) : TR φ (argEnv args) (args' ++ Array.replicate n undef) := by
  intro t; have hl := h.length; simp only [argEnv, Array.getD_eq_getD_getElem?, Array.getElem?_append, List.getD_eq_getElem?_getD]; by_cases ht : t < args'.size
  · rw [if_pos ht]; obtain ⟨v, hv, hr⟩ := h.get' t (v' := args'[t]) (by simp [ht]); rw [hv, Array.getElem?_eq_getElem ht]; exact hr
  · rw [if_neg ht]; have hlen : args.length ≤ t := by simp at hl; omega
    rw [List.getElem?_eq_none hlen, Array.getElem?_replicate]; split <;> exact VR.undef
theorem call_end {n : Nat} (hF : SimFin P O n) {f : FuncId} {env1 : Env} {defs : List (FuncId × List Value)} {mode : Option Value} {W1 : AW} {o : AOut} {m : Option Value} {wr1 wr2 : List Nat}
    (he : ev P O n (.fin f env1 defs mode W1) = some (.call o m W' wr2)) (hwf1 : W1.wf) (ha1 : AFr W W1 wr1) {φ1 : Phi} {w1 : World} (hO : Out φ φ1 base H W W1 wr1 w w1) (hr : Rel φ base H w) (hd : Dom φ H W) (hf : Fresh φ W.next W'.next)
    {fr : Frame} {cs : List Frame} (hT : TR φ1 env1 fr.tmps) (hD : DOk φ1 w.heap.size w1 defs fr.defers) (hfn : fr.fn = f) (hfx : ∃ fn, P.funcs[f]? = some fn) (hM : ModeR φ1 fr mode) :
    ∃ φ' w' fr', Out φ φ' base H W W' (wr1 ++ wr2) w w' ∧ Steps P (lone fr cs w1) (lone fr' cs w') ∧ fr'.fn = f ∧ Leaves P φ' fr' fr.kind w' o ∧ PLe φ1 φ' := by
  have g2 := ev_good P O n _ _ he hwf1; have g2' : AFr W1 W' wr2 := g2.2; obtain ⟨φ2, w2, fr2, t1, t2, t3, t4, t5, t0, t6⟩ := hF f env1 defs mode W1 o m W' wr2 he hwf1 φ1 base w.heap.size _ w1 fr cs fr.kind hO.rel (hd.next hO ha1) (hf.next hO ha1) hT hD hr.size hO.keeps.below.size rfl hfn hfx hM; refine ⟨φ2, w2, fr2, ⟨?_, ?_, ?_⟩, t5, t0, t6, t1.le⟩
  · exact Ext.trans ha1.next g2'.next hO.keeps.below.size hO.ext t1
  · rw [ovl_trans ha1 g2'] at t2; exact t2
  · refine ⟨hO.keeps.below.trans t3, fun C hC hn => ?_⟩; rw [t4 C hC fun b p hb e => ?_, hO.keeps.other C hC hn]; cases hb0 : φ b with
    | some p0 => have := hO.ext.le _ _ hb0; rw [hb] at this; cases this; exact hn b p hb0 e
    | none =>
      obtain ⟨_, _, h3⟩ := hO.ext.new b p hb hb0; rcases h3 with h3 | ⟨b0, p0, h4, h5⟩
      · omega
      · exact hn b0 p0 h4 (h5.trans e)
theorem call_sim {n : Nat} (hOS : OSim P O) (hP : progOk P = true) (hC : SimCode P O n) (hF : SimFin P O n) : SimCall P O (n + 1) := by
  intro f args pan W o pan' W' wr h hwf φ base H w args' kind cs hr hd hf hargs hK hkind; simp only [ev] at h; split at h
  case h_1 => cases h
  rename_i fn hfn; split at h
  case isTrue => cases h
  split at h
  case h_1 => cases h
  rename_i body hbody; have hok : codeOk body = true := by
    unfold progOk at hP; rw [Array.all_eq_true] at hP; obtain ⟨hlt, hget⟩ := Array.getElem?_eq_some_iff.1 hfn; have := hP f hlt; rw [hget, hbody] at this
    simpa using this
  split at h
  case h_1 =>
    rename_i v0 W0 hrun; split at hrun
    case isFalse => cases hrun
    rename_i hpan; cases h; have hpan : pan = none := by simpa using hpan
    subst hpan; obtain ⟨φ', w', fr, h1, h2, h3, h4⟩ := hOS f args W _ _ hrun hwf fn body hfn hbody φ base H w args' kind cs hr hd hf hargs hK hkind; exact ⟨φ', w', fr, cs, h1, PanR.refl _ _, h2, h3, h4⟩
  split at h
  case h_2 => cases h
  rename_i e env1 X1 W1 wr1 hc; have hlen : args.length = args'.size := by have := hargs.length; simpa using this
  have hsz : (args' ++ Array.replicate (fn.ntmps - args'.size) undef).size = max args.length fn.ntmps := by
    simp; omega
  have hg1 := ev_good P O n _ _ hc hwf; have ha1 : AFr W W1 wr1 := hg1.2; have hle : W1.next ≤ W'.next := by
    split at h
    · split at h
      · rename_i he; cases h; exact (ev_good P O n _ _ he hg1.1).2.next
      · cases h
    · split at h
      · rename_i he; cases h; exact (ev_good P O n _ _ he hg1.1).2.next
      · cases h
    · split at h
      · rename_i he; cases h; exact (ev_good P O n _ _ he hg1.1).2.next
      · cases h
    · cases h
  let b : Frame := { (default : Frame) with fn := f, kind := kind, roundOf := none }
  have henter : Frame.enter P f args' kind = b.atR { tmps := args' ++ Array.replicate (fn.ntmps - args'.size) undef, defers := [] } [.code body] := by
    simp [Frame.enter, Frame.atR, hfn, hbody, b]
  obtain ⟨φ1, w1, a1, cs1, r1, r2, r3, r4, r5, r6⟩ := hC body hok none _ (argEnv args) { defs := [], pan := pan } W e env1 X1 W1 wr1 hc hwf φ base w.heap.size H w { tmps := args' ++ Array.replicate (fn.ntmps - args'.size) undef, defers := [] } b [] cs
    hr hd (hf.le hle) (TR_args hargs _) hsz .nil (Nat.le_refl _) rfl hK
  rw [← henter] at r6; have tail : ∀ (mode : Option Value) (fr : Frame), fr.tmps = a1.tmps → fr.defers = a1.defers → fr.fn = f → fr.kind = kind → ModeR φ1 fr mode → Steps P (lone (Frame.enter P f args' kind) cs w) (lone fr cs1 w1) →
      (match ev P O n (.fin f env1 X1.defs mode W1) with
        | some (.call o _ W wr2) => some (Res.call o X1.pan W (wr1 ++ wr2))
        | _ => none) = some (Res.call o pan' W' wr) →
      ∃ φ' w' fr cs', Out φ φ' base H W W' wr w w' ∧ PanR pan pan' cs cs' ∧ Steps P (lone (Frame.enter P f args' kind) cs w) (lone fr cs' w') ∧ fr.fn = f ∧ Leaves P φ' fr kind w' o := by
    intro mode fr h1 h2 h3 h4 h5 h6 h; split at h
    case h_2 => cases h
    rename_i he; cases h; obtain ⟨φ2, w2, fr2, q1, q2, q0, q3, q4⟩ := call_end hF he hg1.1 ha1 r1 hr hd hf (fr := fr) (cs := cs1) (by rw [h1]; exact r2) (by rw [h2]; exact r4) h3 ⟨fn, hfn⟩ h5; exact ⟨φ2, w2, fr2, cs1, q1, r5, h6.trans q2, q0, by rw [← h4]; exact q3⟩
  cases e with
  | normal => exact tail none { b.atR a1 [] with mode := .returning } rfl rfl rfl rfl rfl (Steps.trans r6 (.one (stepR_end rfl))) h
  | ret =>
    obtain ⟨k0, r6⟩ := r6; exact tail none { b.atR a1 (.code .ret :: k0) with mode := .returning } rfl rfl rfl rfl rfl (Steps.trans r6 (.one (stepR_ret rfl))) h
  | panic v =>
    obtain ⟨v', todo, s1, _, s2⟩ := r6; exact tail (some v) { b.atR a1 todo with mode := .panicking [{ v := v', recovered := false }] } rfl rfl rfl rfl ⟨v', s1, rfl⟩ s2 h
  | exit id => cases h
  | goto l => cases h
theorem step_raise {fr c : Frame} {cs : List Frame} {chain : List PanicEntry} (hm : fr.mode = .panicking chain) (hd : fr.defers = []) (hn : NoCall fr.todo) :
    step P (lone fr (c :: cs) w) = .next (lone (c.raise chain) cs w) := by
  refine step_lone_go ?_; have hcat : fr.catches P = false := by
    unfold Frame.catches; split
    · rename_i ht; rw [ht] at hn; exact hn.elim
    · rfl
  simp [stepG, unwind, hm, hd, hcat]
theorem round_sim {n : Nat} (hC : SimCode P O n) : SimRound P O (n + 1) := by
  intro l args W o pan' W' wr h hwf φ base H w p f tmps st pend sz env ps asg body c cs hr hd hf hl hg hT hs; simp only [ev, hg] at h; split at h
  · cases h
  split at h
  case h_2 => cases h
  rename_i env1 X1 W1 wr1 e1; split at h
  case h_2 => cases h
  rename_i pend' sz' env' ps' asg' body' hg1; split at h
  case h_2 => cases h
  rename_i e envx X2 W2 wr2 e2; split at h
  case isFalse => cases h
  rename_i hdefs; have hdefs : X2.defs = [] := by simpa using hdefs
  have hl0 : l < W.next := by
    rcases Nat.lt_or_ge l W.next with h' | h'
    · exact h'
    · rw [hwf l h'] at hg; cases hg
  have hag0 := hr.agree l p hl; rw [hd l p hl hl0, hg] at hag0; obtain ⟨_, _, _, _, _, _, _, _, _, hok1, hok2, hbase⟩ := hag0; have hg1' := ev_good P O n _ _ e1 hwf; have ha1 : AFr W W1 wr1 := hg1'.2; have hl1 : l < W1.next := Nat.lt_of_lt_of_le hl0 ha1.next
  have hwf1 : W1.wf := hg1'.1; have hws := wf_set hwf1 hl1 (.loop .busy pend' sz' env' ps' asg' body'); have hg2' := ev_good P O n _ _ e2 hws.1; have ha2 : AFr (W1.set l (.loop .busy pend' sz' env' ps' asg' body')) W2 wr2 := hg2'.2; have hl2 : l < W2.next := Nat.lt_of_lt_of_le hl1 (Nat.le_trans hws.2.next ha2.next)
  have hle2 : W2.next ≤ W'.next := by
    split at h
    · cases h; exact Nat.le_refl _
    · split at h
      · cases h; exact Nat.le_refl _
      · cases h
  have hle1 : W1.next ≤ W2.next := Nat.le_trans hws.2.next ha2.next
  let b : Frame := { (default : Frame) with fn := f, kind := .normal, roundOf := some p.blk }
  have hb0 : Frame.round p.blk f tmps asg body .normal = b.atR { tmps := tmps, defers := [] } [.code asg, .beginRound, .code body] := by
    simp [Frame.round, Frame.atR, b]
  obtain ⟨φ1, w1, a1, cs1, r1, r2, r3, r4, r5, r6⟩ := hC asg hok1 (some l) sz _ {} W .normal env1 X1 W1 wr1 e1 hwf φ base w.heap.size H w { tmps := tmps, defers := [] } b [.beginRound, .code body] (c :: cs)
    hr hd (hf.le (Nat.le_trans hle1 hle2)) hT hs .nil (Nat.le_refl _) ⟨p, hl, rfl⟩ (.inl rfl)
  obtain ⟨hp1, rfl⟩ := PanR.none_inv (pan' := X1.pan) r5; rw [← hb0] at r6; have hr6 : Steps P (lone (Frame.round p.blk f tmps asg body .normal) (c :: cs) w) (lone (b.atR a1 (.beginRound :: [.code body])) (c :: cs) w1) := r6; have hl1φ := r1.ext.le _ _ hl; have hd1 := hd.next r1 ha1
  have hag := r1.rel.agree l p hl1φ; rw [hd1 l p hl1φ hl1, hg1] at hag; obtain ⟨r, q1, q2, q3, q4, q5, q6, q7, q8, q9, q10, q11⟩ := hag; have hbeg := stepR_beginRound (P := P) (b := b) (a := a1) (k := [.code body]) (cs := c :: cs) (w := w1) rfl (run_beginRound q1 q2); have hOb := out_loop (W := W1) (r' := { r with state := .busy }) r1.rel hl1φ (hd1 l p hl1φ hl1) (by rw [hg1]; trivial) q1 q11 q5 (by rw [q7]; exact q9) (by rw [q8]; exact q10); have hOb' : Out φ1 φ1 base (ovl H W1.get W.next W1.next wr1) W1 (W1.set l (.loop .busy pend' sz' env' ps' asg' body')) [l] w1 (w1.putObj p.blk (.loop { r with state := .busy })) := by
    rw [← q3, ← q4, ← q6, ← q7, ← q8]; exact hOb
  have hOab := Out.trans ha1 hws.2 r1 hOb'; have haab := ha1.trans hws.2; have hdb := hd.next hOab haab
  obtain ⟨φ2, w2, a2, cs2, s1, s2, s3, s4, s5, s6⟩ := hC body hok2 (some l) sz env1 X1 _ e envx X2 W2 wr2 e2 hws.1 φ1 base w.heap.size _ _ a1 b [] (c :: cs)
    hOab.rel hdb (hf.next hOab haab |>.le hle2) r2 r3 (r4.out hOb') hOab.keeps.below.size ⟨p, hl1φ, rfl⟩ (by rw [hp1]; exact .inl rfl)
  rw [hp1] at s5; obtain ⟨hp2, rfl⟩ := s5.none_inv; have hOabc : Out φ φ2 base H W W2 (wr1 ++ [l] ++ wr2) w w2 := Out.trans haab ha2 hOab s1; have haabc := haab.trans ha2; have hdc := hd.next hOabc haabc
  have hl2φ := hOabc.ext.le _ _ hl; have hsteps : ∀ {m : Machine}, Steps P (lone (b.atR a1 [.code body]) (c :: cs) (w1.putObj p.blk (.loop { r with state := .busy }))) m → Steps P (lone (Frame.round p.blk f tmps asg body .normal) (c :: cs) w) m :=
    fun hm => hr6.trans (.head hbeg hm)
  have fin : (∀ v, e ≠ .panic v) → (match W2.get l with
        | .loop _ _ sz2 env2 ps2 asg2 body2 => some (Res.call (.returned (.bool (jumpOf e).isNone)) none (W2.set l (.loop (if (jumpOf e).isNone then .ready else .done) (jumpOf e) sz2 env2 ps2 asg2 body2)) (wr1 ++ l :: (wr2 ++ [l])))
        | _ => none) = some (.call o pan' W' wr) →
      ∃ φ' w', Out φ φ' base H W W' wr w w' ∧ pan' = none ∧ ∃ v v', VR φ' v v' ∧
        ((o = .returned v ∧ Steps P (lone (Frame.round p.blk f tmps asg body .normal) (c :: cs) w) (lone (c.finish v') cs w')) ∨
         (o = .panicked v ∧ Steps P (lone (Frame.round p.blk f tmps asg body .normal) (c :: cs) w) (lone (c.raise [{ v := v', recovered := false }]) cs w'))) := by
    intro hnp h; split at h
    case h_2 => cases h
    rename_i st2 pend2 sz2 env2 ps2 asg2 body2 hg2; cases h; have hag := hOabc.rel.agree l p hl2φ; rw [hdc l p hl2φ hl2, hg2] at hag; obtain ⟨r', u1, u2, u3, u4, u5, u6, u7, u8, u9, u10, u11⟩ := hag; have hOe := out_loop (W := W2) (r' := { r' with state := if (jumpOf e).isNone then .ready else .done, pending := jumpOf e }) hOabc.rel hl2φ (hdc l p hl2φ hl2) (by rw [hg2]; trivial) u1 u11 u5 (by rw [u7]; exact u9) (by rw [u8]; exact u10); have hOe' : Out φ2 φ2 base (ovl H W2.get W.next W2.next (wr1 ++ [l] ++ wr2)) W2 (W2.set l (.loop (if (jumpOf e).isNone then .ready else .done) (jumpOf e) sz2 env2 ps2 asg2 body2)) [l] w2
        (w2.putObj p.blk (.loop { r' with state := if (jumpOf e).isNone then .ready else .done, pending := jumpOf e })) := by
      rw [← u4, ← u6, ← u7, ← u8]; exact hOe
    have hwf2 : W2.wf := hg2'.1; have hwe := wf_set hwf2 hl2 (.loop (if (jumpOf e).isNone then .ready else .done) (jumpOf e) sz2 env2 ps2 asg2 body2); have hO := Out.trans haabc hwe.2 hOabc hOe'; have hend := run_endRound (P := P) (jumpOf e) u1; refine ⟨φ2, w2.putObj p.blk (.loop { r' with state := if (jumpOf e).isNone then .ready else .done, pending := jumpOf e }), ?_, rfl, .bool (jumpOf e).isNone, .bool (jumpOf e).isNone, .bool _, .inl ⟨rfl, ?_⟩⟩
    · have : wr1 ++ l :: (wr2 ++ [l]) = wr1 ++ [l] ++ wr2 ++ [l] := by simp
      rw [this]; exact hO
    · cases e with
      | normal => exact hsteps (Steps.trans s6 (.one (stepR_round_end rfl rfl hend)))
      | ret => obtain ⟨k0, s6⟩ := s6; exact hsteps (Steps.trans s6 (.one (stepR_round_ret rfl rfl hend)))
      | exit id => obtain ⟨k0, sx, s6⟩ := s6; exact hsteps (Steps.trans s6 (.one (stepR_round_exit rfl rfl sx hend)))
      | goto t => obtain ⟨k0, sx, s6⟩ := s6; exact hsteps (Steps.trans s6 (.one (stepR_round_goto rfl rfl sx hend)))
      | panic v => exact absurd rfl (hnp v)
  cases e with
  | panic v =>
    simp only at h; cases h; obtain ⟨v', todo, t1, t2, t3⟩ := s6; rw [hdefs] at s4; obtain ⟨w3, dc1, x1, x2, x3, x4, x5, x6, x7, _⟩ := marks_run (P := P) s4 { b.atR a2 todo with mode := .panicking [{ v := v', recovered := false }] } (c :: cs) rfl (by simp) hr.size s1.rel; have hdc1 := x7 rfl; subst hdc1; refine ⟨φ2, w3, ⟨?_, ?_, ?_⟩, rfl, v, v', t1, .inr ⟨rfl, ?_⟩⟩
    · have := hOabc.ext; exact this
    · have h1 := x2; rw [ovl_trans haab ha2] at h1; have : wr1 ++ l :: wr2 = wr1 ++ [l] ++ wr2 := by simp
      rw [this]; exact h1
    · refine ⟨hOabc.keeps.below.trans x3, fun C hC hn => ?_⟩; rw [x5 C hC, hOabc.keeps.other C hC hn]
    · exact (hsteps t3).trans (x1.trans (.one (step_raise rfl rfl t2)))
  | normal => exact fin (fun _ => by simp) h
  | ret => exact fin (fun _ => by simp) h
  | exit id => exact fin (fun _ => by simp) h
  | goto t => exact fin (fun _ => by simp) h
structure All (P : Program) (O : Orc) (n : Nat) : Prop where
  code : SimCode P O n
  loop : SimLoop P O n
  fin : SimFin P O n
  call : SimCall P O n
  round : SimRound P O n
theorem all_sim (hOS : OSim P O) (hP : progOk P = true) (hmix : P.follows .mixedOrders = true) : ∀ n, All P O n := by
  intro n
  induction n using Nat.strongRecOn with
  | _ n ih =>
    cases n with
    | zero =>
      exact ⟨fun c _ ro sz env X W e env' X' W' wr h => by simp [ev] at h, fun c _ ro sz env X W e env' X' W' wr h => by simp [ev] at h, fun f env defs mode W o m W' wr h => by simp [ev] at h,
        fun f args pan W o pan' W' wr h => by simp [ev] at h, fun l args W o pan' W' wr h => by simp [ev] at h⟩
    | succ n =>
      have hn := ih n (by omega); have hloop : SimLoop P O (n + 1) := fun c hc => loop_sim (hn.code c hc) (hn.loop c hc); refine ⟨fun c hc => ?_, hloop, fin_sim hn.call hn.fin, call_sim hOS hP hn.code hn.fin, round_sim hn.code⟩; cases c with
      | skip =>
        intro ro sz env X W e env' X' W' wr h hwf φ base lb H w a b k cs hr hd hf hT hs hD hlb hro hK; simp only [ev] at h; cases h; exact ⟨φ, w, a, cs, Out.same hr, hT, hs, hD, PanR.refl _ _, .one stepR_skip⟩
      | label l =>
        intro ro sz env X W e env' X' W' wr h hwf φ base lb H w a b k cs hr hd hf hT hs hD hlb hro hK; simp only [ev] at h; cases h; exact ⟨φ, w, a, cs, Out.same hr, hT, hs, hD, PanR.refl _ _, .one stepR_label⟩
      | ret =>
        intro ro sz env X W e env' X' W' wr h hwf φ base lb H w a b k cs hr hd hf hT hs hD hlb hro hK; simp only [ev] at h; cases h; exact ⟨φ, w, a, cs, Out.same hr, hT, hs, hD, PanR.refl _ _, k, Steps.refl _ _⟩
      | exit id =>
        intro ro sz env X W e env' X' W' wr h hwf φ base lb H w a b k cs hr hd hf hT hs hD hlb hro hK; simp only [ev] at h; cases h; exact ⟨φ, w, a, cs, Out.same hr, hT, hs, hD, PanR.refl _ _, k, rfl, Steps.refl _ _⟩
      | goto l =>
        intro ro sz env X W e env' X' W' wr h hwf φ base lb H w a b k cs hr hd hf hT hs hD hlb hro hK; simp only [ev] at h; cases h; exact ⟨φ, w, a, cs, Out.same hr, hT, hs, hD, PanR.refl _ _, k, rfl, Steps.refl _ _⟩
      | refuse why => intro ro sz env X W e env' X' W' wr h; simp [ev] at h
      | seq x y =>
        simp only [codeOk, Bool.and_eq_true] at hc; exact code_seq (hn.code x hc.1) (hn.code y hc.2)
      | cond o x y =>
        simp only [codeOk, Bool.and_eq_true] at hc; exact code_cond hc.1.1 (hn.code x hc.1.2) (hn.code y hc.2)
      | block id c => exact code_block (hn.code c hc)
      | scope c => exact code_scope (hn.code c hc)
      | loop c => exact code_loop (hloop c hc)
      | region id ops draw =>
        refine code_region (fun m hm => ?_) (fun m hm => ?_) hmix (by rw [Array.all_toList]; exact hc)
        · exact (ih m hm).call
        · exact (ih m hm).round
      | rangeFunc g ps asg body =>
        simp only [codeOk, Bool.and_eq_true] at hc; exact code_rangeFunc hn.call hc.1.1 hc.1.2 hc.2
theorem sim (hOS : OSim P O) (hP : progOk P = true) (hmix : P.follows .mixedOrders = true) (n : Nat) : SimCall P O n := (all_sim hOS hP hmix n).call
end Go.Abs
