/- A part of the proof that TopAnewTrack returns true at every input of bulk at most 1048576: regions in every order that may be drawn. -/
import Derived.Test.YtliohlkclfcigaaAbsGa
set_option linter.unusedVariables false
set_option linter.unusedSimpArgs false
namespace Go.Abs
open Go.RowKit (Below)
variable {P : Program} {O : Orc} {φ φ' : Phi} {base : Nat} {H : Nat → Blk} {W W' : AW} {w w' : World}
theorem aEval_congr {e e' : Env} {o : Oper} {all : Array Oper} (h : ∀ t ∈ o.looksAt all, e t = e' t) {x : Operand} (hx : x ∈ o.op.operands.toList) : aEval e x = aEval e' x := by
  cases x with
  | tmp t =>
    refine h t ?_; unfold Oper.looksAt; refine List.mem_append_left _ ?_; simp only [List.mem_filterMap]; exact ⟨.tmp t, hx, rfl⟩
  | _ => rfl
theorem map_congr' {e e' : Env} : ∀ {l : List Operand}, (∀ x ∈ l, aEval e x = aEval e' x) → l.map (aEval e) = l.map (aEval e')
  | [], _ => rfl
  | x :: l, h => by rw [List.map_cons, List.map_cons, h x (by simp), map_congr' (fun y hy => h y (by simp [hy]))]
theorem optmap_congr {e e' : Env} {x : Option Operand} (h : ∀ y ∈ x.toList, aEval e y = aEval e' y) : x.map (aEval e) = x.map (aEval e') := by
  cases x with
  | none => rfl
  | some y => rw [Option.map_some, Option.map_some, h y (by simp)]
theorem parts_congr {e e' : Env} {ps : Array (Nat × Operand)} (h : ∀ y ∈ ps.toList.map (·.2), aEval e y = aEval e' y) :
    ps.toList.map (fun p => (p.1, aEval e p.2)) = ps.toList.map (fun p => (p.1, aEval e' p.2)) ∧ ps.toList.all (fun p => noTup (aEval e p.2)) = ps.toList.all (fun p => noTup (aEval e' p.2)) := by
  generalize ps.toList = l at h
  induction l with
  | nil => exact ⟨rfl, rfl⟩
  | cons p l ih =>
    obtain ⟨h1, h2⟩ := ih (fun y hy => h y (by simp at hy ⊢; exact .inr hy)); have := h p.2 (by simp); constructor
    · rw [List.map_cons, List.map_cons, this, h1]
    · rw [List.all_cons, List.all_cons, this, h2]
theorem aop_congr {ro : Option Nat} {e e' : Env} {o : Oper} (h : ∀ x ∈ o.op.operands.toList, aEval e x = aEval e' x) : aop P ro e o W = aop P ro e' o W := by
  obtain ⟨dst, op, ty, pos, after, guard⟩ := o; cases op with
  | build t ps =>
    obtain ⟨h1, h2⟩ := parts_congr (ps := ps) (e := e) (e' := e') (fun y hy => h y (by simpa [Op.operands] using hy)); simp only [aop, h1, h2]
  | buildSlice t n ps =>
    obtain ⟨h1, h2⟩ := parts_congr (ps := ps) (e := e) (e' := e') (fun y hy => h y (by simpa [Op.operands] using hy)); simp only [aop, h1, h2]
  | makeFunc fn first captured =>
    have h1 := map_congr' (l := first.toList) (e := e) (e' := e') (fun x hx => h x (by simp [Op.operands]; exact .inl (by simpa using hx))); have h2 := map_congr' (l := captured.toList) (e := e) (e' := e') (fun x hx => h x (by simp [Op.operands]; exact .inr (by simpa using hx))); simp only [aop, h1, h2]
  | makeMap t r =>
    have h1 : r.all (fun x => (asInt' (aEval e x)).isSome) = r.all (fun x => (asInt' (aEval e' x)).isSome) := by
      cases r with
      | none => rfl
      | some x => simp only [Option.all_some]; rw [h x (by simp [Op.operands])]
    simp only [aop, h1]
  | slice t x lo hi mx =>
    have h0 := h x (by simp [Op.operands]); have h1 := optmap_congr (x := lo) (e := e) (e' := e') (fun y hy => h y (by simp [Op.operands]; simp at hy; simp [hy])); have h2 := optmap_congr (x := hi) (e := e) (e' := e') (fun y hy => h y (by simp [Op.operands]; simp at hy; simp [hy])); have h3 := optmap_congr (x := mx) (e := e) (e' := e') (fun y hy => h y (by simp [Op.operands]; simp at hy; simp [hy])); simp only [aop, h0, h1, h2, h3]
  | call c =>
    obtain ⟨callee, args, ats⟩ := c; have h1 := map_congr' (l := args.toList) (e := e) (e' := e') (fun x hx => h x (by simp [Op.operands, Call.operands]; exact .inr (by simpa using hx))); cases callee with
    | value f => simp only [aop, h1, h f (by simp [Op.operands, Call.operands])]
    | invoke r m => simp only [aop]
    | builtin b => simp only [aop, h1]
  | defer c =>
    obtain ⟨callee, args, ats⟩ := c; have h1 := map_congr' (l := args.toList) (e := e) (e' := e') (fun x hx => h x (by simp [Op.operands, Call.operands]; exact .inr (by simpa using hx))); cases callee with
    | value f =>
      have hf : aEval e f = aEval e' f := h f (by simp [Op.operands, Call.operands]); cases ro <;> simp only [aop, h1] <;> rw [hf]
    | invoke r m => simp only [aop]
    | builtin b => simp only [aop]
  | alloc t => simp only [aop]
  | ready g => simp only [aop]
  | waits g => simp only [aop]
  | move x => simp only [aop, h x (by simp [Op.operands])]
  | assign x => simp only [aop, h x (by simp [Op.operands])]
  | box t x => simp only [aop, h x (by simp [Op.operands])]
  | load t x => simp only [aop, h x (by simp [Op.operands])]
  | nilCheck x => simp only [aop, h x (by simp [Op.operands])]
  | unOp op t x => simp only [aop, h x (by simp [Op.operands])]
  | convert s d x => simp only [aop, h x (by simp [Op.operands])]
  | makeInterface t x => simp only [aop, h x (by simp [Op.operands])]
  | fieldAddr t x f => simp only [aop, h x (by simp [Op.operands])]
  | field t x f => simp only [aop, h x (by simp [Op.operands])]
  | typeAssert x s t ok => simp only [aop, h x (by simp [Op.operands])]
  | extract x i => simp only [aop, h x (by simp [Op.operands])]
  | panic x => simp only [aop, h x (by simp [Op.operands])]
  | pick c x y => simp only [aop, h c (by simp [Op.operands]), h x (by simp [Op.operands]), h y (by simp [Op.operands])]
  | insert t m k v => simp only [aop, h m (by simp [Op.operands]), h k (by simp [Op.operands]), h v (by simp [Op.operands])]
  | mapUpdate t m k v => simp only [aop, h m (by simp [Op.operands]), h k (by simp [Op.operands]), h v (by simp [Op.operands])]
  | entryStore t m k v => simp only [aop, h m (by simp [Op.operands]), h k (by simp [Op.operands]), h v (by simp [Op.operands])]
  | store t x y => simp only [aop, h x (by simp [Op.operands]), h y (by simp [Op.operands])]
  | binOp op t x y yt => simp only [aop, h x (by simp [Op.operands]), h y (by simp [Op.operands])]
  | makeSlice t x y => simp only [aop, h x (by simp [Op.operands]), h y (by simp [Op.operands])]
  | indexAddr t x y => simp only [aop, h x (by simp [Op.operands]), h y (by simp [Op.operands])]
  | index t x y => simp only [aop, h x (by simp [Op.operands]), h y (by simp [Op.operands])]
  | lookup t x y ok => simp only [aop, h x (by simp [Op.operands]), h y (by simp [Op.operands])]
  | mapEntry t x y => simp only [aop, h x (by simp [Op.operands]), h y (by simp [Op.operands])]
  | sliceToArrayPointer => simp only [aop]
  | makeChan => simp only [aop]
  | range => simp only [aop]
  | next => simp only [aop]
  | entry => simp only [aop]
  | go => simp only [aop]
  | send => simp only [aop]
  | recv => simp only [aop]
  | select => simp only [aop]
theorem wanted_congr {e e' : Env} {o : Oper} {all : Array Oper} (h : ∀ t ∈ o.looksAt all, e t = e' t) : wantedA all e o = wantedA all e' o := by
  unfold wantedA; cases hg : o.guard with
  | none => rfl
  | some g =>
    obtain ⟨j, want⟩ := g; simp only [yieldedA]; cases hd : (all[j]?).bind (·.dst) with
    | none => rfl
    | some d =>
      simp only; rw [h d ?_]; unfold Oper.looksAt; refine List.mem_append_right _ ?_; rw [hg]; simp [hd]
theorem OpRun.congr {N : Nat} {ro : Option Nat} {all : Array Oper} {o : Oper} {e e' : Env} {X X' : Aux} {v : Value} {fp : FPr} (h : ∀ t ∈ o.looksAt all, e t = e' t) (hr : OpRun P O N ro all o e X W X' W' v fp) : OpRun P O N ro all o e' X W X' W' v fp := by
  have h1 := wanted_congr h; have h2 : aop P ro e o W = aop P ro e' o W := aop_congr (fun x hx => aEval_congr h hx); cases hr with
  | skip a => exact .skip (h1 ▸ a)
  | val a r b v c => exact .val (h1 ▸ a) r (h2 ▸ b) v c
  | unit a r b c => exact .unit (h1 ▸ a) r (h2 ▸ b) c
  | defer a r b f args c => exact .defer (h1 ▸ a) r (h2 ▸ b) f args c
  | recov a r b c v d => exact .recov (h1 ▸ a) r (h2 ▸ b) c v d
  | norec a r b c d => exact .norec (h1 ▸ a) r (h2 ▸ b) c d
  | call a r b f args c m hm v W' wr d => exact .call (h1 ▸ a) r (h2 ▸ b) f args c m hm v W' wr d
  | round a r b l args c m hm v W' wr d => exact .round (h1 ▸ a) r (h2 ▸ b) l args c m hm v W' wr d
structure Trace (P : Program) (O : Orc) (N : Nat) (ro : Option Nat) (sz : Nat) (all : Array Oper) (X : Aux) (i q : Nat) (envs : Nat → Env) (Ws : Nat → AW) (vs : Nat → Value) (fs : Nat → FPr) : Prop where
  run : ∀ j, i ≤ j → j < q → ∃ o, all[j]? = some o ∧ OpRun P O N ro all o (envs j) X (Ws j) X (Ws (j + 1)) (vs j) (fs j) ∧ putE sz o.dst (envs j) (vs j) = some (envs (j + 1))
theorem trace_of {N : Nat} {ro : Option Nat} {sz : Nat} {all : Array Oper} (hpl : all.toList.all plainOp = true) : ∀ (rest : List Oper) (n i : Nat) (env : Env) (X : Aux) (W : AW) (p : Option Value) (env' : Env) (X' : Aux) (W' : AW) (fps : List FPr),
    n ≤ N → rest = all.toList.drop i → ev P O n (.ops ro sz all rest env X W) = some (.ops p env' X' W' fps) → W.wf →
    X' = X ∧ ∃ q envs Ws vs fs, i ≤ q ∧ envs i = env ∧ Ws i = W ∧ Trace P O N ro sz all X i q envs Ws vs fs ∧ envs q = env' ∧ (∀ j fp, fps[j]? = some fp → j + i < q → fp = fs (j + i)) ∧
      ((p = none ∧ q = i + rest.length ∧ Ws q = W' ∧ fps.length = q - i) ∨
       (∃ v o fp, p = some v ∧ all[q]? = some o ∧ OpPan P O N ro all o (envs q) X (Ws q) W' v fp ∧ fps.length = q + 1 - i ∧ fps[q - i]? = some fp ∧ fp.wr = fp.wr)) := by
  intro rest
  induction rest with
  | nil =>
    intro n i env X W p env' X' W' fps hn hrest h hwf; cases n with
    | zero => simp [ev] at h
    | succ n =>
      simp only [ev] at h; cases h; exact ⟨rfl, i, fun _ => env, fun _ => W, fun _ => undef, fun _ => ⟨none, [], 0, 0⟩, Nat.le_refl _, rfl, rfl, ⟨fun j h1 h2 => by omega⟩, rfl, fun j fp hj => by simp at hj, .inl ⟨rfl, by simp, rfl, by simp⟩⟩
  | cons o rest ih =>
    intro n i env X W p env' X' W' fps hn hrest h hwf; cases n with
    | zero => simp [ev] at h
    | succ n =>
      have hoi : all[i]? = some o := by
        have h1 : (all.toList.drop i)[0]? = some o := by rw [← hrest]; rfl
        rw [List.getElem?_drop] at h1
        simpa using h1
      have hop : plainOp o = true := List.all_eq_true.1 hpl o (List.mem_of_getElem? (by rw [Array.getElem?_toList]; exact hoi)); have hrest' : rest = all.toList.drop (i + 1) := by
        rw [← List.drop_drop, ← hrest]; rfl
      rcases ops_cons (N := N) (by omega) h with ⟨X1, W1, v, fp, env1, fps', hrun, hput, hev, rfl⟩ | ⟨v, fp, hpan, rfl, rfl, rfl, rfl⟩
      · have hXX := hrun.plain hwf hop; subst hXX; obtain ⟨hX, q, envs, Ws, vs, fs, h1, h2, h3, h4, h5, h6, h7⟩ := ih n (i + 1) env1 X1 W1 p env' X' W' fps' (by omega) hrest' hev (hrun.good hwf).1; refine ⟨hX, q, fun j => if j = i then env else envs j, fun j => if j = i then W else Ws j, fun j => if j = i then v else vs j, fun j => if j = i then fp else fs j, by omega, by simp, by simp, ⟨fun j g1 g2 => ?_⟩, ?_, ?_, ?_⟩
        · by_cases hj : j = i
          · subst hj; refine ⟨o, hoi, ?_, ?_⟩
            · simp only [if_true, show ¬ j + 1 = j by omega, if_false, h3]; exact hrun
            · simp only [if_true, show ¬ j + 1 = j by omega, if_false, h2]; exact hput
          · obtain ⟨o', k1, k2, k3⟩ := h4.run j (by omega) g2; refine ⟨o', k1, ?_, ?_⟩
            · simp only [hj, if_false, show ¬ j + 1 = i by omega]; exact k2
            · simp only [hj, if_false, show ¬ j + 1 = i by omega]; exact k3
        · simp only [show ¬ q = i by omega, if_false]; exact h5
        · intro j fp' hj hq; cases j with
          | zero => simp at hj; simp [hj]
          | succ j =>
            simp at hj; have := h6 j fp' hj (by omega); simp only [show ¬ j + 1 + i = i by omega, if_false]; rw [this]; congr 1; omega
        · rcases h7 with ⟨a1, a2, a3, a4⟩ | ⟨v', o', fp', a1, a2, a3, a4, a5, _⟩
          · refine .inl ⟨a1, by simp; omega, ?_, by simp; omega⟩; simp only [show ¬ q = i by omega, if_false]; exact a3
          · refine .inr ⟨v', o', fp', a1, a2, ?_, by simp; omega, ?_, rfl⟩
            · simp only [show ¬ q = i by omega, if_false]; exact a3
            · rw [show q - i = (q - (i + 1)) + 1 by omega]; simpa using a5
      · refine ⟨rfl, i, fun _ => env', fun _ => W, fun _ => undef, fun _ => ⟨none, [], 0, 0⟩, Nat.le_refl _, rfl, rfl, ⟨fun j h1 h2 => by omega⟩, rfl, fun j fp hj hlt => by omega, .inr ⟨v, o, fp, rfl, hoi, hpan, by simp, by simp, rfl⟩⟩
theorem Trace.facts {N : Nat} {ro : Option Nat} {sz : Nat} {all : Array Oper} {X : Aux} {q : Nat} {envs : Nat → Env} {Ws : Nat → AW} {vs : Nat → Value} {fs : Nat → FPr} (hwf : (Ws 0).wf) (h : Trace P O N ro sz all X 0 q envs Ws vs fs) :
    ∀ j, j ≤ q → (Ws j).wf ∧ ∀ k, k < j → (AFr (Ws k) (Ws (k + 1)) (fs k).wr ∧ (fs k).lo = (Ws k).next ∧ (fs k).hi = (Ws (k + 1)).next ∧ (∀ rd, (fs k).rd = some rd → ∀ b ∈ rd, b < (Ws k).next)) := by
  intro j
  induction j with
  | zero => intro _; exact ⟨hwf, fun k hk => by omega⟩
  | succ j ih =>
    intro hj; obtain ⟨h1, h2⟩ := ih (by omega); obtain ⟨o, _, hrun, _⟩ := h.run j (by omega) (by omega); obtain ⟨g1, g2, g3, g4, g5⟩ := hrun.good h1; refine ⟨g1, fun k hk => ?_⟩; by_cases e : k = j
    · subst e; exact ⟨g2, g3, g4, g5⟩
    · exact h2 k (by omega)
end Go.Abs
namespace Go.Abs
open Go.RowKit (Below)
variable {P : Program} {O : Orc}
theorem Ext.comp {a b c : Phi} {w w1 : World} {lo hi l h : Nat} (hs : w.heap.size ≤ w1.heap.size) (h1 : Ext a b w lo hi) (h2 : Ext b c w1 l h) (hl : lo ≤ l) (hh : h ≤ hi) : Ext a c w lo hi := by
  refine ⟨h1.le.trans h2.le, fun x p hc ha => ?_⟩; cases hb : b x with
  | some q =>
    have := h2.le _ _ hb; rw [hc] at this; cases this; exact h1.new x p hb ha
  | none =>
    obtain ⟨g1, g2, g3⟩ := h2.new x p hc hb; refine ⟨by omega, by omega, ?_⟩; rcases g3 with g3 | ⟨b0, p0, h4, h5⟩
    · exact .inl (by omega)
    · cases ha0 : a b0 with
      | some q => have := h1.le _ _ ha0; rw [h4] at this; cases this; exact .inr ⟨b0, p0, ha0, h5⟩
      | none =>
        obtain ⟨_, _, h6⟩ := h1.new b0 p0 h4 ha0; rcases h6 with h6 | ⟨b1, p1, h7, h8⟩
        · exact .inl (by omega)
        · exact .inr ⟨b1, p1, h7, h8.trans h5⟩
theorem Rel.congr {φ : Phi} {base : Nat} {H H' : Nat → Blk} {w : World} (h : Rel φ base H w) (e : ∀ b p, φ b = some p → H' b = H b) : Rel φ base H' w :=
  ⟨fun b p hb => by rw [e b p hb]; exact h.agree b p hb,
   fun b b' p p' hb hb' hne hp hw => by rw [e b p hb] at hw; rw [e b' p' hb']; exact h.inj b b' p p' hb hb' hne hp hw, h.size, h.lt⟩
theorem putE_other {sz : Nat} {dst : Option Tmp} {e e' : Env} {v : Value} (h : putE sz dst e v = some e') {t : Tmp} (ht : dst ≠ some t) : e' t = e t := by
  unfold putE at h; cases dst with
  | none => simp at h; rw [h]
  | some d =>
    simp only at h; by_cases hd : d < sz
    case neg => rw [if_neg hd] at h; cases h
    rw [if_pos hd] at h; cases h; have : t ≠ d := fun e => ht (by rw [e]); simp [upd, this]
theorem putE_self {sz : Nat} {d : Tmp} {e e' : Env} {v : Value} (h : putE sz (some d) e v = some e') : e' d = v ∧ d < sz := by
  unfold putE at h; simp only at h; by_cases hd : d < sz
  case neg => rw [if_neg hd] at h; cases h
  rw [if_pos hd] at h; cases h; exact ⟨by simp [upd], hd⟩
def Tch (f : FPr) (b : Nat) : Prop := b ∈ f.wr ∨ (f.lo ≤ b ∧ b < f.hi)
instance (f : FPr) (b : Nat) : Decidable (Tch f b) := by unfold Tch; exact inferInstance
def curH (H0 : Nat → Blk) (Ws : Nat → AW) (fs : Nat → FPr) (q : Nat) (E : Nat → Bool) (b : Nat) : Blk :=
  cur (fun j => if j = 0 then H0 b else (Ws j).get b) (fun m => decide (Tch (fs m) b)) E q
def dstOf (all : Array Oper) (m : Nat) : Option Tmp := (all[m]?).bind (·.dst)
def curE (all : Array Oper) (envs : Nat → Env) (q : Nat) (E : Nat → Bool) : Env := fun t => cur (fun j => envs j t) (fun m => decide (dstOf all m = some t)) E q
theorem apartWB_spec {x y : FPr} (h : apartWB x y = true) : ∀ b ∈ x.wr, b ∉ y.wr ∧ ¬ (y.lo ≤ b ∧ b < y.hi) ∧ ∃ rd, y.rd = some rd ∧ b ∉ rd := by
  intro b hb; unfold apartWB at h; rw [Bool.or_eq_true] at h; rcases h with h | h
  · rw [List.isEmpty_iff] at h; rw [h] at hb; simp at hb
  · rw [Bool.and_eq_true, List.all_eq_true] at h; obtain ⟨h1, h2⟩ := h; have h3 := h1 b hb; simp only [Bool.and_eq_true, Bool.not_eq_true', List.contains_eq_mem, decide_eq_false_iff_not, Bool.and_eq_false_iff] at h3; split at h2
    · cases h2
    · rename_i rd hrd; rw [List.all_eq_true] at h2; have h4 := h2 b hb; simp only [Bool.not_eq_true', List.contains_eq_mem, decide_eq_false_iff_not] at h4; refine ⟨h3.1, fun hc => ?_, rd, hrd, h4⟩; rcases h3.2 with h5 | h5
      · exact h5 hc.1
      · exact h5 hc.2
structure Draw (P : Program) (O : Orc) (N : Nat) (ro : Option Nat) (sz : Nat) (all : Array Oper) (X : Aux) (q : Nat) (envs : Nat → Env) (Ws : Nat → AW) (vs : Nat → Value) (fs : Nat → FPr) : Prop where
  tr : Trace P O N ro sz all X 0 q envs Ws vs fs
  wf : (Ws 0).wf
  reg : regionOk all = true
  conf : ∀ i j, i < j → j < q → ordered (Region.before all) i j = true ∨ (apartWB (fs i) (fs j) = true ∧ apartWB (fs j) (fs i) = true)
theorem regionOk_spec {ops : Array Oper} (h : regionOk ops = true) : (ops.toList.all plainOp = true) ∧ (∀ j o, ops[j]? = some o → ∀ e ∈ o.after.toList, Region.binds .any e = true → e.on < j) ∧
    ∀ i j x y, i < j → ops[i]? = some x → ops[j]? = some y → ordered (Region.before ops) i j = true ∨ Oper.apart ops x y = true := by
  unfold regionOk at h; simp only [Bool.and_eq_true, List.all_eq_true, List.mem_range] at h; obtain ⟨h1, h2⟩ := h; refine ⟨by rw [Array.all_toList]; exact h1, fun j o ho e he hb => ?_, fun i j x y hij hx hy => ?_⟩
  · have hj := (Array.getElem?_eq_some_iff.1 ho).1; have h3 := (h2 j hj).1; rw [Array.getD_eq_getD_getElem?, ho, Option.getD_some, ← Array.all_toList, List.all_eq_true] at h3; have := h3 e he
    simpa [hb] using this
  · have hj := (Array.getElem?_eq_some_iff.1 hy).1; have h3 := (h2 j hj).2 i hij; rw [Array.getD_eq_getD_getElem?, hx, Array.getD_eq_getD_getElem?, hy, Option.getD_some, Option.getD_some, Bool.or_eq_true] at h3; exact h3
theorem before_lt {ops : Array Oper} (hback : ∀ j o, ops[j]? = some o → ∀ e ∈ o.after.toList, Region.binds .any e = true → e.on < j) : ∀ (j k : Nat), ((Region.before ops).getD j 0).testBit k = true → k < j := by
  intro j
  induction j using Nat.strongRecOn with
  | _ j ih =>
    intro k hk; cases ho : ops[j]? with
    | none =>
      have : ops.size ≤ j := Array.getElem?_eq_none_iff.1 ho; rw [Array.getD_eq_getD_getElem?, Array.getElem?_eq_none] at hk
      · simp at hk
      · rw [before_eq, ← Array.foldl_toList, (before_list ops.toList #[]).1]; simpa using this
    | some o =>
      obtain ⟨e, he, hb, h⟩ := before_edge ho hk; have := hback j o ho e he hb; rcases h with h | ⟨h1, h2⟩
      · omega
      · have := ih e.on h1 k h2; omega
section draw
variable {N : Nat} {ro : Option Nat} {sz : Nat} {all : Array Oper} {X : Aux} {q : Nat} {envs : Nat → Env} {Ws : Nat → AW} {vs : Nat → Value} {fs : Nat → FPr}
theorem Draw.lo (h : Draw P O N ro sz all X q envs Ws vs fs) {E : Nat → Bool} (hc : Closed all E) {i k : Nat} (hd : DirectOk all E i) (hk : k < i) (ho : ordered (Region.before all) k i = true) : E k = true := by
  unfold ordered at ho; rw [Bool.or_eq_true] at ho; rcases ho with ho | ho
  · exact preds_of_direct hc hd k ho
  · have := before_lt (regionOk_spec h.reg).2.1 _ _ ho; omega
theorem Draw.hi (h : Draw P O N ro sz all X q envs Ws vs fs) {E : Nat → Bool} (hc : Closed all E) {i k : Nat} (hi : E i = false) (hk : i < k) (ho : ordered (Region.before all) i k = true) : E k = false := by
  unfold ordered at ho; rw [Bool.or_eq_true] at ho; rcases ho with ho | ho
  · cases hE : E k with
    | false => rfl
    | true => rw [hc k hE i ho] at hi; cases hi
  · have := before_lt (regionOk_spec h.reg).2.1 _ _ ho; omega
theorem Draw.sel (h : Draw P O N ro sz all X q envs Ws vs fs) {α : Type} {f : Nat → α} {touch E : Nat → Bool} (hf : ∀ m, m < q → touch m = false → f (m + 1) = f m) {i : Nat} (hi : i < q) (hc : Closed all E) (hd : DirectOk all E i) (hE : E i = false)
    (c1 : ∀ k, k < i → touch k = true → ordered (Region.before all) k i = true ∨ E k = true) (c2 : ∀ k, i < k → k < q → touch k = true → ordered (Region.before all) i k = true ∨ E k = false) : cur f touch E q = f i := by
  refine cur_read hf (fun k hk ht => ?_) (by omega) (fun k hk hq ht => ?_)
  · exact (c1 k hk ht).elim (h.lo hc hd hk) id
  · rcases Nat.lt_or_eq_of_le hk with hk | hk
    · exact (c2 k hk hq ht).elim (h.hi hc hE hk) id
    · rw [← hk]; exact hE
theorem Draw.sel' (h : Draw P O N ro sz all X q envs Ws vs fs) {α : Type} {f : Nat → α} {touch E : Nat → Bool} (hf : ∀ m, m < q → touch m = false → f (m + 1) = f m) {i : Nat} (hi : i < q) (hc : Closed all E) (hd : DirectOk all E i) (hE : E i = false)
    (c1 : ∀ k, k < i → touch k = true → ordered (Region.before all) k i = true ∨ E k = true) (c2 : ∀ k, i < k → k < q → touch k = true → ordered (Region.before all) i k = true ∨ E k = false) : cur f touch (addE E i) q = f (i + 1) := by
  refine cur_read hf (fun k hk ht => ?_) (by omega) (fun k hk hq ht => ?_)
  · simp only [addE, Bool.or_eq_true, beq_iff_eq]; rcases Nat.lt_or_eq_of_le (Nat.le_of_lt_succ hk) with hk | hk
    · exact .inl ((c1 k hk ht).elim (h.lo hc hd hk) id)
    · exact .inr hk
  · simp only [addE, Bool.or_eq_false_iff, beq_eq_false_iff_ne]; exact ⟨(c2 k hk hq ht).elim (h.hi hc hE hk) id, by omega⟩
theorem Draw.next (h : Draw P O N ro sz all X q envs Ws vs fs) {j k : Nat} (hj : j ≤ k) (hk : k ≤ q) : (Ws j).next ≤ (Ws k).next := by
  induction k with
  | zero => rw [show j = 0 by omega]; exact Nat.le_refl _
  | succ k ih =>
    rcases Nat.lt_or_eq_of_le hj with hj | hj
    · exact Nat.le_trans (ih (by omega) (by omega)) ((Trace.facts h.wf h.tr (k + 1) hk).2 k (by omega)).1.next
    · rw [hj]; exact Nat.le_refl _
theorem Draw.oper (h : Draw P O N ro sz all X q envs Ws vs fs) {j : Nat} (hj : j < q) : ∃ o, all[j]? = some o ∧ OpRun P O N ro all o (envs j) X (Ws j) X (Ws (j + 1)) (vs j) (fs j) ∧ putE sz o.dst (envs j) (vs j) = some (envs (j + 1)) :=
  h.tr.run j (by omega) hj
theorem Draw.dst (h : Draw P O N ro sz all X q envs Ws vs fs) (t : Tmp) : ∀ m, m < q → (decide (dstOf all m = some t)) = false → envs (m + 1) t = envs m t := by
  intro m hm ht; obtain ⟨o, ho, _, hp⟩ := h.oper hm; refine putE_other hp ?_; simp only [dstOf, ho, Option.bind_some, decide_eq_false_iff_not] at ht; exact ht
theorem Draw.reads (h : Draw P O N ro sz all X q envs Ws vs fs) {E : Nat → Bool} {i : Nat} (hi : i < q) (hc : Closed all E) (hd : DirectOk all E i) (hE : E i = false) {o : Oper} (ho : all[i]? = some o) :
    ∀ t ∈ o.looksAt all, envs i t = curE all envs q E t := by
  intro t ht; symm; refine h.sel (f := fun j => envs j t) (h.dst t) hi hc hd hE (fun k hk hd' => .inl ?_) (fun k hk hq hd' => .inl ?_)
  · obtain ⟨ok, hok, _⟩ := h.oper (show k < q by omega); simp only [dstOf, hok, Option.bind_some, decide_eq_true_eq] at hd'; rcases (regionOk_spec h.reg).2.2 k i ok o hk hok ho with g | g
    · exact g
    · exact absurd ht ((Oper.apart_spec g).1 t hd')
  · obtain ⟨ok, hok, _⟩ := h.oper hq; simp only [dstOf, hok, Option.bind_some, decide_eq_true_eq] at hd'; rcases (regionOk_spec h.reg).2.2 i k o ok hk ho hok with g | g
    · exact g
    · exact absurd ht ((Oper.apart_spec g).2.2 t hd')
theorem Draw.puts (h : Draw P O N ro sz all X q envs Ws vs fs) {E : Nat → Bool} {i : Nat} (hi : i < q) (hc : Closed all E) (hd : DirectOk all E i) (hE : E i = false) {o : Oper} (ho : all[i]? = some o) :
    putE sz o.dst (curE all envs q E) (vs i) = some (curE all envs q (addE E i)) := by
  obtain ⟨o', ho', _, hp⟩ := h.oper hi; rw [ho] at ho'; cases ho'; cases hdst : o.dst with
  | none =>
    simp only [putE]; congr 1; funext t; exact (cur_other (f := fun j => envs j t) (by simp [dstOf, ho, hdst]) q).symm
  | some d =>
    rw [hdst] at hp; obtain ⟨h1, h2⟩ := putE_self hp; simp only [putE, if_pos h2]; congr 1; funext t; by_cases ht : t = d
    · subst ht; have : curE all envs q (addE E i) t = envs (i + 1) t := by
        refine h.sel' (f := fun j => envs j t) (h.dst t) hi hc hd hE (fun k hk hd' => .inl ?_) (fun k hk hq hd' => .inl ?_)
        · obtain ⟨ok, hok, _⟩ := h.oper (show k < q by omega); simp only [dstOf, hok, Option.bind_some, decide_eq_true_eq] at hd'; rcases (regionOk_spec h.reg).2.2 k i ok o hk hok ho with g | g
          · exact g
          · exact absurd hdst ((Oper.apart_spec g).2.1 t hd')
        · obtain ⟨ok, hok, _⟩ := h.oper hq; simp only [dstOf, hok, Option.bind_some, decide_eq_true_eq] at hd'; rcases (regionOk_spec h.reg).2.2 i k o ok hk ho hok with g | g
          · exact g
          · exact absurd hd' ((Oper.apart_spec g).2.1 t hdst)
      rw [this, h1]; simp [upd]
    · have : curE all envs q (addE E i) t = curE all envs q E t := by
        refine cur_other (f := fun j => envs j t) ?_ q; simp only [dstOf, ho, Option.bind_some, hdst, decide_eq_false_iff_not, Option.some.injEq]; exact fun e => ht e.symm
      rw [this]; simp [upd, ht]
theorem Draw.frange (h : Draw P O N ro sz all X q envs Ws vs fs) {k : Nat} (hk : k < q) : AFr (Ws k) (Ws (k + 1)) (fs k).wr ∧ (fs k).lo = (Ws k).next ∧ (fs k).hi = (Ws (k + 1)).next ∧ (∀ rd, (fs k).rd = some rd → ∀ b ∈ rd, b < (Ws k).next) :=
  (Trace.facts h.wf h.tr (k + 1) (by omega)).2 k (by omega)
theorem Draw.wfs (h : Draw P O N ro sz all X q envs Ws vs fs) {k : Nat} (hk : k ≤ q) : (Ws k).wf := (Trace.facts h.wf h.tr k hk).1
theorem Draw.heap (h : Draw P O N ro sz all X q envs Ws vs fs) {H0 : Nat → Blk} {b : Nat} (h0 : H0 b = (Ws 0).get b) :
    ∀ m, m < q → (decide (Tch (fs m) b)) = false → (fun j => if j = 0 then H0 b else (Ws j).get b) (m + 1) = (fun j => if j = 0 then H0 b else (Ws j).get b) m := by
  intro m hm ht; have ht := of_decide_eq_false ht; unfold Tch at ht; rw [not_or] at ht; obtain ⟨g1, g2, g3, _⟩ := h.frange hm; have e1 : (Ws (m + 1)).get b = (Ws m).get b := by
    by_cases hb : b < (Ws m).next
    · exact g1.same b hb ht.1
    · have : (Ws (m + 1)).next ≤ b := by
        rw [g2, g3] at ht; have := ht.2; omega
      rw [h.wfs (show m + 1 ≤ q by omega) b this, h.wfs (show m ≤ q by omega) b (by omega)]
  show (Ws (m + 1)).get b = if m = 0 then H0 b else (Ws m).get b
  rw [e1]; by_cases hz : m = 0
  · subst hz; rw [if_pos rfl, h0]
  · rw [if_neg hz]
theorem Draw.clash (h : Draw P O N ro sz all X q envs Ws vs fs) {i j b : Nat} (hij : i < j) (hj : j < q) (h1 : Tch (fs i) b) (h2 : Tch (fs j) b) : ordered (Region.before all) i j = true := by
  rcases h.conf i j hij hj with g | ⟨g1, g2⟩
  · exact g
  · exfalso; rcases h1 with h1 | h1
    · obtain ⟨a1, a2, _⟩ := apartWB_spec g1 b h1; rcases h2 with h2 | h2
      · exact a1 h2
      · exact a2 h2
    · rcases h2 with h2 | h2
      · exact (apartWB_spec g2 b h2).2.1 h1
      · have e1 := (h.frange (show i < q by omega)).2.2.1; have e2 := (h.frange hj).2.1; have := h.next (j := i + 1) (k := j) hij (by omega)
        omega
end draw
end Go.Abs
