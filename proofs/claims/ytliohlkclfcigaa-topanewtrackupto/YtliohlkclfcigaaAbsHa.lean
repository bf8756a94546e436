/- A part of the proof that TopAnewTrack returns true at every input of bulk at most 1048576: codes and calls, met by the machine. -/
import Derived.Test.YtliohlkclfcigaaAbsGc
import Derived.RangeFuncNested
set_option linter.unusedVariables false
set_option linter.unusedSimpArgs false
namespace Go.Abs
open Go.RowKit (Below)
variable {P : Program} {O : Orc} {φ φ' : Phi} {base lb : Nat} {H : Nat → Blk} {W W' : AW} {w w' : World}
def Arr (P : Program) (φ : Phi) (b : Frame) (k : List Item) (m : Machine) : AExit → Act → List Frame → World → Prop
  | .normal, a, cs, w => Steps P m (lone (b.atR a k) cs w)
  | .exit id, a, cs, w => ∃ k0, exitTo id k0 = exitTo id k ∧ Steps P m (lone (b.atR a (.code (.exit id) :: k0)) cs w)
  | .goto l, a, cs, w => ∃ k0, gotoIn l k0 = gotoIn l k ∧ Steps P m (lone (b.atR a (.code (.goto l) :: k0)) cs w)
  | .ret, a, cs, w => ∃ k0, Steps P m (lone (b.atR a (.code .ret :: k0)) cs w)
  | .panic v, a, cs, w => ∃ v' todo, VR φ v v' ∧ NoCall todo ∧ Steps P m (lone { b.atR a todo with mode := .panicking [{ v := v', recovered := false }] } cs w)
theorem Arr.of_steps {b : Frame} {k : List Item} {m m1 : Machine} {e : AExit} {a : Act} {cs : List Frame} (hs : Steps P m m1) (h : Arr P φ b k m1 e a cs w) : Arr P φ b k m e a cs w := by
  cases e with
  | normal => exact hs.trans h
  | exit id => obtain ⟨k0, h1, h2⟩ := h; exact ⟨k0, h1, hs.trans h2⟩
  | goto l => obtain ⟨k0, h1, h2⟩ := h; exact ⟨k0, h1, hs.trans h2⟩
  | ret => obtain ⟨k0, h2⟩ := h; exact ⟨k0, hs.trans h2⟩
  | panic v => obtain ⟨v', todo, h1, h0, h2⟩ := h; exact ⟨v', todo, h1, h0, hs.trans h2⟩
theorem Arr.pass {b : Frame} {k : List Item} {x : Item} {m : Machine} {e : AExit} {a : Act} {cs : List Frame} (hx : ∀ id, e = .exit id → exitTo id (x :: k) = exitTo id k) (hg : ∀ l, e = .goto l → gotoIn l (x :: k) = gotoIn l k) (hn : e ≠ .normal)
    (h : Arr P φ b (x :: k) m e a cs w) : Arr P φ b k m e a cs w := by
  cases e with
  | normal => exact absurd rfl hn
  | exit id => obtain ⟨k0, h1, h2⟩ := h; exact ⟨k0, h1.trans (hx id rfl), h2⟩
  | goto l => obtain ⟨k0, h1, h2⟩ := h; exact ⟨k0, h1.trans (hg l rfl), h2⟩
  | ret => exact h
  | panic v => exact h
def CodeAt (P : Program) (O : Orc) (n : Nat) (c : Code) (st : List Item → List Item) : Prop :=
  ∀ ro sz env X W e env' X' W' wr, ev P O n (.code ro sz c env X W) = some (.code e env' X' W' wr) → W.wf →
    ∀ (φ : Phi) (base lb : Nat) (H : Nat → Blk) (w : World) (a : Act) (b : Frame) (k : List Item) (cs : List Frame), Rel φ base H w → Dom φ H W → Fresh φ W.next W'.next → TR φ env a.tmps → a.tmps.size = sz → DOk φ lb w X.defs a.defers →
      lb ≤ w.heap.size → RoR φ ro b.roundOf → KindOk φ b.kind cs X.pan →
      ∃ φ' w' a' cs', Out φ φ' base H W W' wr w w' ∧ TR φ' env' a'.tmps ∧ a'.tmps.size = sz ∧ DOk φ' lb w' X'.defs a'.defers ∧ PanR X.pan X'.pan cs cs' ∧ Arr P φ' b k (lone (b.atR a (st k)) cs w) e a' cs' w'
def SimCode (P : Program) (O : Orc) (n : Nat) : Prop := ∀ c, codeOk c = true → CodeAt P O n c fun k => .code c :: k
def SimLoop (P : Program) (O : Orc) (n : Nat) : Prop := ∀ c, codeOk c = true → CodeAt P O n (.loop c) fun k => .code c :: .inLoop c :: k
section steps
variable {b : Frame} {a : Act} {k : List Item} {cs : List Frame}
theorem stepR_scope {c : Code} : step P (lone (b.atR a (.code (.scope c) :: k)) cs w) = .next (lone (b.atR a (.code c :: .inScope c :: k)) cs w) :=
  step_lone_go (by simp [stepG, stepG.exec, Frame.atR])
theorem stepR_inScope {c : Code} : step P (lone (b.atR a (.inScope c :: k)) cs w) = .next (lone (b.atR a k) cs w) :=
  step_lone_go (by simp [stepG, stepG.exec, Frame.atR])
end steps
theorem then_code {n : Nat} {ro : Option Nat} {sz : Nat} {env env1 env2 : Env} {X X1 X2 : Aux} {W1 W2 : AW} {wr1 wr2 : List Nat} {c1 c2 : Code} {e : AExit} {st1 st2 : List Item → List Item} {n2 : Nat}
    (h1 : CodeAt P O n c1 st1) (h2 : CodeAt P O n2 c2 st2) (e1 : ev P O n (.code ro sz c1 env X W) = some (.code .normal env1 X1 W1 wr1)) (e2 : ev P O n2 (.code ro sz c2 env1 X1 W1) = some (.code e env2 X2 W2 wr2)) (hwf : W.wf)
    {a : Act} {b : Frame} {k k1 : List Item} {cs : List Frame} (hr : Rel φ base H w) (hd : Dom φ H W) (hf : Fresh φ W.next W2.next) (hT : TR φ env a.tmps) (hs : a.tmps.size = sz) (hD : DOk φ lb w X.defs a.defers)
    (hlb : lb ≤ w.heap.size) (hro : RoR φ ro b.roundOf) (hK : KindOk φ b.kind cs X.pan) (hmid : ∀ a cs w, Steps P (lone (b.atR a k1) cs w) (lone (b.atR a (st2 k)) cs w)) :
    ∃ φ' w' a' cs', Out φ φ' base H W W2 (wr1 ++ wr2) w w' ∧ TR φ' env2 a'.tmps ∧ a'.tmps.size = sz ∧ DOk φ' lb w' X2.defs a'.defers ∧ PanR X.pan X2.pan cs cs' ∧ Arr P φ' b k (lone (b.atR a (st1 k1)) cs w) e a' cs' w' := by
  have g1 := ev_good P O n _ _ e1 hwf; have g2 := ev_good P O n2 _ _ e2 g1.1; obtain ⟨φ1, w1, a1, cs1, q1, q2, q3, q4, q5, q6⟩ := h1 ro sz env X W _ env1 X1 W1 wr1 e1 hwf φ base lb H w a b k1 cs hr hd (hf.le g2.2.next) hT hs hD hlb hro hK; obtain ⟨φ2, w2, a2, cs2, r1, r2, r3, r4, r5, r6⟩ := h2 ro sz env1 X1 W1 e env2 X2 W2 wr2 e2 g1.1 φ1 base lb _ w1 a1 b k cs1 q1.rel (hd.next q1 g1.2) (hf.next q1 g1.2) q2 q3 q4 (Nat.le_trans hlb q1.keeps.below.size) (hro.mono q1.ext.le) (hK.next q1.ext.le q5); exact ⟨φ2, w2, a2, cs2, Out.trans g1.2 g2.2 q1 r1, r2, r3, r4, q5.trans r5, Arr.of_steps (Steps.trans q6 (hmid _ _ _)) r6⟩
theorem code_seq {n : Nat} {x y : Code} (hx : CodeAt P O n x fun k => .code x :: k) (hy : CodeAt P O n y fun k => .code y :: k) : CodeAt P O (n + 1) (.seq x y) fun k => .code (.seq x y) :: k := by
  intro ro sz env X W e env' X' W' wr h hwf φ base lb H w a b k cs hr hd hf hT hs hD hlb hro hK; simp only [ev] at h; split at h
  · rename_i env1 X1 W1 wr1 e1; split at h
    case h_2 => cases h
    rename_i e2; cases h; obtain ⟨φ2, w2, a2, cs2, r1, r2, r3, r4, r5, r6⟩ := then_code (st1 := fun k => .code x :: k) (st2 := fun k => .code y :: k) (k1 := .code y :: k) (k := k) hx hy e1 e2 hwf hr hd hf hT hs hD hlb hro hK (fun a cs w => Steps.refl _ _); exact ⟨φ2, w2, a2, cs2, r1, r2, r3, r4, r5, Arr.of_steps (.one stepR_seq) r6⟩
  · rename_i hne e1; cases h; obtain ⟨φ2, w2, a2, cs2, r1, r2, r3, r4, r5, r6⟩ := hx ro sz env X W _ _ _ _ _ e1 hwf φ base lb H w a b (.code y :: k) cs hr hd hf hT hs hD hlb hro hK; refine ⟨φ2, w2, a2, cs2, r1, r2, r3, r4, r5, Arr.of_steps (.one stepR_seq) (Arr.pass (x := .code y) (fun _ _ => rfl) (fun _ _ => rfl) (fun he => ?_) r6)⟩; exact hne he
  · cases h
theorem loop_sim {n : Nat} {c : Code} (hc : CodeAt P O n c fun k => .code c :: k) (hl : CodeAt P O n (.loop c) fun k => .code c :: .inLoop c :: k) : CodeAt P O (n + 1) (.loop c) fun k => .code c :: .inLoop c :: k := by
  intro ro sz env X W e env' X' W' wr h hwf φ base lb H w a b k cs hr hd hf hT hs hD hlb hro hK; simp only [ev] at h; split at h
  · rename_i env1 X1 W1 wr1 e1; split at h
    case h_2 => cases h
    rename_i e2; cases h; exact then_code (st1 := fun k => .code c :: k) (st2 := fun k => .code c :: .inLoop c :: k) (k1 := .inLoop c :: k) (k := k) hc hl e1 e2 hwf hr hd hf hT hs hD hlb hro hK (fun a cs w => .one stepR_inLoop)
  · rename_i hne e1; cases h; obtain ⟨φ2, w2, a2, cs2, r1, r2, r3, r4, r5, r6⟩ := hc ro sz env X W _ _ _ _ _ e1 hwf φ base lb H w a b (.inLoop c :: k) cs hr hd hf hT hs hD hlb hro hK; refine ⟨φ2, w2, a2, cs2, r1, r2, r3, r4, r5, Arr.pass (x := .inLoop c) (fun _ _ => rfl) (fun _ _ => rfl) (fun he => ?_) r6⟩; exact hne he
  · cases h
theorem code_loop {n : Nat} {c : Code} (hl : CodeAt P O n (.loop c) fun k => .code c :: .inLoop c :: k) : CodeAt P O n (.loop c) fun k => .code (.loop c) :: k := by
  intro ro sz env X W e env' X' W' wr h hwf φ base lb H w a b k cs hr hd hf hT hs hD hlb hro hK; obtain ⟨φ2, w2, a2, cs2, r1, r2, r3, r4, r5, r6⟩ := hl ro sz env X W e env' X' W' wr h hwf φ base lb H w a b k cs hr hd hf hT hs hD hlb hro hK; exact ⟨φ2, w2, a2, cs2, r1, r2, r3, r4, r5, Arr.of_steps (.one stepR_loop) r6⟩
theorem code_cond {n : Nat} {c : Operand} {x y : Code} (ho : operandOk c = true) (hx : CodeAt P O n x fun k => .code x :: k) (hy : CodeAt P O n y fun k => .code y :: k) : CodeAt P O (n + 1) (.cond c x y) fun k => .code (.cond c x y) :: k := by
  intro ro sz env X W e env' X' W' wr h hwf φ base lb H w a b k cs hr hd hf hT hs hD hlb hro hK; simp only [ev] at h; split at h
  case h_2 => cases h
  rename_i t ht; have hv := hT.eval ho; rw [ht] at hv; have he : a.eval c = .bool t := by generalize a.eval c = q at hv; cases hv; rfl
  have hb : CodeAt P O n (if t then x else y) fun k => .code (if t then x else y) :: k := by cases t <;> assumption
  obtain ⟨φ2, w2, a2, cs2, r1, r2, r3, r4, r5, r6⟩ := hb ro sz env X W e env' X' W' wr h hwf φ base lb H w a b k cs hr hd hf hT hs hD hlb hro hK; exact ⟨φ2, w2, a2, cs2, r1, r2, r3, r4, r5, Arr.of_steps (.one (stepR_cond he)) r6⟩
theorem code_block {n id : Nat} {c : Code} (hc : CodeAt P O n c fun k => .code c :: k) : CodeAt P O (n + 1) (.block id c) fun k => .code (.block id c) :: k := by
  intro ro sz env X W e env' X' W' wr h hwf φ base lb H w a b k cs hr hd hf hT hs hD hlb hro hK; simp only [ev] at h; split at h
  · rename_i id' env1 X1 W1 wr1 e1; cases h; obtain ⟨φ2, w2, a2, cs2, r1, r2, r3, r4, r5, k0, r6, r7⟩ := hc ro sz env X W _ _ _ _ _ e1 hwf φ base lb H w a b (.inBlock id :: k) cs hr hd hf hT hs hD hlb hro hK; refine ⟨φ2, w2, a2, cs2, r1, r2, r3, r4, r5, ?_⟩; by_cases hid : id' = id
    · subst hid; simp only [if_true]; have : exitTo id' k0 = some k := by rw [r6]; simp [exitTo]
      exact (Steps.one stepR_block).trans (r7.trans (.one (stepR_exit this)))
    · simp only [hid, if_false]; refine ⟨k0, ?_, (Steps.one stepR_block).trans r7⟩; rw [r6]; have : ¬ id = id' := fun e => hid e.symm; simp [exitTo, this]
  · rename_i e0 env1 X1 W1 wr1 hne e1; cases h; obtain ⟨φ2, w2, a2, cs2, r1, r2, r3, r4, r5, r6⟩ := hc ro sz env X W _ _ _ _ _ e1 hwf φ base lb H w a b (.inBlock id :: k) cs hr hd hf hT hs hD hlb hro hK; refine ⟨φ2, w2, a2, cs2, r1, r2, r3, r4, r5, Arr.of_steps (.one stepR_block) ?_⟩; cases e with
    | normal => exact Steps.trans r6 (.one stepR_inBlock)
    | exit id' => exact (hne id' rfl).elim
    | goto l => exact Arr.pass (x := .inBlock id) (fun _ he => by cases he) (fun _ _ => rfl) (by simp) r6
    | ret => exact Arr.pass (x := .inBlock id) (fun _ he => by cases he) (fun _ _ => rfl) (by simp) r6
    | panic v => exact Arr.pass (x := .inBlock id) (fun _ he => by cases he) (fun _ _ => rfl) (by simp) r6
  · cases h
theorem code_scope {n : Nat} {c : Code} (hc : CodeAt P O n c fun k => .code c :: k) : CodeAt P O (n + 1) (.scope c) fun k => .code (.scope c) :: k := by
  intro ro sz env X W e env' X' W' wr h hwf φ base lb H w a b k cs hr hd hf hT hs hD hlb hro hK; simp only [ev] at h; split at h
  · cases h
  · rename_i e0 env1 X1 W1 wr1 hne e1; cases h; obtain ⟨φ2, w2, a2, cs2, r1, r2, r3, r4, r5, r6⟩ := hc ro sz env X W _ _ _ _ _ e1 hwf φ base lb H w a b (.inScope c :: k) cs hr hd hf hT hs hD hlb hro hK; refine ⟨φ2, w2, a2, cs2, r1, r2, r3, r4, r5, Arr.of_steps (.one stepR_scope) ?_⟩; cases e with
    | normal => exact Steps.trans r6 (.one stepR_inScope)
    | exit id' => exact Arr.pass (x := .inScope c) (fun _ _ => rfl) (fun _ he => by cases he) (by simp) r6
    | goto l => exact (hne l rfl).elim
    | ret => exact Arr.pass (x := .inScope c) (fun _ he => by cases he) (fun _ he => by cases he) (by simp) r6
    | panic v => exact Arr.pass (x := .inScope c) (fun _ he => by cases he) (fun _ he => by cases he) (by simp) r6
  · cases h
theorem code_region {n id : Nat} {ops : Array Oper} {draw : Bool} (hC : ∀ m, m < n + 1 → SimCall P O m) (hR : ∀ m, m < n + 1 → SimRound P O m) (hmix : P.follows .mixedOrders = true) (hok : ops.toList.all operOk = true) :
    CodeAt P O (n + 1) (.region id ops draw) fun k => .code (.region id ops draw) :: k := by
  intro ro sz env X W e env' X' W' wr h hwf φ base lb H w a b k cs hr hd hf hT hs hD hlb hro hK; simp only [ev] at h; split at h
  · cases h
  rename_i hdr; split at h
  case h_2 => cases h
  rename_i p env1 X1 W1 fps e1; split at h
  · cases h
  rename_i hcf; cases draw with
  | false =>
    have hf' : Fresh φ W.next W1.next := by
      cases p with
      | none => cases h; exact hf
      | some v => simp only [Bool.false_and, Bool.false_eq_true, if_false] at h; cases h; exact hf
    have hfirst : Steps P (lone (b.atR a (.code (.region id ops false) :: k)) cs w) (lone (b.atR a (.inRegion ops (List.range' 0 ops.toList.length) :: k)) cs w) := by
      refine .one ?_; rw [stepR_region, List.range_eq_range']; simp
    have key := ops_text hC hR hok ops.toList n 0 env X W p env1 X1 W1 fps (by omega) (by simp) e1 hwf φ base lb H w a b k cs hr hd hf' hT hs hD hro hK; cases p with
    | none =>
      obtain ⟨φ2, w2, a2, cs2, r1, r2, r3, r4, r5, r6⟩ := key; cases h; exact ⟨φ2, w2, a2, cs2, r1, r2, r3, r4, r5, hfirst.trans r6⟩
    | some v =>
      obtain ⟨φ2, w2, a2, cs2, r1, r2, r3, r4, r5, v', todo, s1, s0, s2⟩ := key; simp only [Bool.false_and, Bool.false_eq_true, if_false] at h; cases h; exact ⟨φ2, w2, a2, cs2, r1, r2, r3, r4, r5, v', todo, s1, s0, hfirst.trans s2⟩
  | true =>
    have hreg : regionOk ops = true := by simpa using hdr
    have hconf : noConfB ops fps = true := by simpa using hcf
    have hpan : p ≠ none → allBefore ops (fps.length - 1) = true := by
      intro hp; cases p with
      | none => exact absurd rfl hp
      | some v =>
        simp only [Bool.true_and] at h; by_cases hb : allBefore ops (fps.length - 1) = true
        · exact hb
        · simp [hb] at h
    have hf' : Fresh φ W.next W1.next := by
      cases p with
      | none => cases h; exact hf
      | some v =>
        simp only [hpan (by simp), Bool.not_true, Bool.and_false, Bool.false_eq_true, if_false] at h; cases h; exact hf
    obtain ⟨φ2, w2, a2, r1, r2, r3, r4, r5, r6⟩ := region_draw hC hR hmix hok hreg (id := id) (k := k) (N := n + 1) (by omega) e1 hconf hpan hwf hr hd hf' hT hs hD hro hK; cases p with
    | none => cases h; exact ⟨φ2, w2, a2, cs, r1, r2, r3, r4, by rw [r5]; exact PanR.refl _ _, r6⟩
    | some v =>
      simp only [hpan (by simp), Bool.not_true, Bool.and_false, Bool.false_eq_true, if_false] at h; cases h; obtain ⟨v', todo, s1, s0, s2⟩ := r6; exact ⟨φ2, w2, a2, cs, r1, r2, r3, r4, by rw [r5]; exact PanR.refl _ _, v', todo, s1, s0, s2⟩
end Go.Abs
namespace Go.Abs
open Go.RowKit (Below)
variable {P : Program} {O : Orc} {φ φ' : Phi} {base lb : Nat} {H : Nat → Blk} {W W' : AW} {w w' : World}
theorem DOk.mark_lt {ds : List (FuncId × List Value)} {dc : List Deferred} (h : DOk φ base w ds dc) : ∀ d ∈ dc, ∀ r, d.target = .collected r → r < w.heap.size := by
  induction h with
  | nil => intro d hd; simp at hd
  | mark r h hφ hb hne t ih =>
    intro d hd r' hr'; rcases List.mem_cons.1 hd with rfl | hd
    · cases hr'; exact (Array.getElem?_eq_some_iff.1 h).1
    · exact ih d hd r' hr'
  | call f h t ih =>
    intro d hd r' hr'; rcases List.mem_cons.1 hd with rfl | hd
    · cases hr'
    · exact ih d hd r' hr'
theorem alloc_get_old (w : World) (o : Obj) {k : Nat} (h : k < w.heap.size) : (w.alloc o).heap[k]? = w.heap[k]? := Below.heap_alloc w o k h
theorem Agree_loop_new {φ' : Phi} (hsz : base ≤ w.heap.size) {r : Loop} {env : Env} {p : PB} (hb : w'.heap[p.blk]? = some (.loop r)) (hbase : base ≤ p.blk) (hT : TR φ' env r.tmps) (h1 : codeOk r.assign = true) (h2 : codeOk r.body = true) :
    Agree φ' base w' (.loop r.state r.pending r.tmps.size env r.params.toList r.assign r.body) p :=
  ⟨r, hb, rfl, rfl, rfl, hT, rfl, rfl, rfl, h1, h2, hbase⟩
theorem enter_loop {ro : Option Nat} {env : Env} {a : Act} {b : Frame} {ps : Array Tmp} {asg body : Code} {X : Aux} (hwf : W.wf) (hr : Rel φ base H w) (hd : Dom φ H W) (hf : φ W.next = none) (hT : TR φ env a.tmps) (hD : DOk φ lb w X.defs a.defers)
    (hlb : lb ≤ w.heap.size) (hro : RoR φ ro b.roundOf) (hrok : roundOk W ro = true) (ha : codeOk asg = true) (hb : codeOk body = true) :
    ∃ l mark w1 φ1 p, (Instr.enterLoop b.fn a.tmps ps asg body b.roundOf).run P w = .ok (l, mark) w1 ∧ φ1 W.next = some p ∧ p.blk = l ∧
      Out φ φ1 base H W (W.alloc (.loop .ready none a.tmps.size env ps.toList asg body)) [] w w1 ∧ DOk φ1 lb w1 X.defs (mark ++ a.defers) := by
  cases ro with
  | none =>
    have hro' : b.roundOf = none := hro; rw [hro']; let r : Loop := { state := .ready, pending := none, fn := b.fn, tmps := a.tmps, params := ps, assign := asg, body, defers := w.heap.size }
    have hw1 : ((w.alloc (.deferred (some []))).alloc (.loop r)).heap[w.heap.size + 1]? = some (.loop r) := by
      have := World.alloc_heap_new (w.alloc (.deferred (some []))) (.loop r)
      simpa using this
    obtain ⟨φ1, h1, h2⟩ := Out.fresh (w' := (w.alloc (.deferred (some []))).alloc (.loop r)) hr hf (.loop .ready none a.tmps.size env ps.toList asg body) ⟨w.heap.size + 1, 0, 0, 0⟩
      (fun c q hq h hl => by have := hr.lt c q hq; simp at h; omega)
      (fun C hC hlt => by rw [alloc_get_old _ _ (by simp; omega), alloc_get_old _ _ hlt])
      (.inl (by simp)) ((Below.refl base w |>.alloc hr.size _).alloc (by simp; have := hr.size; omega) _)
      (fun φ' hle _ => Agree_loop_new (r := r) hr.size hw1 (by have := hr.size; show base ≤ w.heap.size + 1; omega) (hT.mono hle) ha hb)
    refine ⟨_, _, _, φ1, _, run_enterLoop_outer b.fn a.tmps ps asg body, h1, rfl, h2, ?_⟩; refine .mark w.heap.size ?_ (fun c q hq => ?_) hlb (fun d hd' r' hr' => ?_) (hD.out h2)
    · rw [alloc_get_old _ _ (by simp)]; exact World.alloc_heap_new w _
    · cases hc : φ c with
      | some q' => have := h2.ext.le _ _ hc; rw [hq] at this; cases this; have := hr.lt c q hc; omega
      | none =>
        obtain ⟨k1, k2, _⟩ := h2.ext.new c q hq hc; have : c = W.next := by simp [AW.alloc] at k2; omega
        subst this; rw [h1] at hq; cases hq; simp
    · have := hD.mark_lt d hd' r' hr'; omega
  | some l0 =>
    obtain ⟨p0, hp0, hrb⟩ := hro; rw [hrb]; simp only [roundOk] at hrok; split at hrok
    case h_2 => cases hrok
    rename_i st pend sz' env' ps' asg' body' hg; have hl0 : l0 < W.next := by
      rcases Nat.lt_or_ge l0 W.next with h | h
      · exact h
      · rw [hwf l0 h] at hg; cases hg
    have hag := hr.agree l0 p0 hp0; rw [hd l0 p0 hp0 hl0, hg] at hag; obtain ⟨r0, q1, _⟩ := hag; let r : Loop := { state := .ready, pending := none, fn := b.fn, tmps := a.tmps, params := ps, assign := asg, body, defers := r0.defers }
    obtain ⟨φ1, h1, h2⟩ := Out.fresh (w' := w.alloc (.loop r)) hr hf (.loop .ready none a.tmps.size env ps.toList asg body) ⟨w.heap.size, 0, 0, 0⟩
      (fun c q hq h hl => by have := hr.lt c q hq; simp at h; omega)
      (fun C hC hlt => by rw [alloc_get_old _ _ hlt])
      (.inl (by simp)) ((Below.refl base w).alloc hr.size _)
      (fun φ' hle _ => Agree_loop_new (r := r) hr.size (World.alloc_heap_new w _) hr.size (hT.mono hle) ha hb)
    exact ⟨_, _, _, φ1, _, run_enterLoop_inner q1 b.fn a.tmps ps asg body, h1, rfl, h2, hD.out h2⟩
theorem out_loop {l : Nat} {p : PB} {r r' : Loop} {env : Env} (hr : Rel φ base H w) (hl : φ l = some p) (hH : H l = W.get l) (hlive : Writable (W.get l)) (hb : w.heap[p.blk]? = some (.loop r)) (hbase : base ≤ p.blk) (hT : TR φ env r'.tmps)
    (h1 : codeOk r'.assign = true) (h2 : codeOk r'.body = true) :
    Out φ φ base H W (W.set l (.loop r'.state r'.pending r'.tmps.size env r'.params.toList r'.assign r'.body)) [l] w (w.putObj p.blk (.loop r')) := by
  have hlt := (Array.getElem?_eq_some_iff.1 hb).1; refine Out.write hr l p hl hH hlive _ hbase (by simp) (fun C hC => World.putObj_heap_other hC) ⟨rfl, rfl, rfl⟩ ?_; exact ⟨r', World.putObj_heap_same hlt, rfl, rfl, rfl, hT, rfl, rfl, rfl, h1, h2, hbase⟩
theorem code_rangeFunc {n : Nat} {g : Operand} {ps : Array Tmp} {asg body : Code} (hC : SimCall P O n) (hg : operandOk g = true) (ha : codeOk asg = true) (hb : codeOk body = true) : CodeAt P O (n + 1) (.rangeFunc g ps asg body) fun k => .code (.rangeFunc g ps asg body) :: k := by
  intro ro sz env X W e env' X' W' wr h hwf φ base lb H w a b k cs hr hd hf hT hs hD hlb hro hK; simp only [ev] at h; split at h
  · cases h
  rename_i hrok; have hrok : roundOk W ro = true := by simpa using hrok
  split at h
  case h_2 => cases h
  rename_i f first captured hfe
  have hval := hT.eval hg; rw [hfe] at hval; obtain ⟨x', y', hev, hx1, hy1⟩ := hval.fn_inv; have main : ∀ o W2 wr2, ev P O n (.call f (first.toList ++ [.func (.yield W.next) #[] #[]] ++ captured.toList) none (W.alloc (.loop .ready none sz env ps.toList asg body))) = some (.call o none W2 wr2) → W2.next ≤ W'.next →
      ∃ φ2 w2 fr mark p, Out φ φ2 base H W W2 wr2 w w2 ∧ φ2 W.next = some p ∧ DOk φ2 lb w2 X.defs (mark ++ a.defers) ∧
        Steps P (lone (b.atR a (.code (.rangeFunc g ps asg body) :: k)) cs w) (lone fr (b.atR { a with defers := mark ++ a.defers } (.inRangeFunc p.blk :: k) :: cs) w2) ∧ Leaves P φ2 fr .normal w2 o ∧ AFr W W2 wr2 ∧ W2.wf := by
    intro o W2 wr2 he hle; have hwfa := wf_alloc hwf (.loop .ready none sz env ps.toList asg body); have hgood := ev_good P O n _ _ he hwfa.1; have hnx : (W.alloc (.loop .ready none sz env ps.toList asg body)).next ≤ W2.next := hgood.2.next
    have hnx' : W.next < W2.next := by simp [AW.alloc] at hnx; omega
    obtain ⟨l, mark, w1, φ1, p, q1, q2, q3, q4, q5⟩ := enter_loop (P := P) (b := b) (ps := ps) hwf hr hd (hf W.next (Nat.le_refl _) (by omega)) hT hD hlb hro hrok ha hb; subst hs; obtain ⟨fn, bd, c1, c2, c3⟩ := call_runs he; have hargs : LR φ1 (first.toList ++ [.func (.yield W.next) #[] #[]] ++ captured.toList) (x' ++ #[Value.func (.yield l) #[] #[]] ++ y').toList := by
      have h1 := hx1.mono q4.ext.le; have h2 := hy1.mono q4.ext.le; have h3 : VR φ1 (.func (.yield W.next) #[] #[]) (.func (.yield l) #[] #[]) := by rw [← q3]; exact .yield _ p q2
      simpa using h1.append (LR.cons h3 h2)
    have hdom1 := hd.next q4 hwfa.2
    obtain ⟨φ2, w2, fr, cs2, k1, k2, k3, _, k4⟩ := hC f _ none _ o none W2 wr2 he hwfa.1 φ1 base _ w1 (x' ++ #[Value.func (.yield l) #[] #[]] ++ y') .normal (b.atR { a with defers := mark ++ a.defers } (.inRangeFunc l :: k) :: cs) q4.rel hdom1
      (Fresh.next (hf.le hle) q4 hwfa.2) hargs (.inl rfl) (.inl rfl)
    obtain ⟨_, rfl⟩ := k2.none_inv; have hO : Out φ φ2 base H W W2 wr2 w w2 := by
      have := Out.trans hwfa.2 hgood.2 q4 k1; rw [List.nil_append] at this; exact this
    refine ⟨φ2, w2, fr, mark, p, hO, k1.ext.le _ _ q2, q5.out k1, ?_, k4, ?_, hgood.1⟩
    · rw [q3]; refine Steps.head (stepR_rangeFunc (d := ⟨.fn (.func f) y', x' ++ #[Value.func (.yield l) #[] #[]]⟩) (w₁' := w1) (w₂ := w1) (f := f) (args := x' ++ #[Value.func (.yield l) #[] #[]] ++ y') q1 ?_ ?_) k3
      · simp only [resolve, rangeCall, hev, Deferred.ofValue]; simp [Act.eval]
      · simp only [invoke]; exact run_callFunc c1 c2 c3 _
    · have := AFr.trans hwfa.2 hgood.2; rw [List.nil_append] at this; exact this
  split at h
  · rename_i vret W2 wr2 he; split at h
    case h_2 => cases h
    rename_i st pend sz' env2 ps' asg' body' hgl; split at h
    case isTrue => cases h
    rename_i hst; have hWn : W'.next = W2.next := by
      split at h
      · cases h; rfl
      · simp only [Option.map_eq_some_iff] at h; obtain ⟨_, _, h⟩ := h; cases h; rfl
    obtain ⟨φ2, w2, fr, mark, p, m1, m2, m3, m4, m5, m6, m7⟩ := main _ _ _ he (by rw [hWn]; exact Nat.le_refl _); obtain ⟨v', _, hret⟩ := leave_ret (c := b.atR { a with defers := mark ++ a.defers } (.inRangeFunc p.blk :: k)) (cs := cs) m5; have hlt2 : W.next < W2.next := by
      rcases Nat.lt_or_ge W.next W2.next with h' | h'
      · exact h'
      · rw [m7 _ h'] at hgl; cases hgl
    have hdom2 := hd.next m1 m6
    have hag := m1.rel.agree _ p m2; rw [hdom2 _ p m2 hlt2, hgl] at hag; obtain ⟨r, q1, q2, q3, q4, q5, q6, q7, q8, q9, q10, q11⟩ := hag; have hOw := out_loop (W := W2) (r' := { r with state := .exhausted }) m1.rel m2 (hdom2 _ p m2 hlt2) (by rw [hgl]; trivial) q1 q11 q5 (by rw [q7]; exact q9) (by rw [q8]; exact q10); have hOw' : Out φ2 φ2 base (ovl H W2.get W.next W2.next wr2) W2 (W2.set W.next (.loop .exhausted pend sz' env2 ps' asg' body')) [W.next] w2 (w2.putObj p.blk (.loop { r with state := .exhausted })) := by
      rw [← q3, ← q4, ← q6, ← q7, ← q8]; exact hOw
    have hafr := wf_set m7 hlt2 (.loop .exhausted pend sz' env2 ps' asg' body'); have hO := Out.trans m6 hafr.2 m1 hOw'; have hend : (Instr.endLoop p.blk).run P w2 = .ok pend (w2.putObj p.blk (.loop { r with state := .exhausted })) := by
      rw [← q3]; exact run_endLoop q1 (by rw [q2]; exact hst)
    have hst2 : Steps P (lone (b.atR a (.code (.rangeFunc g ps asg body) :: k)) cs w) (lone (b.atR { a with defers := mark ++ a.defers } ((pend.map Item.code).toList ++ k)) cs (w2.putObj p.blk (.loop { r with state := .exhausted }))) := by
      rw [finish_atR_inRangeFunc] at hret; exact m4.trans (hret.trans (.one (stepR_endRangeFunc hend)))
    have hD2 := m3.out hOw'; have hT2 := hT.mono hO.ext.le; cases pend with
    | none =>
      simp only at h; cases h; exact ⟨φ2, _, { a with defers := mark ++ a.defers }, cs, hO, hT2, hs, hD2, PanR.refl _ _, hst2⟩
    | some c =>
      simp only [Option.map_eq_some_iff] at h; obtain ⟨e0, he0, h⟩ := h; cases h; refine ⟨φ2, _, { a with defers := mark ++ a.defers }, cs, hO, hT2, hs, hD2, PanR.refl _ _, ?_⟩; cases c <;> simp [exitOf] at he0
      · subst he0; exact ⟨k, rfl, hst2⟩
      · subst he0; exact ⟨k, rfl, hst2⟩
      · subst he0; exact ⟨k, hst2⟩
  · rename_i v W2 wr2 he; cases h; obtain ⟨φ2, w2, fr, mark, p, m1, m2, m3, m4, m5, m6, m7⟩ := main _ _ _ he (Nat.le_refl _); obtain ⟨v', hv, hpan⟩ := leave_pan (c := b.atR { a with defers := mark ++ a.defers } (.inRangeFunc p.blk :: k)) (cs := cs) m5; refine ⟨φ2, w2, { a with defers := mark ++ a.defers }, cs, m1, hT.mono m1.ext.le, hs, m3, PanR.refl _ _, v', .inRangeFunc p.blk :: k, hv, trivial, ?_⟩; rw [Frame.raise_atR] at hpan; exact m4.trans hpan
  · cases h
end Go.Abs
