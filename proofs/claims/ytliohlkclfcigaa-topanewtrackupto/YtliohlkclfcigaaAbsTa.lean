/- A part of the proof that TopAnewTrack returns true at every input of bulk at most 1048576: an evaluator for the kernel. -/
import Derived.Test.YtliohlkclfcigaaAbsT1
set_option linter.unusedVariables false
set_option linter.unusedSimpArgs false
namespace Go.Abs
variable {P : Program}
inductive OC where
  | mov (x : Operand)
  | pick (c a b : Operand)
  | bin (f : Value → Value → Option Value) (x y : Operand)
  | un (op : UnOp) (x : Operand)
  | ext (x : Operand) (i : Nat)
  | fld (x : Operand) (off size : Nat) (ag : Bool)
  | fad (x : Operand) (off : Nat)
  | iad (x ix : Operand) (size : Nat)
  | load (x : Operand) (size : Nat) (ag : Bool)
  | store (x y : Operand) (size : Nat)
  | alloc (cs : List Value)
  | box (x : Operand)
  | nilc (x : Operand) (o : Oper)
  | callv (f : Operand) (args : List Operand)
  | len (x : Operand)
  | build (pl : List (Nat × Nat)) (zs : List Value) (ps : List (Nat × Operand))
  | conv (k : IntKind) (x : Operand)
  | max (x y : Operand) (o : Oper)
  | sil (o : Oper)
  | gen (o : Oper)
noncomputable def cO (P : Program) (o : Oper) : OC :=
  match o.op with
  | .move x | .assign x => .mov x
  | .pick c a b => .pick c a b
  | .binOp op t x y _ => .bin (binC P op t (isLit y)) x y
  | .unOp op _ x => .un op x
  | .extract x i => .ext x i
  | .field s x f => match fieldOf P s f with
    | some (off, t) => match tinfo P t with
      | some ti => .fld x off ti.size ti.agg
      | none => .gen o
    | none => .gen o
  | .fieldAddr s x f => match fieldOf P s f with
    | some (off, _) => .fad x off
    | none => .gen o
  | .indexAddr t x ix => match tinfo P t with
    | some ⟨_, _, .slice el, _, _⟩ => match tinfo P el with
      | some te => .iad x ix te.size
      | none => .gen o
    | _ => .gen o
  | .load t x => match tinfo P t with
    | some ti => if 0 < ti.size then .load x ti.size ti.agg else .gen o
    | none => .gen o
  | .store t x y => match tinfo P t with
    | some ti => .store x y ti.size
    | none => .gen o
  | .alloc t => match tinfo P t with
    | some ti => .alloc (cellsOf ti.zero)
    | none => .gen o
  | .box _ x => .box x
  | .nilCheck x => .nilc x o
  | .call ⟨.value f, args, _⟩ => .callv f args.toList
  | .call ⟨.builtin .len, ⟨[x]⟩, ts⟩ => match ts[0]? with
    | some t => match tinfo P t with
      | some ⟨_, _, .slice _, _, _⟩ => .len x
      | _ => .gen o
    | none => .gen o
  | .call ⟨.builtin .max, ⟨[x, y]⟩, _⟩ => .max x y o
  | .build t ps => match tinfo P t, places P t with
    | some ti, some pl => .build pl (cellsOf ti.zero) ps.toList
    | _, _ => .gen o
  | .convert s d x => match tinfo P s, tinfo P d with
    | some _, some ⟨_, _, .int k, _, _⟩ => .conv k x
    | _, _ => .gen o
  | _ => if silent o then .sil o else .gen o
inductive TStep where
  | bad
  | val (v : Value)
  | mem (v : Value) (H : HT) (rd wr : List Nat)
  | enter (f : FuncId) (args : List Value) (rd : List Nat)
  | round (l : Nat) (args : List Value) (rd : List Nat)
noncomputable def aEvalT (e : TE) (x : Operand) : Value :=
  Operand.rec (motive := fun _ => Value) (fun t => eget e t) (fun v => v) (fun g => .pointer (some ⟨g, 0, none⟩)) (fun f => .func (.func f) #[] #[]) x
theorem aEvalT_eq (e : TE) (x : Operand) : aEvalT e x = aEval (toE e) x := by cases x <;> rfl
noncomputable def ofV (x : Option Value) : TStep := Option.rec (motive := fun _ => TStep) .bad (fun v => .val v) x
noncomputable def cellsT (v : Value) : List Value := Option.rec (motive := fun _ => List Value) [v] (fun l => l) (vAgg v)
theorem cellsT_eq (v : Value) : cellsT v = cellsOf v := by cases v <;> rfl
noncomputable def noTupT (v : Value) : Bool := Option.rec (motive := fun _ => Bool) true (fun _ => false) (vTup v)
theorem noTupT_eq (v : Value) : noTupT v = noTup v := by cases v <;> rfl
noncomputable def fillT (e : TE) (pl : List (Nat × Nat)) (ps : List (Nat × Operand)) : List Value → Option (List Value) :=
  List.rec (motive := fun _ => List Value → Option (List Value)) (fun cs => some cs)
    (fun p _ ih cs => Option.rec (motive := fun _ => Option (List Value)) none
      (fun q => Bool.rec (motive := fun _ => Option (List Value)) none
        (Bool.rec (motive := fun _ => Option (List Value)) none
          (Option.rec (motive := fun _ => Option (List Value)) none (fun cs' => ih cs') (setT q.1 (cellsT (aEvalT e p.2)) cs))
          (noTupT (aEvalT e p.2)))
        (Nat.beq (lenT (cellsT (aEvalT e p.2))) q.2))
      (nth pl p.1)) ps
theorem fillT_some {e : TE} {pl : List (Nat × Nat)} : ∀ (ps : List (Nat × Operand)) (cs r : List Value), fillT e pl ps cs = some r →
    (ps.all fun p => noTup (aEval (toE e) p.2)) = true ∧ fillL pl cs (ps.map fun p => (p.1, aEval (toE e) p.2)) = some r := by
  intro ps
  induction ps with
  | nil => intro cs r h; exact ⟨rfl, h⟩
  | cons p ps ih =>
    intro cs r h; change Option.rec (motive := fun _ => Option (List Value)) none
      (fun q => Bool.rec (motive := fun _ => Option (List Value)) none
        (Bool.rec (motive := fun _ => Option (List Value)) none
          (Option.rec (motive := fun _ => Option (List Value)) none (fun cs' => fillT e pl ps cs') (setT q.1 (cellsT (aEvalT e p.2)) cs))
          (noTupT (aEvalT e p.2)))
        (Nat.beq (lenT (cellsT (aEvalT e p.2))) q.2))
      (nth pl p.1) = some r at h
    rw [aEvalT_eq, cellsT_eq, lenT_eq, noTupT_eq, nth_eq] at h; cases hq : pl[p.1]? with
    | none => rw [hq] at h; cases h
    | some q =>
      rw [hq] at h; simp only at h; cases h1 : Nat.beq (cellsOf (aEval (toE e) p.2)).length q.2 with
      | false => rw [h1] at h; cases h
      | true =>
        rw [h1] at h; simp only at h; cases h2 : noTup (aEval (toE e) p.2) with
        | false => rw [h2] at h; cases h
        | true =>
          rw [h2] at h; simp only at h; cases h3 : setT q.1 (cellsOf (aEval (toE e) p.2)) cs with
          | none => rw [h3] at h; cases h
          | some cs' =>
            rw [h3] at h; obtain ⟨g1, g2⟩ := ih cs' r h; obtain ⟨k1, k2⟩ := setT_some _ _ _ _ h3; have hl : (cellsOf (aEval (toE e) p.2)).length = q.2 := Tr.beq_iff.1 h1; refine ⟨by rw [List.all_cons, h2, g1]; rfl, ?_⟩; obtain ⟨off, size⟩ := q; rw [List.map_cons]; simp only [fillL, hq]; rw [if_pos ⟨hl, by simp only at hl k1; omega⟩, ← k2]; exact g2
noncomputable def mapE (e : TE) (l : List Operand) : List Value := List.rec (motive := fun _ => List Value) [] (fun x _ ih => aEvalT e x :: ih) l
theorem mapE_eq (e : TE) : ∀ l : List Operand, mapE e l = l.map (aEval (toE e))
  | [] => rfl
  | x :: l => by show aEvalT e x :: mapE e l = _; rw [mapE_eq e l, aEvalT_eq]; rfl
def silT (P : Program) (ro : Option Nat) (e : Env) (o : Oper) (W : AW) : Option Value :=
  match aop P ro e o W with
  | some r => match r.x with
    | .value v => some v
    | _ => none
  | none => none
noncomputable def takeAll (W : AW) (bs : List Nat) : Tr KB → Option (Tr KB) :=
  List.rec (motive := fun _ => Tr KB → Option (Tr KB)) (fun t => some t) (fun b _ ih t => Option.rec (motive := fun _ => Option (Tr KB)) none (fun k => ih (Tr.set t b k)) (fromB (W.get b))) bs
noncomputable def genT (P : Program) (ro : Option Nat) (e : TE) (o : Oper) (H : HT) : TStep :=
  match aop P ro (toE e) o (toW H) with
  | some r =>
    match takeAll r.W (r.wr ++ (List.range (r.W.next - H.next)).map (H.next + ·)) H.tr with
    | some t => match r.x with
      | .value v => .mem v ⟨r.W.next, t⟩ r.rd r.wr
      | .skip => .mem undef ⟨r.W.next, t⟩ r.rd r.wr
      | _ => .bad
    | none => .bad
  | none => .bad
noncomputable def kbCells (x : Option KB) : Option (Bool × Nat × List Value) :=
  Option.rec (motive := fun _ => Option (Bool × Nat × List Value)) none (fun k => KB.rec (motive := fun _ => Option (Bool × Nat × List Value)) none (fun o g cs => some (o, g, cs)) (fun _ _ => none) (fun _ _ _ _ _ _ _ => none) k) x
theorem kbCells_some {x : Option KB} {o : Bool} {g : Nat} {cs : List Value} (h : kbCells x = some (o, g, cs)) : x = some (.cells o g cs) := by
  cases x with
  | none => cases h
  | some k => cases k <;> first | (cases h; done) | (cases h; rfl)
noncomputable def loadT (H : HT) (a : Addr) (size : Nat) (ag : Bool) : Option Value :=
  Option.rec (motive := fun _ => Option Value) none
    (fun c => Option.rec (motive := fun _ => Option Value) none
      (fun vs => Bool.rec (motive := fun _ => Option Value) (List.rec (motive := fun _ => Option Value) none (fun v _ _ => some v) vs) (some (.agg ⟨vs⟩)) ag)
      (rowT a.off size c.2.2)) (kbCells (Tr.get H.tr a.block))
theorem loadT_some {H : HT} {a : Addr} {size : Nat} {ag : Bool} {v : Value} (hs : 0 < size) (h : loadT H a size ag = some v) (ti : TI) (h1 : ti.size = size) (h2 : ti.agg = ag) :
    ((toW H).row a ti.size).bind (mkV ti) = some v := by
  unfold loadT at h; cases hc : kbCells (Tr.get H.tr a.block) with
  | none => rw [hc] at h; cases h
  | some c =>
    rw [hc] at h; simp only at h; obtain ⟨o, g, cs⟩ := c; simp only at h; have hk := toW_get (kbCells_some hc); cases hr : rowT a.off size cs with
    | none => rw [hr] at h; cases h
    | some vs =>
      rw [hr] at h; simp only at h; obtain ⟨k1, k2⟩ := rowT_some hs hr; have : (toW H).row a ti.size = some vs := by
        simp only [AW.row, hk, toB, h1]; rw [if_pos k1, k2]
      rw [this]; simp only [Option.bind_some, mkV, h2]; cases ag with
      | true => exact h
      | false =>
        cases vs with
        | nil => cases h
        | cons v' _ => exact h
noncomputable def callT' (H : HT) (v : Value) (args : List Value) : TStep :=
  Option.rec (motive := fun _ => TStep) .bad
    (fun p => match p.1 with
      | .func g => .enter g (p.2.1 ++ args ++ p.2.2) []
      | .yield l => match Tr.get H.tr l with
        | some (.loop _ _ sz _ ps _ _) => if (p.2.1 ++ args).length = ps.length ∧ ps.all (fun t => decide (t < sz)) then .round l (p.2.1 ++ args) [l] else .bad
        | _ => .bad
      | _ => .bad) (vFn v)
noncomputable def stepO (P : Program) (c : OC) (ro : Option Nat) (e : TE) (H : HT) : TStep :=
  OC.rec (motive := fun _ => TStep)
    (fun x => .val (aEvalT e x))
    (fun c a b => Option.rec (motive := fun _ => TStep) .bad (fun t => .val (Bool.rec (motive := fun _ => Value) (aEvalT e b) (aEvalT e a) t)) (vBool (aEvalT e c)))
    (fun f x y => ofV (f (aEvalT e x) (aEvalT e y)))
    (fun op x => ofV (unV op (aEvalT e x)))
    (fun x i => Option.rec (motive := fun _ => TStep) .bad (fun l => ofV (nth l i)) (vTup (aEvalT e x)))
    (fun x off size ag => Option.rec (motive := fun _ => TStep) .bad
      (fun cs => Bool.rec (motive := fun _ => TStep) (ofV (nth cs off)) (Option.rec (motive := fun _ => TStep) .bad (fun r => .val (.agg ⟨r⟩)) (takeT size (dropT off cs))) ag) (vAgg (aEvalT e x)))
    (fun x off => Option.rec (motive := fun _ => TStep) .bad (fun a => .val (.pointer (some ⟨a.block, a.off + off, none⟩))) (vPtr (aEvalT e x)))
    (fun x ix size => Option.rec (motive := fun _ => TStep) .bad
      (fun s => Option.rec (motive := fun _ => TStep) .bad
        (fun a => Option.rec (motive := fun _ => TStep) .bad
          (fun q => Int.rec (motive := fun _ => TStep)
            (fun i => Bool.rec (motive := fun _ => TStep) .bad (.val (.pointer (some ⟨a.block, a.off + i * size, none⟩))) (Nat.ble (Nat.succ i) s.2))
            (fun _ => .bad) q.2)
          (vInt (aEvalT e ix))) s.1) (vSlice (aEvalT e x)))
    (fun x size ag => Option.rec (motive := fun _ => TStep) .bad (fun a => Option.rec (motive := fun _ => TStep) .bad (fun v => .mem v H [a.block] []) (loadT H a size ag)) (vPtr (aEvalT e x)))
    (fun x y size => Option.rec (motive := fun _ => TStep) .bad
      (fun a => Bool.rec (motive := fun _ => TStep) .bad
        (Bool.rec (motive := fun _ => TStep) .bad
          (Option.rec (motive := fun _ => TStep) .bad
            (fun c => Bool.rec (motive := fun _ => TStep) .bad
              (Option.rec (motive := fun _ => TStep) .bad (fun cs => .mem undef (H.set a.block (.cells true c.2.1 cs)) [a.block] [a.block]) (setT a.off (cellsT (aEvalT e y)) c.2.2)) c.1)
            (kbCells (Tr.get H.tr a.block)))
          (Nat.beq (lenT (cellsT (aEvalT e y))) size)) (noTupT (aEvalT e y))) (vPtr (aEvalT e x)))
    (fun cs => .mem (.pointer (some ⟨H.next, 0, none⟩)) (H.alloc (.cells true 0 cs)) [] [])
    (fun x => Bool.rec (motive := fun _ => TStep) .bad (.mem (.pointer (some ⟨H.next, 0, none⟩)) (H.alloc (.cells true 0 (cellsT (aEvalT e x)))) [] []) (noTupT (aEvalT e x)))
    (fun x o => Option.rec (motive := fun _ => TStep) (ofV (silT P ro (toE e) o (toW H))) (fun a => .val (.pointer (some a))) (vPtr (aEvalT e x)))
    (fun f args => callT' H (aEvalT e f) (mapE e args))
    (fun x => Option.rec (motive := fun _ => TStep) .bad (fun s => .val (.int .i64 (Int.ofNat s.2))) (vSlice (aEvalT e x)))
    (fun pl zs ps => Option.rec (motive := fun _ => TStep) .bad (fun cs => .val (.agg ⟨cs⟩)) (fillT e pl ps zs))
    (fun k x => Option.rec (motive := fun _ => TStep) .bad (fun q => .val (.int k (wrapF k q.2))) (vInt (aEvalT e x)))
    (fun x y o => Option.rec (motive := fun _ => TStep) .bad
      (fun p => Option.rec (motive := fun _ => TStep) .bad (fun q => .val (.int p.1 (Bool.rec (motive := fun _ => Int) p.2 q.2 (ltI p.2 q.2)))) (vInt (aEvalT e y))) (vInt (aEvalT e x)))
    (fun o => ofV (silT P ro (toE e) o (toW H)))
    (fun o => genT P ro e o H)
    c
def STok (P : Program) (ro : Option Nat) (e : TE) (o : Oper) (H : HT) : TStep → Prop
  | .bad => True
  | .val v => aop P ro (toE e) o (toW H) = some ⟨.value v, toW H, [], []⟩
  | .mem v H' rd wr => ∃ x, aop P ro (toE e) o (toW H) = some ⟨x, toW H', rd, wr⟩ ∧ (x = .value v ∨ (x = .skip ∧ v = undef))
  | .enter f args rd => aop P ro (toE e) o (toW H) = some ⟨.enter f args, toW H, rd, []⟩
  | .round l args rd => aop P ro (toE e) o (toW H) = some ⟨.round l args, toW H, rd, []⟩
theorem ofV_ok {ro : Option Nat} {e : TE} {o : Oper} {H : HT} {x : Option Value} (h : ∀ v, x = some v → aop P ro (toE e) o (toW H) = some ⟨.value v, toW H, [], []⟩) : STok P ro e o H (ofV x) := by
  cases x with
  | none => trivial
  | some v => exact h v rfl
theorem silT_ok {ro : Option Nat} {e : TE} {o : Oper} {H : HT} (hs : silent o = true) : STok P ro e o H (ofV (silT P ro (toE e) o (toW H))) := by
  refine ofV_ok fun v hv => ?_; unfold silT at hv; cases hr : aop P ro (toE e) o (toW H) with
  | none => rw [hr] at hv; cases hv
  | some r =>
    rw [hr] at hv; obtain ⟨g1, g2, g3, v', g4⟩ := silent_quiet hs hr; simp only [g4] at hv; cases hv; obtain ⟨x, W, rd, wr⟩ := r; simp only at g1 g2 g3 g4; subst g1; subst g2; subst g3; subst g4; rfl
theorem takeAll_get (W : AW) : ∀ (bs : List Nat) (t t' : Tr KB), takeAll W bs t = some t' → ∀ b, (match Tr.get t' b with
    | some x => toB x
    | none => Blk.none) = if b ∈ bs then W.get b else (match Tr.get t b with
    | some x => toB x
    | none => Blk.none) := by
  intro bs
  induction bs with
  | nil => intro t t' h b; cases h; simp
  | cons c bs ih =>
    intro t t' h b; change Option.rec (motive := fun _ => Option (Tr KB)) none (fun k => takeAll W bs (Tr.set t c k)) (fromB (W.get c)) = some t' at h; cases hk : fromB (W.get c) with
    | none => rw [hk] at h; cases h
    | some k =>
      rw [hk] at h; rw [ih _ _ h b, Tr.get_set]; by_cases h1 : b ∈ bs
      · rw [if_pos h1, if_pos (List.mem_cons_of_mem _ h1)]
      · rw [if_neg h1]; by_cases h2 : b = c
        · subst h2; rw [if_pos rfl, if_pos (List.mem_cons_self ..)]; exact toB_fromB hk
        · rw [if_neg h2, if_neg (by simp [h1, h2])]
theorem genT_ok {ro : Option Nat} {e : TE} {o : Oper} {H : HT} (hwf : (toW H).wf) : STok P ro e o H (genT P ro e o H) := by
  unfold genT; cases hr : aop P ro (toE e) o (toW H) with
  | none => trivial
  | some r =>
    simp only; cases ht : takeAll r.W (r.wr ++ (List.range (r.W.next - H.next)).map (H.next + ·)) H.tr with
    | none => trivial
    | some t =>
      simp only; have hg := aop_good hwf hr; have hW : toW ⟨r.W.next, t⟩ = r.W := by
        have key : ∀ b, (toW ⟨r.W.next, t⟩).get b = r.W.get b := by
          intro b; show (match Tr.get t b with
            | some x => toB x
            | none => Blk.none) = _
          rw [takeAll_get _ _ _ _ ht b]; split
          · rfl
          · rename_i hb; simp only [List.mem_append, List.mem_map, List.mem_range, not_or, not_exists, not_and] at hb; show (toW H).get b = _; by_cases hlt : b < H.next
            · exact (hg.fr.same b hlt hb.1).symm
            · have : r.W.next ≤ b := by
                apply Nat.le_of_not_lt; intro hc; exact hb.2 (b - H.next) (by omega) (by omega)
              rw [hwf b (Nat.le_of_not_lt hlt), hg.wf b this]
        have : (toW ⟨r.W.next, t⟩).get = r.W.get := funext key
        calc toW ⟨r.W.next, t⟩ = ⟨(toW ⟨r.W.next, t⟩).next, (toW ⟨r.W.next, t⟩).get⟩ := rfl
          _ = ⟨r.W.next, r.W.get⟩ := by rw [this]; rfl
      cases hx : r.x with
      | value v => exact ⟨r.x, by rw [hr, hW], .inl hx⟩
      | skip => exact ⟨r.x, by rw [hr, hW], .inr ⟨hx, rfl⟩⟩
      | _ => trivial
end Go.Abs
namespace Go.Abs
variable {P : Program}
theorem stepO_ok {ro : Option Nat} {e : TE} {o : Oper} {H : HT} (hwf : (toW H).wf) : STok P ro e o H (stepO P (cO P o) ro e H) := by
  have hgen : STok P ro e o H (stepO P (.gen o) ro e H) := genT_ok hwf; have hsil : silent o = true → STok P ro e o H (stepO P (.sil o) ro e H) := fun h => silT_ok h; have hrest : STok P ro e o H (stepO P (if silent o then .sil o else .gen o) ro e H) := by
    by_cases h : silent o = true
    · rw [if_pos h]; exact hsil h
    · rw [if_neg h]; exact hgen
  obtain ⟨dst, op, ty, pos, after, guard⟩ := o; cases op
  case move x => simp only [cO, stepO, STok, aop, okV, aEvalT_eq]
  case assign x => simp only [cO, stepO, STok, aop, okV, aEvalT_eq]
  case pick c a b =>
    simp only [cO, stepO, aEvalT_eq]; cases h : vBool (aEval (toE e) c) with
    | none => trivial
    | some t =>
      simp only [STok, aop, vBool_some h, asBool', Option.map_some, okV]; cases t <;> rfl
  case binOp op t x y u =>
    simp only [cO, stepO, aEvalT_eq, binC_eq]; refine ofV_ok fun v hv => ?_; simp only [aop, hv, Option.map_some, okV]
  case unOp op t x =>
    simp only [cO, stepO, aEvalT_eq]; refine ofV_ok fun v hv => ?_; simp only [aop, hv, Option.map_some, okV]
  case extract x i =>
    simp only [cO, stepO, aEvalT_eq]; cases h : vTup (aEval (toE e) x) with
    | none => trivial
    | some l =>
      simp only; refine ofV_ok fun v hv => ?_; obtain ⟨cs, h1, h2⟩ := vTup_some h; rw [nth_eq] at hv; simp only [aop, h2, asTuple, h1, Option.bind_some, hv, Option.map_some, okV]
  case field s x f =>
    simp only [cO]; cases hf : fieldOf P s f with
    | none => exact hgen
    | some q =>
      obtain ⟨off, t⟩ := q; simp only; cases ht : tinfo P t with
      | none => exact hgen
      | some ti =>
        simp only [stepO, aEvalT_eq]; cases h : vAgg (aEval (toE e) x) with
        | none => trivial
        | some l =>
          obtain ⟨cs, h1, h2⟩ := vAgg_some h; simp only; have hp : ∀ v, partV P t l off = some v → aop P ro (toE e) ⟨dst, .field s x f, ty, pos, after, guard⟩ (toW H) = some ⟨.value v, toW H, [], []⟩ := by
            intro v hv; simp only [aop, hf, h2, asAgg', h1, hv, Option.map_some, okV]
          cases hag : ti.agg with
          | false =>
            simp only; refine ofV_ok fun v hv => ?_; rw [nth_eq] at hv; exact hp v (by simp only [partV, ht, hag]; exact hv)
          | true =>
            simp only; cases hr : takeT ti.size (dropT off l) with
            | none => trivial
            | some r =>
              obtain ⟨_, k2⟩ := takeT_some _ _ _ hr; rw [dropT_eq] at k2; exact hp _ (by simp only [partV, ht, hag, if_true, k2])
  case fieldAddr s x f =>
    simp only [cO]; cases hf : fieldOf P s f with
    | none => exact hgen
    | some q =>
      obtain ⟨off, t⟩ := q; simp only [stepO, aEvalT_eq]; cases h : vPtr (aEval (toE e) x) with
      | none => trivial
      | some a => simp only [STok, aop, hf, vPtr_some h, asPtr, okV]
  case indexAddr t x ix =>
    simp only [cO]; split
    · rename_i el ht; split
      · rename_i te hte; simp only [stepO, aEvalT_eq]; cases h : vSlice (aEval (toE e) x) with
        | none => trivial
        | some s =>
          obtain ⟨a, n⟩ := s; obtain ⟨c, hc⟩ := vSlice_some h; simp only; cases a with
          | none => trivial
          | some a =>
            simp only; cases hi : vInt (aEval (toE e) ix) with
            | none => trivial
            | some q =>
              obtain ⟨k, i⟩ := q; simp only; cases i with
              | negSucc i => trivial
              | ofNat i =>
                simp only; cases hb : Nat.ble (Nat.succ i) n with
                | false => trivial
                | true =>
                  have hlt : i < n := Nat.le_of_ble_eq_true hb; simp only [STok, aop, indexAddrA, ht, hc, vInt_some hi, asInt', hte]; rw [if_pos ⟨by simp, by simpa using hlt⟩]; simp [okV]
      · exact hgen
    · exact hgen
  case load t x =>
    simp only [cO]; cases ht : tinfo P t with
    | none => exact hgen
    | some ti =>
      simp only; by_cases hs : 0 < ti.size
      · rw [if_pos hs]; simp only [stepO, aEvalT_eq]; cases h : vPtr (aEval (toE e) x) with
        | none => trivial
        | some a =>
          simp only; cases hl : loadT H a ti.size ti.agg with
          | none => trivial
          | some v =>
            refine ⟨.value v, ?_, .inl rfl⟩; have := loadT_some hs hl ti rfl rfl; simp only [aop, ht, vPtr_some h, asPtr]; rw [Option.bind_eq_some_iff] at this; obtain ⟨vs, k1, k2⟩ := this; rw [k1]; simp only [Option.bind_some, k2, Option.map_some]
      · rw [if_neg hs]; exact hgen
  case store t x y =>
    simp only [cO]; cases ht : tinfo P t with
    | none => exact hgen
    | some ti =>
      simp only [stepO, aEvalT_eq, cellsT_eq, noTupT_eq, lenT_eq]; cases h : vPtr (aEval (toE e) x) with
      | none => trivial
      | some a =>
        simp only; cases h1 : noTup (aEval (toE e) y) with
        | false => trivial
        | true =>
          simp only; cases h2 : Nat.beq (cellsOf (aEval (toE e) y)).length ti.size with
          | false => trivial
          | true =>
            simp only; cases h3 : kbCells (Tr.get H.tr a.block) with
            | none => trivial
            | some c =>
              obtain ⟨o, g, cs⟩ := c; simp only; cases o with
              | false => trivial
              | true =>
                simp only; cases h4 : setT a.off (cellsOf (aEval (toE e) y)) cs with
                | none => trivial
                | some cs' =>
                  refine ⟨.skip, ?_, .inr ⟨rfl, rfl⟩⟩; obtain ⟨k1, k2⟩ := setT_some _ _ _ _ h4; simp only [aop, ht, vPtr_some h, asPtr]; rw [if_pos ⟨Tr.beq_iff.1 h2, h1⟩]; simp only [AW.put, toW_get (kbCells_some h3), toB]; rw [if_pos k1, Option.map_some, k2, toW_set]; rfl
  case alloc t =>
    simp only [cO]; cases ht : tinfo P t with
    | none => exact hgen
    | some ti =>
      refine ⟨_, ?_, .inl rfl⟩; simp only [aop, ht, Option.map_some, toW_alloc]; rfl
  case box t x =>
    simp only [cO, stepO, aEvalT_eq, cellsT_eq, noTupT_eq]; cases h1 : noTup (aEval (toE e) x) with
    | false => trivial
    | true =>
      refine ⟨_, ?_, .inl rfl⟩; simp only [aop, h1, Bool.true_eq_false, if_false, toW_alloc]; rfl
  case nilCheck x =>
    simp only [cO, stepO, aEvalT_eq]; cases h : vPtr (aEval (toE e) x) with
    | none => exact hsil rfl
    | some a => simp only [STok, aop, vPtr_some h, okV]
  case build t ps =>
    simp only [cO]; split
    · rename_i ti pl ht hpl; simp only [stepO]; cases h : fillT e pl ps.toList (cellsOf ti.zero) with
      | none => trivial
      | some cs =>
        obtain ⟨k1, k2⟩ := fillT_some _ _ _ h; simp only [STok, aop, ht, hpl, k1, k2, Bool.true_eq_false, if_false, Option.map_some, okV]
    · exact hgen
  case convert s d x =>
    simp only [cO]; split
    · rename_i ts _ _ k _ _ hs hd; simp only [stepO, aEvalT_eq]; cases h : vInt (aEval (toE e) x) with
      | none => trivial
      | some q =>
        obtain ⟨j, n⟩ := q; simp only [STok, aop, hs, hd, vInt_some h, wrapF_eq, okV]
    · exact hgen
  case call c =>
    obtain ⟨callee, args, ats⟩ := c; cases callee with
    | invoke r m => exact hrest
    | value f =>
      simp only [cO, stepO, callT', mapE_eq, aEvalT_eq]; cases h : vFn (aEval (toE e) f) with
      | none => trivial
      | some p =>
        obtain ⟨fn, a, b⟩ := p; obtain ⟨x, y, hx, hy, hv⟩ := vFn_some h; simp only; cases fn with
        | func g => simp only [STok, aop, hv, callA, hx, hy]
        | yield l =>
          simp only; split
          · rename_i st pd sz env ps asg bd hl; split
            · rename_i hc; simp only [STok, aop, hv, callA, hx, toW_get hl, toB]; rw [if_pos hc]
            · trivial
          · trivial
        | _ => trivial
    | builtin b =>
      cases b
      case len =>
        obtain ⟨args⟩ := args
        match args with
        | [] => exact hrest
        | [x] =>
          simp only [cO]; split
          · rename_i t h0; split
            · rename_i el _ h1; simp only [stepO, aEvalT_eq]; cases h : vSlice (aEval (toE e) x) with
              | none => trivial
              | some s =>
                obtain ⟨a, n⟩ := s; obtain ⟨c, hc⟩ := vSlice_some h; simp only [STok, aop, List.map_cons, List.map_nil, h0, Option.bind_some, lenA, h1, hc, Option.map_some]; rfl
            · exact hgen
          · exact hgen
        | _ :: _ :: _ => exact hrest
      case max =>
        obtain ⟨args⟩ := args
        match args with
        | [] => exact hrest
        | [_] => exact hrest
        | [x, y] =>
          simp only [cO, stepO, aEvalT_eq]; cases h : vInt (aEval (toE e) x) with
          | none => trivial
          | some p =>
            obtain ⟨k, a⟩ := p; simp only; cases h' : vInt (aEval (toE e) y) with
            | none => trivial
            | some q =>
              obtain ⟨j, b⟩ := q; simp only [STok, aop, List.map_cons, List.map_nil, vInt_some h, vInt_some h', foldA, max2A, Option.map_some, okV, ltI_eq]; by_cases hlt : a < b
              · rw [decide_eq_true hlt, if_pos hlt]
              · rw [decide_eq_false hlt, if_neg hlt]
        | _ :: _ :: _ :: _ => exact hrest
      all_goals exact hrest
  all_goals exact hrest
end Go.Abs
