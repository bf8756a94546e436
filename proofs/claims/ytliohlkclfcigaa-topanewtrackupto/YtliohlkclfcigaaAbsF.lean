/- A part of the proof that TopAnewTrack returns true at every input of bulk at most 1048576: what a run leaves alone. -/
import Derived.Test.YtliohlkclfcigaaAbsE
set_option linter.unusedVariables false
set_option linter.unusedSimpArgs false
namespace Go.Abs
theorem AW.wf.lt {W : AW} (h : W.wf) {b : Nat} (hb : W.get b ≠ .none) : b < W.next := by
  rcases Nat.lt_or_ge b W.next with h' | h'
  · exact h'
  · exact absurd (h b h') hb
theorem wf_alloc {W : AW} (h : W.wf) (x : Blk) : (W.alloc x).wf ∧ AFr W (W.alloc x) [] := by
  refine ⟨fun b hb => ?_, ⟨Nat.le_succ _, fun b hb _ => ?_, fun b hb => by simp at hb⟩⟩
  · simp only [AW.alloc] at hb ⊢; rw [if_neg (by omega)]; exact h b (by omega)
  · simp only [AW.alloc]; rw [if_neg (by omega)]
theorem wf_set {W : AW} (h : W.wf) {k : Nat} (hk : k < W.next) (x : Blk) : (W.set k x).wf ∧ AFr W (W.set k x) [k] := by
  refine ⟨fun b hb => ?_, ⟨Nat.le_refl _, fun b hb hn => ?_, fun b hb => by simp at hb; subst hb; exact hk⟩⟩
  · simp only [AW.set] at hb ⊢; rw [if_neg (by omega)]; exact h b hb
  · simp only [AW.set]; rw [if_neg (by simpa using hn)]
theorem wf_put {W W' : AW} (h : W.wf) {a : Addr} {vs : List Value} (hp : W.put a vs = some W') : W'.wf ∧ AFr W W' [a.block] := by
  unfold AW.put at hp; split at hp
  case h_2 => cases hp
  rename_i g cs hg; split at hp <;> cases hp; exact wf_set h (h.lt (by rw [hg]; simp)) _
def Still (W : AW) (r : OpR) : Prop :=
  match r.x with
  | .value _ | .skip => True
  | _ => r.W = W ∧ r.wr = []
structure Good (ro : Option Nat) (np : Prop) (W : AW) (r : OpR) : Prop where
  wf : r.W.wf
  fr : AFr W r.W r.wr
  still : Still W r
  recov : (r.x = .recover → ro = none) ∧ ((r.x = .recover ∨ ∃ f as, r.x = .defer f as) → np)
  rd : ∀ b ∈ r.rd, b < W.next
theorem Good.v {ro : Option Nat} {np : Prop} {W : AW} {r : OpR} (h : r.W.wf ∧ AFr W r.W r.wr) (hx : (match r.x with | .value _ | .skip => True | _ => False)) (hrd : ∀ b ∈ r.rd, b < W.next) : Good ro np W r := by
  refine ⟨h.1, h.2, ?_, ⟨?_, ?_⟩, hrd⟩
  · unfold Still; split <;> first | trivial | (split at hx <;> first | trivial | simp_all)
  · intro h; rw [h] at hx; exact hx.elim
  · rintro (h | ⟨f, as, h⟩) <;> rw [h] at hx <;> exact hx.elim
theorem good_val {ro : Option Nat} {np : Prop} {W : AW} (h : W.wf) (x : ANext) (rd : List Nat) (hx : (x = .recover → ro = none) ∧ ((x = .recover ∨ ∃ f as, x = .defer f as) → np)) (hrd : ∀ b ∈ rd, b < W.next) : Good ro np W ⟨x, W, rd, []⟩ :=
  ⟨h, AFr.refl W, by unfold Still; split <;> first | trivial | exact ⟨rfl, rfl⟩, hx, hrd⟩
theorem row_lt {W : AW} (h : W.wf) {a : Addr} {n : Nat} {vs : List Value} (hr : W.row a n = some vs) : a.block < W.next := by
  unfold AW.row at hr; split at hr
  · rename_i hg; exact h.lt (by rw [hg]; simp)
  · cases hr
theorem put_lt {W W' : AW} (h : W.wf) {a : Addr} {vs : List Value} (hp : W.put a vs = some W') : a.block < W.next := by
  unfold AW.put at hp; split at hp
  · rename_i hg; exact h.lt (by rw [hg]; simp)
  · cases hp
theorem mapOf_lt {W : AW} (h : W.wf) {m : Value} {r : Nat} {es : List MapEntry} {c : Nat} (hm : mapOf W m = some (some r, es, c)) : r < W.next := by
  unfold mapOf at hm; split at hm
  · cases hm
  · split at hm <;> cases hm; rename_i hg; exact h.lt (by rw [hg]; simp)
  · cases hm
theorem src_lt {W : AW} (h : W.wf) {size : Nat} {x : Value} {vs : List Value} {m : Nat} {rd : List Nat} (hs : srcCells W size x = some (vs, m, rd)) : ∀ b ∈ rd, b < W.next := by
  unfold srcCells at hs; split at hs
  · simp only [Option.map_eq_some_iff, Prod.mk.injEq] at hs; obtain ⟨_, hrow, _, _, rfl⟩ := hs; intro b hb; simp at hb; subst hb; exact row_lt h hrow
  · cases hs; intro b hb; simp at hb
  · split at hs <;> cases hs; intro b hb; simp at hb
  · cases hs
theorem one_lt {n c : Nat} (h : c < n) : ∀ b ∈ [c], b < n := fun b hb => by simp at hb; subst hb; exact h
theorem good_map {P : Program} {t : TypeId} {m k v : Value} {W : AW} {r : OpR} (h : W.wf) (hr : mapUpdateA P t m k v W = some r) {ro : Option Nat} {np : Prop} : Good ro np W r := by
  unfold mapUpdateA at hr; split at hr
  case h_2 => cases hr
  split at hr
  case h_2 => cases hr
  rename_i rr es c hm; split at hr
  case isFalse => cases hr
  have hlt : rr < W.next := by
    unfold mapOf at hm; split at hm
    · cases hm
    · split at hm <;> cases hm; rename_i hg; exact h.lt (by rw [hg]; simp)
    · cases hm
  split at hr <;> cases hr <;> exact Good.v (wf_set h hlt _) trivial (one_lt hlt)
theorem good_mapEntry {P : Program} {t : TypeId} {m k : Value} {W : AW} {r : OpR} (h : W.wf) (hr : mapEntryA P t m k W = some r) {ro : Option Nat} {np : Prop} : Good ro np W r := by
  unfold mapEntryA at hr; split at hr
  case h_2 => cases hr
  split at hr
  case h_2 => cases hr
  rename_i rr es c te hm hte; split at hr
  case isFalse => cases hr
  have hlt : rr < W.next := by
    unfold mapOf at hm; split at hm
    · cases hm
    · split at hm <;> cases hm; rename_i hg; exact h.lt (by rw [hg]; simp)
    · cases hm
  split at hr <;> cases hr <;> exact Good.v (wf_set h hlt _) trivial (one_lt hlt)
theorem good_entryStore {m s v : Value} {W : AW} {r : OpR} (h : W.wf) (hr : entryStoreA m s v W = some r) {ro : Option Nat} {np : Prop} : Good ro np W r := by
  unfold entryStoreA at hr; split at hr
  case h_2 => cases hr
  rename_i rr es c k b hm; split at hr <;> cases hr; have hlt : rr < W.next := by
    unfold mapOf at hm; split at hm
    · cases hm
    · split at hm <;> cases hm; rename_i hg; exact h.lt (by rw [hg]; simp)
    · cases hm
  exact Good.v (wf_set h hlt _) trivial (one_lt hlt)
theorem good_append {P : Program} {t : TypeId} {s x : Value} {W : AW} {r : OpR} (h : W.wf) (hr : appendA P t s x W = some r) {ro : Option Nat} {np : Prop} : Good ro np W r := by
  unfold appendA at hr; split at hr
  case h_2 => cases hr
  split at hr
  case h_2 => cases hr
  split at hr
  case h_2 => cases hr
  rename_i new m rd hsrc; have hs := src_lt h hsrc; split at hr
  case isTrue => cases hr
  split at hr
  · split at hr
    · split at hr
      · cases hr; exact good_val h _ _ ⟨(fun h => by cases h), (fun h => by rcases h with h | ⟨_, _, h⟩ <;> cases h)⟩ hs
      · split at hr <;> cases hr; rename_i hp; have h1 := wf_put h hp; have h2 := put_lt h hp; refine Good.v h1 trivial (fun b hb => ?_); rcases List.mem_cons.1 hb with rfl | hb
        · exact h2
        · exact hs b hb
    · cases hr; exact good_val h _ _ ⟨(fun h => by cases h), (fun h => by rcases h with h | ⟨_, _, h⟩ <;> cases h)⟩ hs
  · split at hr
    · split at hr <;> cases hr; exact Good.v (wf_alloc h _) trivial hs
    · split at hr
      case h_2 => cases hr
      rename_i own g cs hg; have hlt := h.lt (b := _) (by rw [hg]; simp); split at hr
      case isFalse => cases hr
      have hrd : ∀ c, c < W.next → ∀ b ∈ c :: rd, b < W.next := fun c hc b hb => by
        rcases List.mem_cons.1 hb with rfl | hb
        · exact hc
        · exact hs b hb
      split at hr
      · cases hr; exact Good.v (wf_alloc h _) trivial (hrd _ hlt)
      · split at hr <;> cases hr; obtain ⟨h1, h2⟩ := wf_set h hlt .gone; obtain ⟨h3, h4⟩ := wf_alloc h1 (.cells true _ _); exact Good.v ⟨h3, by have := h2.trans h4; simpa using this⟩ trivial (hrd _ hlt)
theorem good_copy {P : Program} {t : TypeId} {s x : Value} {W : AW} {r : OpR} (h : W.wf) (hr : copyA P t s x W = some r) {ro : Option Nat} {np : Prop} : Good ro np W r := by
  unfold copyA at hr; split at hr
  case h_2 => cases hr
  split at hr
  case h_2 => cases hr
  split at hr
  · cases hr; exact good_val h _ _ ⟨(fun h => by cases h), (fun h => by rcases h with h | ⟨_, _, h⟩ <;> cases h)⟩ (fun b hb => by simp at hb)
  · split at hr
    case h_2 => cases hr
    split at hr
    case h_2 => cases hr
    rename_i hrow; split at hr <;> cases hr; rename_i hp; have h1 := put_lt h hp; have h2 := row_lt h hrow; exact Good.v (wf_put h hp) trivial (fun c hc => by simp at hc; rcases hc with rfl | rfl; exact h1; exact h2)
theorem good_clear {P : Program} {t : TypeId} {x : Value} {W : AW} {r : OpR} (h : W.wf) (hr : clearA P t x W = some r) {ro : Option Nat} {np : Prop} : Good ro np W r := by
  unfold clearA at hr; split at hr
  case h_2 => cases hr
  split at hr
  case h_2 => cases hr
  split at hr
  case isTrue => cases hr
  split at hr
  case h_2 => cases hr
  split at hr <;> cases hr; rename_i hp; exact Good.v (wf_put h hp) trivial (one_lt (put_lt h hp))
theorem slice_lt {P : Program} {t : TypeId} {x : Value} {lo hi mx : Option Value} {W : AW} (h : W.wf) {r : Value × List Nat} (hr : sliceA P t x lo hi mx W = some r) : ∀ b ∈ r.2, b < W.next := by
  unfold sliceA at hr; split at hr
  case h_1 => cases hr
  split at hr
  · split at hr
    case h_2 => cases hr
    split at hr <;> cases hr; intro b hb; simp at hb
  · split at hr
    case h_2 => cases hr
    split at hr
    case isFalse => cases hr
    split at hr
    · cases hr; intro b hb; simp at hb
    · split at hr <;> cases hr; rename_i hg; refine one_lt (h.lt ?_); intro hn; unfold growOk at hg; rw [hn] at hg; cases hg
  · split at hr
    case h_2 => cases hr
    split at hr
    case isFalse => cases hr
    split at hr <;> cases hr; rename_i hg; exact one_lt (h.lt (by rw [hg]; simp))
  · cases hr
theorem len_lt {P : Program} {t : TypeId} {x : Value} {W : AW} (h : W.wf) {r : Value × List Nat} (hr : lenA P t x W = some r) : ∀ b ∈ r.2, b < W.next := by
  unfold lenA at hr; split at hr
  case h_1 => cases hr
  split at hr
  · cases hr; intro b hb; simp at hb
  · cases hr; intro b hb; simp at hb
  · cases hr; intro b hb; simp at hb
  · cases hr; intro b hb; simp at hb
  · split at hr <;> cases hr; rename_i hg; exact one_lt (h.lt (by rw [hg]; simp))
  · cases hr
theorem aop_good {P : Program} {ro : Option Nat} {env : Env} {o : Oper} {W : AW} {r : OpR} (h : W.wf) (hr : aop P ro env o W = some r) : Good ro (plainOp o = false) W r := by
  obtain ⟨dst, op, ty, pos, after, guard⟩ := o; cases op <;> simp only [aop] at hr
  case move => cases hr; exact good_val h _ _ ⟨(fun h => by cases h), (fun h => by rcases h with h | ⟨_, _, h⟩ <;> cases h)⟩ (fun b hb => by simp at hb)
  case assign => cases hr; exact good_val h _ _ ⟨(fun h => by cases h), (fun h => by rcases h with h | ⟨_, _, h⟩ <;> cases h)⟩ (fun b hb => by simp at hb)
  case pick => simp only [Option.map_eq_some_iff] at hr; obtain ⟨_, _, rfl⟩ := hr; exact good_val h _ _ ⟨(fun h => by cases h), (fun h => by rcases h with h | ⟨_, _, h⟩ <;> cases h)⟩ (fun b hb => by simp at hb)
  case alloc => simp only [Option.map_eq_some_iff] at hr; obtain ⟨_, _, rfl⟩ := hr; exact Good.v (wf_alloc h _) trivial (fun b hb => by simp at hb)
  case box => split at hr <;> cases hr; exact Good.v (wf_alloc h _) trivial (fun b hb => by simp at hb)
  case build =>
    split at hr
    case h_2 => cases hr
    split at hr
    case isTrue => cases hr
    simp only [Option.map_eq_some_iff] at hr; obtain ⟨_, _, rfl⟩ := hr; exact good_val h _ _ ⟨(fun h => by cases h), (fun h => by rcases h with h | ⟨_, _, h⟩ <;> cases h)⟩ (fun b hb => by simp at hb)
  case buildSlice =>
    split at hr
    case h_2 => cases hr
    split at hr
    case h_2 => cases hr
    split at hr
    case isFalse => cases hr
    simp only [Option.map_eq_some_iff] at hr; obtain ⟨_, _, rfl⟩ := hr; exact Good.v (wf_alloc h _) trivial (fun b hb => by simp at hb)
  case insert => exact good_map h hr
  case load =>
    split at hr
    case h_2 => cases hr
    simp only [Option.bind_eq_some_iff, Option.map_eq_some_iff] at hr; obtain ⟨_, hrow, _, _, rfl⟩ := hr; exact good_val h _ _ ⟨(fun h => by cases h), (fun h => by rcases h with h | ⟨_, _, h⟩ <;> cases h)⟩ (one_lt (row_lt h hrow))
  case store =>
    split at hr
    case h_2 => cases hr
    split at hr
    case isFalse => cases hr
    simp only [Option.map_eq_some_iff] at hr; obtain ⟨_, hp, rfl⟩ := hr; exact Good.v (wf_put h hp) trivial (one_lt (put_lt h hp))
  case ready => cases hr
  case waits => cases hr
  case nilCheck =>
    split at hr
    · cases hr; exact good_val h _ _ ⟨(fun h => by cases h), (fun h => by rcases h with h | ⟨_, _, h⟩ <;> cases h)⟩ (fun b hb => by simp at hb)
    · cases hr; exact good_val h _ _ ⟨(fun h => by cases h), (fun h => by rcases h with h | ⟨_, _, h⟩ <;> cases h)⟩ (fun b hb => by simp at hb)
    · cases hr; exact good_val h _ _ ⟨(fun h => by cases h), (fun h => by rcases h with h | ⟨_, _, h⟩ <;> cases h)⟩ (fun b hb => by simp at hb)
    · cases hr; exact good_val h _ _ ⟨(fun h => by cases h), (fun h => by rcases h with h | ⟨_, _, h⟩ <;> cases h)⟩ (fun b hb => by simp at hb)
    · cases hr
  case binOp => simp only [Option.map_eq_some_iff] at hr; obtain ⟨_, _, rfl⟩ := hr; exact good_val h _ _ ⟨(fun h => by cases h), (fun h => by rcases h with h | ⟨_, _, h⟩ <;> cases h)⟩ (fun b hb => by simp at hb)
  case unOp => simp only [Option.map_eq_some_iff] at hr; obtain ⟨_, _, rfl⟩ := hr; exact good_val h _ _ ⟨(fun h => by cases h), (fun h => by rcases h with h | ⟨_, _, h⟩ <;> cases h)⟩ (fun b hb => by simp at hb)
  case convert =>
    split at hr
    case h_2 => cases hr
    split at hr
    · cases hr; exact good_val h _ _ ⟨(fun h => by cases h), (fun h => by rcases h with h | ⟨_, _, h⟩ <;> cases h)⟩ (fun b hb => by simp at hb)
    · split at hr
      case h_2 => cases hr
      cases hr; exact good_val h _ _ ⟨(fun h => by cases h), (fun h => by rcases h with h | ⟨_, _, h⟩ <;> cases h)⟩ (fun b hb => by simp at hb)
    · split at hr
      case h_2 => cases hr
      cases hr; exact Good.v (wf_alloc h _) trivial (fun b hb => by simp at hb)
    · split at hr
      case h_2 => cases hr
      split at hr
      case h_2 => cases hr
      split at hr
      · cases hr; exact good_val h _ _ ⟨(fun h => by cases h), (fun h => by rcases h with h | ⟨_, _, h⟩ <;> cases h)⟩ (fun b hb => by simp at hb)
      · simp only [Option.bind_eq_some_iff, Option.map_eq_some_iff] at hr; obtain ⟨_, hrow, _, _, rfl⟩ := hr; exact good_val h _ _ ⟨(fun h => by cases h), (fun h => by rcases h with h | ⟨_, _, h⟩ <;> cases h)⟩ (one_lt (row_lt h hrow))
    · cases hr
  case sliceToArrayPointer => cases hr
  case makeInterface =>
    split at hr
    case h_2 => cases hr
    split at hr
    case h_1 => cases hr
    cases hr; exact good_val h _ _ ⟨(fun h => by cases h), (fun h => by rcases h with h | ⟨_, _, h⟩ <;> cases h)⟩ (fun b hb => by simp at hb)
  case makeFunc =>
    split at hr
    case h_2 => cases hr
    cases hr; exact good_val h _ _ ⟨(fun h => by cases h), (fun h => by rcases h with h | ⟨_, _, h⟩ <;> cases h)⟩ (fun b hb => by simp at hb)
  case makeMap =>
    split at hr
    case h_2 => cases hr
    split at hr <;> cases hr; exact Good.v (wf_alloc h _) trivial (fun b hb => by simp at hb)
  case makeChan => cases hr
  case makeSlice =>
    split at hr
    case h_2 => cases hr
    split at hr
    case h_2 => cases hr
    split at hr <;> cases hr; exact Good.v (wf_alloc h _) trivial (fun b hb => by simp at hb)
  case slice => simp only [Option.map_eq_some_iff] at hr; obtain ⟨_, hs, rfl⟩ := hr; exact good_val h _ _ ⟨(fun h => by cases h), (fun h => by rcases h with h | ⟨_, _, h⟩ <;> cases h)⟩ (slice_lt h hs)
  case fieldAddr =>
    split at hr
    case h_2 => cases hr
    cases hr; exact good_val h _ _ ⟨(fun h => by cases h), (fun h => by rcases h with h | ⟨_, _, h⟩ <;> cases h)⟩ (fun b hb => by simp at hb)
  case field =>
    split at hr
    case h_2 => cases hr
    simp only [Option.map_eq_some_iff] at hr; obtain ⟨_, _, rfl⟩ := hr; exact good_val h _ _ ⟨(fun h => by cases h), (fun h => by rcases h with h | ⟨_, _, h⟩ <;> cases h)⟩ (fun b hb => by simp at hb)
  case indexAddr => simp only [Option.map_eq_some_iff] at hr; obtain ⟨_, _, rfl⟩ := hr; exact good_val h _ _ ⟨(fun h => by cases h), (fun h => by rcases h with h | ⟨_, _, h⟩ <;> cases h)⟩ (fun b hb => by simp at hb)
  case index => simp only [Option.map_eq_some_iff] at hr; obtain ⟨_, _, rfl⟩ := hr; exact good_val h _ _ ⟨(fun h => by cases h), (fun h => by rcases h with h | ⟨_, _, h⟩ <;> cases h)⟩ (fun b hb => by simp at hb)
  case lookup =>
    unfold lookupA at hr; split at hr
    case h_2 => cases hr
    split at hr
    case h_2 => cases hr
    rename_i rr es c te hm hte; split at hr
    case isFalse => cases hr
    simp only [Option.some.injEq] at hr; subst hr; refine good_val h _ _ ⟨(fun h => by cases h), (fun h => by rcases h with h | ⟨_, _, h⟩ <;> cases h)⟩ (fun b hb => ?_); cases rr with
    | none => simp at hb
    | some rr => simp at hb; subst hb; exact mapOf_lt h hm
  case mapUpdate => exact good_map h hr
  case mapEntry => exact good_mapEntry h hr
  case entryStore => exact good_entryStore h hr
  case range => cases hr
  case next => cases hr
  case entry => cases hr
  case typeAssert =>
    split at hr
    · split at hr
      case h_1 => cases hr
      split at hr
      · cases hr; exact good_val h _ _ ⟨(fun h => by cases h), (fun h => by rcases h with h | ⟨_, _, h⟩ <;> cases h)⟩ (fun b hb => by simp at hb)
      · split at hr <;> cases hr; exact good_val h _ _ ⟨(fun h => by cases h), (fun h => by rcases h with h | ⟨_, _, h⟩ <;> cases h)⟩ (fun b hb => by simp at hb)
    · split at hr
      case h_1 => cases hr
      split at hr <;> cases hr; exact good_val h _ _ ⟨(fun h => by cases h), (fun h => by rcases h with h | ⟨_, _, h⟩ <;> cases h)⟩ (fun b hb => by simp at hb)
    · cases hr
  case extract => simp only [Option.bind_eq_some_iff, Option.map_eq_some_iff] at hr; obtain ⟨_, _, _, _, rfl⟩ := hr; exact good_val h _ _ ⟨(fun h => by cases h), (fun h => by rcases h with h | ⟨_, _, h⟩ <;> cases h)⟩ (fun b hb => by simp at hb)
  case go => cases hr
  case send => cases hr
  case recv => cases hr
  case select => cases hr
  case panic =>
    split at hr
    case h_2 => cases hr
    cases hr; exact good_val h _ _ ⟨(fun h => by cases h), (fun h => by rcases h with h | ⟨_, _, h⟩ <;> cases h)⟩ (fun b hb => by simp at hb)
  case defer =>
    split at hr
    case h_2 => cases hr
    split at hr
    case h_2 => cases hr
    cases hr; exact good_val h _ _ ⟨(fun h => by cases h), (fun _ => rfl)⟩ (fun b hb => by simp at hb)
  case call c =>
    obtain ⟨callee, cargs, cats⟩ := c; dsimp only at hr; split at hr
    · unfold callA at hr; split at hr
      · cases hr; exact good_val h _ _ ⟨(fun h => by cases h), (fun h => by rcases h with h | ⟨_, _, h⟩ <;> cases h)⟩ (fun b hb => by simp at hb)
      · split at hr
        case h_2 => cases hr
        rename_i hg; split at hr <;> cases hr; exact good_val h _ _ ⟨(fun h => by cases h), (fun h => by rcases h with h | ⟨_, _, h⟩ <;> cases h)⟩ (one_lt (h.lt (by rw [hg]; simp)))
      · cases hr
    · split at hr
      · simp only [Option.bind_eq_some_iff] at hr; obtain ⟨_, _, _, _, _, _, hr⟩ := hr; split at hr
        case h_1 => cases hr
        exact good_append h hr
      · simp only [Option.bind_eq_some_iff, Option.map_eq_some_iff] at hr; obtain ⟨_, _, _, hl, rfl⟩ := hr; exact good_val h _ _ ⟨(fun h => by cases h), (fun h => by rcases h with h | ⟨_, _, h⟩ <;> cases h)⟩ (len_lt h hl)
      · simp only [Option.map_eq_some_iff] at hr; obtain ⟨_, _, rfl⟩ := hr; exact good_val h _ _ ⟨(fun h => by cases h), (fun h => by rcases h with h | ⟨_, _, h⟩ <;> cases h)⟩ (fun b hb => by simp at hb)
      · simp only [Option.map_eq_some_iff] at hr; obtain ⟨_, _, rfl⟩ := hr; exact good_val h _ _ ⟨(fun h => by cases h), (fun h => by rcases h with h | ⟨_, _, h⟩ <;> cases h)⟩ (fun b hb => by simp at hb)
      · split at hr
        case h_2 => cases hr
        cases hr; exact good_val h _ _ ⟨(fun _ => rfl), (fun _ => rfl)⟩ (fun b hb => by simp at hb)
      · simp only [Option.bind_eq_some_iff] at hr; obtain ⟨_, _, hr⟩ := hr; exact good_copy h hr
      · simp only [Option.bind_eq_some_iff] at hr; obtain ⟨_, _, hr⟩ := hr; exact good_clear h hr
      · cases hr
    · cases hr
end Go.Abs
namespace Go.Abs
def Task.W : Task → AW
  | .code _ _ _ _ _ W | .ops _ _ _ _ _ _ W | .call _ _ _ W | .round _ _ W | .fin _ _ _ _ W => W
def Res.W : Res → AW
  | .code _ _ _ W _ | .ops _ _ _ W _ | .call _ _ W _ => W
def Res.wr : Res → List Nat
  | .code _ _ _ _ wr => wr
  | .ops _ _ _ _ fps => wrs fps
  | .call _ _ _ wr => wr
def GoodR (W : AW) (r : Res) : Prop := r.W.wf ∧ AFr W r.W r.wr
theorem AFr.cast {A B : AW} {x y : List Nat} (h : x = y) (k : AFr A B x) : AFr A B y := h ▸ k
theorem wrs_one (a : FPr) : wrs [a] = a.wr := by simp [wrs]
theorem ev_good (P : Program) (O : Orc) : ∀ (n : Nat) (t : Task) (r : Res), ev P O n t = some r → t.W.wf → GoodR t.W r := by
  intro n
  induction n with
  | zero => intro t r h; simp [ev] at h
  | succ n ih =>
    intro t r h hw; cases t with
    | code ro sz c env X W =>
      simp only [ev] at h; cases c with
      | skip => cases h; exact ⟨hw, AFr.refl _⟩
      | label l => cases h; exact ⟨hw, AFr.refl _⟩
      | ret => cases h; exact ⟨hw, AFr.refl _⟩
      | exit id => cases h; exact ⟨hw, AFr.refl _⟩
      | goto l => cases h; exact ⟨hw, AFr.refl _⟩
      | refuse w => cases h
      | seq a b =>
        simp only at h; split at h
        · rename_i h1; have g1 := ih _ _ h1 hw; split at h
          case h_2 => cases h
          rename_i h2; have g2 := ih _ _ h2 g1.1; cases h; exact ⟨g2.1, g1.2.trans g2.2⟩
        · rename_i h1; cases h; have g1 := ih _ _ h1 hw; exact g1
        · cases h
      | cond c x y =>
        simp only at h; split at h
        case h_2 => cases h
        have g1 := ih _ _ h hw; exact g1
      | block id c =>
        simp only at h; split at h
        · rename_i h1; cases h; have g1 := ih _ _ h1 hw; exact g1
        · rename_i h1; cases h; have g1 := ih _ _ h1 hw; exact g1
        · cases h
      | scope c =>
        simp only at h; split at h
        · cases h
        · rename_i h1; cases h; have g1 := ih _ _ h1 hw; exact g1
        · cases h
      | loop c =>
        simp only at h; split at h
        · rename_i h1; have g1 := ih _ _ h1 hw; split at h
          case h_2 => cases h
          rename_i h2; have g2 := ih _ _ h2 g1.1; cases h; exact ⟨g2.1, g1.2.trans g2.2⟩
        · rename_i h1; cases h; have g1 := ih _ _ h1 hw; exact g1
        · cases h
      | region id ops draw =>
        simp only at h; split at h
        case isTrue => cases h
        split at h
        case h_2 => cases h
        rename_i h1; have g1 := ih _ _ h1 hw; split at h
        case isTrue => cases h
        split at h
        · cases h; exact g1
        · split at h <;> cases h; exact g1
      | rangeFunc f ps asg body =>
        simp only at h; split at h
        case isTrue => cases h
        split at h
        case h_2 => cases h
        have g0 := wf_alloc hw (.loop .ready none sz env ps.toList asg body); split at h
        · rename_i h1; have g1 := ih _ _ h1 g0.1; split at h
          case h_2 => cases h
          rename_i W' wr _ st pend sz' env' ps' asg' body' hg; split at h
          case isTrue => cases h
          have g2 := wf_set g1.1 (k := W.next) (g1.1.lt (by show W'.get W.next ≠ .none; rw [hg]; simp)) (.loop .exhausted pend sz' env' ps' asg' body'); have g3 := (g0.2.trans g1.2).trans g2.2; split at h
          · cases h; rw [List.nil_append] at g3; exact ⟨g2.1, g3⟩
          · simp only [Option.map_eq_some_iff] at h; obtain ⟨_, _, rfl⟩ := h; rw [List.nil_append] at g3; exact ⟨g2.1, g3⟩
        · rename_i h1; have g1 := ih _ _ h1 g0.1; cases h; have g3 := g0.2.trans g1.2; rw [List.nil_append] at g3; exact ⟨g1.1, g3⟩
        · cases h
    | ops ro sz all rest env X W =>
      simp only [ev] at h; cases rest with
      | nil => cases h; exact ⟨hw, AFr.refl _⟩
      | cons o rest =>
        simp only at h; have cont : ∀ {env2 : Env} {X2 : Aux} {W2 : AW} {fp : FPr}, W2.wf → AFr W W2 fp.wr →
            (match ev P O n (.ops ro sz all rest env2 X2 W2) with
              | some (.ops p env X W fps) => some (Res.ops p env X W (fp :: fps))
              | _ => none) = some r → GoodR W r := by
          intro env2 X2 W2 fp hw2 ha hm; split at hm
          case h_2 => cases hm
          rename_i h1; have g1 := ih _ _ h1 hw2; cases hm; have g3 := ha.trans g1.2; exact ⟨g1.1, g3⟩
        split at h
        case isFalse =>
          split at h
          case h_1 => cases h
          exact cont (fp := ⟨some [], [], W.next, W.next⟩) hw (AFr.refl W) h
        split at h
        case h_1 => cases h
        rename_i q hq; have gq := aop_good hw hq; split at h
        · split at h
          case h_1 => cases h
          exact cont (fp := ⟨some q.rd, q.wr, W.next, q.W.next⟩) gq.wf gq.fr h
        · split at h
          case h_1 => cases h
          exact cont (fp := ⟨some q.rd, q.wr, W.next, q.W.next⟩) gq.wf gq.fr h
        · split at h
          case h_1 => cases h
          exact cont (fp := ⟨some q.rd, q.wr, W.next, q.W.next⟩) gq.wf gq.fr h
        · split at h
          · split at h
            case h_1 => cases h
            exact cont (fp := ⟨some q.rd, q.wr, W.next, q.W.next⟩) gq.wf gq.fr h
          · split at h
            case h_1 => cases h
            exact cont (fp := ⟨some q.rd, q.wr, W.next, q.W.next⟩) gq.wf gq.fr h
        · cases h; refine ⟨gq.wf, ?_⟩; show AFr W q.W (wrs [⟨some q.rd, q.wr, W.next, q.W.next⟩]); rw [wrs_one]; exact gq.fr
        · rename_i f args hx; have hwr : q.W = W ∧ q.wr = [] := by have := gq.still; unfold Still at this; rw [hx] at this; exact this
          have hwq : q.W.wf := gq.wf; split at h
          · rename_i h1; have g1 := ih _ _ h1 hwq; split at h
            case h_1 => cases h
            refine cont (fp := ⟨none, _, W.next, _⟩) g1.1 ?_ h; have := g1.2; rw [show (Task.call f args none q.W).W = W from hwr.1] at this; exact this
          · rename_i h1; have g1 := ih _ _ h1 hwq; cases h; refine ⟨g1.1, ?_⟩; have := g1.2; rw [show (Task.call f args none q.W).W = W from hwr.1] at this; show AFr W _ (wrs [⟨none, _, W.next, _⟩]); rw [wrs_one]; exact this
          · cases h
        · rename_i l args hx; have hwr : q.W = W ∧ q.wr = [] := by have := gq.still; unfold Still at this; rw [hx] at this; exact this
          have hwq : q.W.wf := gq.wf; split at h
          · rename_i h1; have g1 := ih _ _ h1 hwq; split at h
            case h_1 => cases h
            refine cont (fp := ⟨none, _, W.next, _⟩) g1.1 ?_ h; have := g1.2; rw [show (Task.round l args q.W).W = W from hwr.1] at this; exact this
          · rename_i h1; have g1 := ih _ _ h1 hwq; cases h; refine ⟨g1.1, ?_⟩; have := g1.2; rw [show (Task.round l args q.W).W = W from hwr.1] at this; show AFr W _ (wrs [⟨none, _, W.next, _⟩]); rw [wrs_one]; exact this
          · cases h
    | call f args pan W =>
      simp only [ev] at h; split at h
      case h_1 => cases h
      split at h
      case isTrue => cases h
      split at h
      case h_1 => cases h
      split at h
      case h_1 =>
        rename_i hrun; split at hrun
        case isFalse => cases hrun
        cases h; exact O.good _ _ _ _ _ hrun hw
      split at h
      case h_2 => cases h
      rename_i h1; have g1 := ih _ _ h1 hw; split at h
      · split at h
        case h_2 => cases h
        rename_i h2; have g2 := ih _ _ h2 g1.1; cases h; exact ⟨g2.1, g1.2.trans g2.2⟩
      · split at h
        case h_2 => cases h
        rename_i h2; have g2 := ih _ _ h2 g1.1; cases h; exact ⟨g2.1, g1.2.trans g2.2⟩
      · split at h
        case h_2 => cases h
        rename_i h2; have g2 := ih _ _ h2 g1.1; cases h; exact ⟨g2.1, g1.2.trans g2.2⟩
      · cases h
    | fin f env defs mode W =>
      simp only [ev] at h; split at h
      · split at h
        · cases h; exact ⟨hw, AFr.refl _⟩
        · split at h
          case h_1 => cases h
          simp only [Option.map_eq_some_iff] at h; obtain ⟨_, _, rfl⟩ := h; exact ⟨hw, AFr.refl _⟩
      · split at h
        case h_2 => cases h
        rename_i h1; have g1 := ih _ _ h1 hw; split at h
        case h_2 => cases h
        rename_i h2; have g2 := ih _ _ h2 g1.1; cases h; exact ⟨g2.1, g1.2.trans g2.2⟩
    | round l args W =>
      simp only [ev] at h; split at h
      case h_2 => cases h
      split at h
      case isTrue => cases h
      split at h
      case h_2 => cases h
      rename_i h1; have g1 := ih _ _ h1 hw; split at h
      case h_2 => cases h
      rename_i W1 wr1 _ pend sz' env' ps' asg' body' hg; have g2 := wf_set g1.1 (k := l) (g1.1.lt (by show W1.get l ≠ .none; rw [hg]; simp)) (.loop .busy pend sz' env' ps' asg' body'); split at h
      case h_2 => cases h
      rename_i h2; have g3 := ih _ _ h2 g2.1; split at h
      case isFalse => cases h
      have g4 := (g1.2.trans g2.2).trans g3.2; split at h
      · cases h; refine ⟨g3.1, ?_⟩; have e : ∀ x y z : List Nat, (x ++ [l]) ++ y = x ++ l :: y := fun x y _ => by simp
        have g5 := g4; rw [e _ _ []] at g5; exact g5
      · split at h
        case h_2 => cases h
        rename_i sz2 env2 ps2 asg2 body2 hg2; cases h; have g5 := wf_set g3.1 (k := l) (g3.1.lt (fun hh => by cases hg2.symm.trans hh)); have g6 := fun x => g4.trans (g5 x).2; refine ⟨(g5 _).1, ?_⟩; have e : ∀ x y : List Nat, ((x ++ [l]) ++ y) ++ [l] = x ++ l :: (y ++ [l]) := fun x y => by simp
        exact AFr.cast (e _ _) (g6 _)
end Go.Abs
