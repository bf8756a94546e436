/- A part of the proof that TopAnewTrack returns true at every input of bulk at most 1048576: each operation, met by the machine. -/
import Derived.Test.YtliohlkclfcigaaAbsDa
set_option linter.unusedVariables false
set_option linter.unusedSimpArgs false
namespace Go.Abs
open Go.RowKit (Below)
variable {P : Program} {φ : Phi} {base : Nat} {H : Nat → Blk} {W : AW} {w : World}
theorem fit1_eq {k : TK} {v v' : Value} (h : fit1 k v = true) (hv : VR φ v v') : v' = v := by
  cases hv <;> first | rfl | (cases k <;> simp [fit1] at h)
theorem fits_LR_eq : ∀ {ks : List TK} {vs vs' : List Value}, fits ks vs = true → LR φ vs vs' → vs' = vs
  | _, [], _, _, h => by cases h; rfl
  | [], v :: vs, _, h, _ => by simp [fits] at h
  | k :: ks, v :: vs, _, h, hl => by
    simp only [fits, Bool.and_eq_true] at h; cases hl with
    | cons hv ht => rw [fit1_eq h.1 hv, fits_LR_eq h.2 ht]
theorem fits_eq {ks : List TK} {v v' : Value} (h : fits ks (cellsOf v) = true) (hv : VR φ v v') : v' = v := by
  cases hv with
  | agg cs cs' hs h' h1 =>
    have := fits_LR_eq h (LR.arr hs h'); rw [show cs' = cs from Array.ext' this]
  | _ => exact fit1_eq (φ := φ) (k := ks.headD .other) (by cases ks <;> simp [cellsOf, fits] at h ⊢; exact h.1) (by constructor <;> assumption)
theorem run_checkKey_flat (em : Bool) : ∀ (d : Nat) (t : TypeId) (ks : List TK), flatKinds P d t = some ks → ∀ (n : Nat), d ≤ n → ∀ (x : Value), AggFits P t x →
    fits ks (cellsOf x) = true → ∀ w, (Instr.checkKey em n t x).run P w = .ok () w
  | 0, t, ks, h, _, _, _, _, _, _ => by simp [flatKinds] at h
  | d + 1, t, ks, h, 0, hn, _, _, _, _ => by omega
  | d + 1, t, ks, h, n + 1, hn, x, hx, fx, w => by
    obtain ⟨_, hc⟩ := flatKinds_inv h; unfold AggFits at hx; rcases hc with ⟨hu, rfl⟩ | ⟨k, hu, rfl⟩ | ⟨hu, rfl⟩ | ⟨fs, hu, hp, hfs⟩
    · simp only [Instr.checkKey, Sem.run_bind, run_underlying hu, Result.andThen_ok]; rfl
    · simp only [Instr.checkKey, Sem.run_bind, run_underlying hu, Result.andThen_ok]; rfl
    · simp only [Instr.checkKey, Sem.run_bind, run_underlying hu, Result.andThen_ok]; rfl
    · rw [hu] at hx; obtain ⟨xs, rfl⟩ := hx; simp only [Instr.checkKey, Sem.run_bind, run_underlying hu, Result.andThen_ok]; have key : ∀ (l : List Field) (off : Nat) (ls : List TK), flatFields (flatKinds P d) l off = some ls → fits ls (xs.toList.drop off) = true →
          ∀ w, (forIn l PUnit.unit (fun (f : Field) (_ : PUnit) => do
            if f.name ≠ "_" then
              let a ← part f.type xs f.offset
              Instr.checkKey em n f.type a
              pure (ForInStep.yield PUnit.unit)
            else pure (ForInStep.yield PUnit.unit))).run P w = .ok PUnit.unit w := by
        intro l
        induction l with
        | nil => intro off ls _ _ w; rfl
        | cons f l ih =>
          intro off ls h1 h2 w; unfold flatFields at h1; split at h1
          case isTrue => cases h1
          rename_i hno; rw [not_or, Classical.not_not] at hno; obtain ⟨hnm, hoff⟩ := hno; split at h1
          case h_1 => cases h1
          rename_i kf hkf; split at h1
          case h_1 => cases h1
          rename_i r hr; cases h1; obtain ⟨a1, a2⟩ := fits_append h2; cases d with
          | zero => simp [flatKinds] at hkf
          | succ d =>
            obtain ⟨v, v1, v2, v3⟩ := run_part_flat (P := P) (w := w) hkf xs off a1; have he := run_checkKey_flat em (d + 1) f.type kf hkf n (by omega) v v3 (by rw [v2]; exact a1) w; have hrest := ih (off + kf.length) r hr (by simpa [List.drop_drop] using a2) w; simp only [List.forIn_cons, Sem.run_bind]; rw [if_pos hnm, hoff]; simp only [Sem.run_bind, v1, Result.andThen_ok, he, Sem.run_pure]; exact hrest
      have := key fs.toList 0 ks hfs (by simpa [cellsOf] using fx) w; rw [Array.forIn_toList] at this; simp only [ne_eq, ite_not, Sem.run_pure] at this ⊢; simp only [bind_pure_comp] at this ⊢; rw [this]; rfl
theorem aggFits_of {t : TypeId} {ti : TI} (ht : tinfo P t = some ti) {ks : List TK} (hk : flatKinds P 8 t = some ks) {v : Value} (hf : fits ks (cellsOf v) = true) (ha : isAggV v = ti.agg) : AggFits P t v := by
  have hT := tinfo_facts ht; obtain ⟨d, hd, hu, _⟩ := hT.und; obtain ⟨_, hc⟩ := flatKinds_inv hk; unfold AggFits; rw [hT.aggk, ← hd] at ha; rcases hc with ⟨hu', rfl⟩ | ⟨k, hu', rfl⟩ | ⟨hu', rfl⟩ | ⟨fs, hu', _, _⟩ <;> rw [hu] at hu' <;> cases hu' <;> rw [hu]
  · intro cs h; subst h; simp [isAggV, kindOf, isAggK] at ha
  · intro cs h; subst h; simp [isAggV, kindOf, isAggK] at ha
  · intro cs h; subst h; simp [isAggV, kindOf, isAggK] at ha
  · cases v <;> simp [isAggV, kindOf, isAggK] at ha; exact ⟨_, rfl⟩
def FindR (φ : Phi) : Option (Nat × Value) → Option (Nat × Value) → Prop
  | none, none => True
  | some (i, v), some (j, v') => i = j ∧ VR φ v v'
  | _, _ => False
theorem run_findAsking {kt : TypeId} {k : Value} (heq : ∀ (x : Value), sameKinds (cellsOf k) (cellsOf x) = true → (∃ ks, fits ks (cellsOf x) = true ∧ flatKinds P 8 kt = some ks) → AggFits P kt x → ∀ w, (Op.equal kt k x).run P w = .ok (flatEq k x) w) :
    ∀ {es es' : List MapEntry}, ER φ es es' → (∀ e ∈ es, sameKinds (cellsOf k) (cellsOf e.key) = true ∧ (∃ ks, fits ks (cellsOf e.key) = true ∧ flatKinds P 8 kt = some ks) ∧ AggFits P kt e.key) →
      ∀ (i : Nat) (w : World), ∃ r, (Instr.findAsking kt k es' i).run P w = .ok r w ∧ FindR φ (findE k es i) r := by
  intro es es' h
  induction h with
  | nil => intro _ i w; exact ⟨none, rfl, trivial⟩
  | @cons e e' l l' hk hv hb t ih =>
    intro hall i w; obtain ⟨g1, ⟨ks, g2, g3⟩, g4⟩ := hall e (by simp); have hkey : e'.key = e.key := fits_eq g2 hk; unfold Instr.findAsking findE; simp only [Sem.run_bind, hkey, heq e.key g1 ⟨ks, g2, g3⟩ g4 w, Result.andThen_ok]; cases flatEq k e.key with
    | true => exact ⟨some (i, e'.val), rfl, rfl, hv⟩
    | false => simpa using ih (fun x hx => hall x (by simp [hx])) (i + 1) w
theorem sameNow_flat {d : TypeDesc} {k x : Value} (hd : (d = .bool ∨ (∃ j, d = .int j) ∨ d = .string)) {ks : List TK} (hks : (d = .bool → ks = [.bool]) ∧ (∀ j, d = .int j → ks = [.int j]) ∧ (d = .string → ks = [.string]))
    (h1 : fits ks (cellsOf k) = true) (h2 : fits ks (cellsOf x) = true) (hk : ∀ cs, k ≠ .agg cs) (hx : ∀ cs, x ≠ .agg cs) (h3 : sameKinds (cellsOf k) (cellsOf x) = true) : Instr.sameNow d k x = some (flatEq k x) := by
  rcases hd with rfl | ⟨j, rfl⟩ | rfl
  · obtain rfl := hks.1 rfl; cases k <;> simp [cellsOf, fits, fit1] at h1 hk; cases x <;> simp [cellsOf, fits, fit1] at h2 hx; simp [Instr.sameNow, flatEq, cellsOf, allEq, scalarEq]
  · obtain rfl := hks.2.1 j rfl; cases k <;> simp [cellsOf, fits, fit1] at h1 hk; cases x <;> simp [cellsOf, fits, fit1] at h2 hx; simp [cellsOf, sameKinds, sameKind1] at h3; subst h3; simp [Instr.sameNow, flatEq, cellsOf, allEq, scalarEq]
  · obtain rfl := hks.2.2 rfl; cases k <;> simp [cellsOf, fits, fit1] at h1 hk; cases x <;> simp [cellsOf, fits, fit1] at h2 hx; simp [Instr.sameNow, flatEq, cellsOf, allEq, scalarEq]
theorem findNow_flat {d : TypeDesc} {k : Value} : ∀ {es es' : List MapEntry}, ER φ es es' → (∀ e ∈ es, (∃ ks, fits ks (cellsOf e.key) = true) ∧ Instr.sameNow d k e.key = some (flatEq k e.key)) →
    ∀ (i : Nat), ∃ r, Instr.findNow d k es' i = some r ∧ FindR φ (findE k es i) r := by
  intro es es' h
  induction h with
  | nil => intro _ i; exact ⟨none, rfl, trivial⟩
  | @cons e e' l l' hk hv hb t ih =>
    intro hall i; obtain ⟨⟨ks, g1⟩, g2⟩ := hall e (by simp); have hkey : e'.key = e.key := fits_eq g1 hk; unfold Instr.findNow findE; rw [hkey, g2]; cases flatEq k e.key with
    | true => exact ⟨some (i, e'.val), rfl, rfl, hv⟩
    | false => simpa using ih (fun x hx => hall x (by simp [hx])) (i + 1)
theorem keyOk_inv {kt : TypeId} {k : Value} {es : List MapEntry} (h : keyOk P kt k es = true) : ∃ ti ks, tinfo P kt = some ti ∧ flatKinds P 8 kt = some ks ∧ isAggV k = ti.agg ∧ fits ks (cellsOf k) = true ∧
    ∀ e ∈ es, isAggV e.key = ti.agg ∧ fits ks (cellsOf e.key) = true ∧ sameKinds (cellsOf k) (cellsOf e.key) = true := by
  unfold keyOk at h; split at h
  case h_2 => cases h
  rename_i ag ks hk; unfold keyInfo at hk; split at hk
  case h_2 => cases hk
  rename_i ti ht; simp only [Option.map_eq_some_iff, Prod.mk.injEq] at hk; obtain ⟨ks', h1, rfl, rfl⟩ := hk; simp only [Bool.and_eq_true, beq_iff_eq, List.all_eq_true] at h; exact ⟨ti, ks', ht, h1, h.1.1, h.1.2, fun e he => ⟨(h.2 e he).1.1, (h.2 e he).1.2, (h.2 e he).2⟩⟩
theorem run_key {kt : TypeId} {k k' : Value} {es es' : List MapEntry} (h : keyOk P kt k es = true) (hk : VR φ k k') (he : ER φ es es') (em : Bool) (w : World) :
    k' = k ∧ (Instr.checkKey em 10000 kt k).run P w = .ok () w ∧ ∃ r, (Instr.findKey kt k es').run P w = .ok r w ∧ FindR φ (findE k es 0) r := by
  obtain ⟨ti, ks, ht, hks, ha, hf, hall⟩ := keyOk_inv h; have hA := aggFits_of ht hks hf ha; refine ⟨fits_eq hf hk, run_checkKey_flat em 8 kt ks hks 10000 (by omega) k hA hf w, ?_⟩; obtain ⟨_, hc⟩ := flatKinds_inv hks; have scalarCase : ∀ d : TypeDesc, P.underlying kt = some d → (d = .bool ∨ (∃ j, d = .int j) ∨ d = .string) → ((d = .bool → ks = [.bool]) ∧ (∀ j, d = .int j → ks = [.int j]) ∧ (d = .string → ks = [.string])) →
      ∃ r, (Instr.findKey kt k es').run P w = .ok r w ∧ FindR φ (findE k es 0) r := by
    intro d hu hd hkd; have hns : ∀ v, AggFits P kt v → ∀ cs, v ≠ .agg cs := by
      intro v hv; unfold AggFits at hv; rw [hu] at hv; rcases hd with rfl | ⟨j, rfl⟩ | rfl <;> exact hv
    obtain ⟨r, h1, h2⟩ := findNow_flat (φ := φ) (d := d) (k := k) he (fun e hm => by
      obtain ⟨g1, g2, g3⟩ := hall e hm; exact ⟨⟨ks, g2⟩, sameNow_flat hd hkd hf g2 (hns k hA) (hns _ (aggFits_of ht hks g2 g1)) g3⟩) 0
    refine ⟨r, ?_, h2⟩; simp only [Instr.findKey, Sem.run_bind, run_underlying hu, Result.andThen_ok, h1, Sem.run_pure]
  rcases hc with ⟨hu, rfl⟩ | ⟨j, hu, rfl⟩ | ⟨hu, rfl⟩ | ⟨fs, hu, hp, hfs⟩
  · exact scalarCase _ hu (.inl rfl) ⟨fun _ => rfl, (fun _ h => by cases h), (fun h => by cases h)⟩
  · exact scalarCase _ hu (.inr (.inl ⟨j, rfl⟩)) ⟨(fun h => by cases h), (fun i h => by cases h; rfl), (fun h => by cases h)⟩
  · exact scalarCase _ hu (.inr (.inr rfl)) ⟨(fun h => by cases h), (fun i h => by cases h), (fun _ => rfl)⟩
  · unfold AggFits at hA; rw [hu] at hA; obtain ⟨xs, rfl⟩ := hA; cases he with
    | nil => exact ⟨none, by simp [Instr.findKey, run_underlying hu, Instr.findNow], trivial⟩
    | @cons e e' l l' hk1 hv hb t =>
      have hnow : Instr.findNow (.struct fs) (.agg xs) (e' :: l') 0 = none := by
        unfold Instr.findNow Instr.sameNow; rfl
      obtain ⟨r, h1, h2⟩ := run_findAsking (P := P) (φ := φ) (kt := kt) (k := .agg xs) (fun x hx ⟨ls, g1, g2⟩ hx' w => by
        rw [hks] at g2; cases g2; unfold Op.equal; exact run_equal_flat 8 kt ks hks Op.maxDepth (by unfold Op.maxDepth; omega) _ x (by unfold AggFits; rw [hu]; exact ⟨_, rfl⟩) hx' hf g1 hx w)
        (ER.cons hk1 hv hb t) (fun e hm => by
          obtain ⟨g1, g2, g3⟩ := hall e hm; exact ⟨g3, ⟨ks, g2, hks⟩, aggFits_of ht hks g2 g1⟩) 0 w
      refine ⟨r, ?_, h2⟩; simp only [Instr.findKey, Sem.run_bind, run_underlying hu, Result.andThen_ok, hnow, h1]
theorem ER.get {φ : Phi} {es es' : List MapEntry} (h : ER φ es es') (i : Nat) : (es'[i]?).map (·.born) = (es[i]?).map (·.born) ∧ (∀ e, es[i]? = some e → ∃ e', es'[i]? = some e' ∧ VR φ e.key e'.key ∧ VR φ e.val e'.val) := by
  induction h generalizing i with
  | nil => simp
  | cons hk hv hb t ih =>
    cases i with
    | zero => simp [hb, hk, hv]
    | succ i => simpa using ih i
theorem ER.length {φ : Phi} {es es' : List MapEntry} (h : ER φ es es') : es.length = es'.length := by
  induction h with
  | nil => rfl
  | cons _ _ _ _ ih => simp [ih]
theorem ER.append {φ : Phi} {a a' b b' : List MapEntry} (h : ER φ a a') (k : ER φ b b') : ER φ (a ++ b) (a' ++ b') := by
  induction h with
  | nil => exact k
  | cons h1 h2 h3 _ ih => exact .cons h1 h2 h3 ih
theorem ER.modify {φ : Phi} {es es' : List MapEntry} (h : ER φ es es') {f f' : MapEntry → MapEntry}
    (hf : ∀ e e', VR φ e.key e'.key → VR φ e.val e'.val → e.born = e'.born → VR φ (f e).key (f' e').key ∧ VR φ (f e).val (f' e').val ∧ (f e).born = (f' e').born) (i : Nat) : ER φ (es.modify i f) (es'.modify i f') := by
  induction h generalizing i with
  | nil => simp; exact .nil
  | cons hk hv hb t ih =>
    cases i with
    | zero => obtain ⟨a, b, c⟩ := hf _ _ hk hv hb; exact .cons a b c t
    | succ i => exact .cons hk hv hb (ih i)
theorem findE_lt {k : Value} : ∀ {es : List MapEntry} {i j : Nat} {v : Value}, findE k es i = some (j, v) → i ≤ j ∧ ∃ e, es[j - i]? = some e ∧ flatEq k e.key = true ∧ e.val = v
  | [], _, _, _, h => by simp [findE] at h
  | e :: es, i, j, v, h => by
    unfold findE at h; split at h
    · rename_i hb; cases h; exact ⟨Nat.le_refl _, e, by simp, hb, rfl⟩
    · obtain ⟨h1, e', h2, h3⟩ := findE_lt h; refine ⟨by omega, e', ?_, h3⟩; rw [show j - i = (j - (i + 1)) + 1 by omega]; simpa using h2
theorem bytes_beq {a b : ByteArray} : (a == b) = true ↔ a = b := by
  rw [beq_toListBytes, beq_iff_eq, ByteArray.toList_eq, ByteArray.toList_eq]; constructor
  · intro h; cases a; cases b; simp at h; rw [h]
  · intro h; rw [h]
theorem allEq_eq : ∀ {x y : List Value}, allEq x y = true → x = y
  | [], [], _ => rfl
  | [], _ :: _, h => by simp [allEq] at h
  | _ :: _, [], h => by simp [allEq] at h
  | a :: x, b :: y, h => by
    simp only [allEq, Bool.and_eq_true] at h; rw [allEq_eq h.2]; have : a = b := by
      have h1 := h.1; cases a <;> cases b <;> simp [scalarEq] at h1
      · rw [h1]
      · rw [h1.1, h1.2]
      · rw [bytes_beq.1 h1]
    rw [this]
theorem sameBits_refl_flat {ks : List TK} {k : Value} (hf : fits ks (cellsOf k) = true) (n : Nat) (hn : 1 ≤ n) : Instr.sameBits n k k = true := by
  have sc : ∀ (t : TK) (v : Value) (m : Nat), fit1 t v = true → Instr.sameBits m v v = true := by
    intro t v m h; cases t <;> cases v <;> simp [fit1] at h <;> cases m <;> simp [Instr.sameBits, bytes_beq]
  cases k with
  | agg cs =>
    obtain ⟨m, rfl⟩ : ∃ m, n = m + 1 := ⟨n - 1, by omega⟩
    simp only [Instr.sameBits, Bool.and_eq_true, beq_self_eq_true, true_and, List.all_eq_true]; have : ∀ (ks : List TK) (vs : List Value), fits ks vs = true → ∀ x ∈ vs.zip vs, Instr.sameBits m x.1 x.2 = true := by
      intro ks vs
      induction vs generalizing ks with
      | nil => intro _ x hx; simp at hx
      | cons v vs ih =>
        intro h x hx; cases ks with
        | nil => simp [fits] at h
        | cons t ks =>
          simp only [fits, Bool.and_eq_true] at h; simp only [List.zip_cons_cons, List.mem_cons] at hx; rcases hx with rfl | hx
          · exact sc t v m h.1
          · exact ih ks h.2 x hx
    exact this ks cs.toList hf
  | _ => cases ks <;> simp [cellsOf, fits] at hf; exact sc _ _ _ hf.1
theorem cells_agg_eq {a b : Value} (h : cellsOf a = cellsOf b) (ha : isAggV a = isAggV b) : a = b := by
  cases a <;> cases b <;> simp [cellsOf, isAggV] at h ha ⊢ <;> first | exact h | (simp_all)
end Go.Abs
namespace Go.Abs
open Go.RowKit (Below)
variable {P : Program} {φ : Phi} {base : Nat} {H : Nat → Blk} {W : AW} {w : World}
theorem run_getObj' {r : Nat} {o : Obj} (h : w.heap[r]? = some o) (hc : ∀ c e f, o ≠ .cells c e f) : (getObj r).run P w = .ok o w := by
  cases o <;> first | exact absurd rfl (hc _ _ _) | simp [getObj, Sem.run, h]
theorem run_setObj' {r : Nat} {o o' : Obj} (h : w.heap[r]? = some o) (hc : ∀ c e f, o ≠ .cells c e f) : (setObj r o').run P w = .ok () (wset w r o') := by
  cases o <;> first | exact absurd rfl (hc _ _ _) | simp [setObj, Sem.run, h, wset]
theorem mapOf_inv {m m' : Value} (hr : Rel φ base H w) (hm : VR φ m m') {r : Option Nat} {es : List MapEntry} {c : Nat} (h : mapOf W m = some (r, es, c))
    (hH : ∀ b p, φ b = some p → r = some b → H b = W.get b) :
    (r = none ∧ es = [] ∧ m' = .map none) ∨ (∃ b p es', r = some b ∧ m = .map (some b) ∧ φ b = some p ∧ W.get b = .map es c ∧ H b = W.get b ∧ m' = .map (some p.blk) ∧ w.heap[p.blk]? = some (.map es' c) ∧ ER φ es es'.toList ∧ base ≤ p.blk) := by
  cases hm with
  | nilMap => simp [mapOf] at h; exact .inl ⟨h.1.symm, h.2.1, rfl⟩
  | map b p hp =>
    simp only [mapOf] at h; split at h
    case h_2 => cases h
    rename_i es0 c0 hg; cases h; have hh := hH b p hp rfl; have ha := hr.agree b p hp; rw [hh, hg] at ha; obtain ⟨es', h1, h2, h3⟩ := ha; exact .inr ⟨b, p, es', rfl, rfl, hp, hg, hh, rfl, h1, h2, h3⟩
  | _ => simp [mapOf] at h
theorem tinfo_map {t : TypeId} {s : Nat} {a : Bool} {k e : TypeId} {z : Value} {n : Nat} (h : tinfo P t = some ⟨s, a, .map k e, z, n⟩) (w : World) : (underlying t).run P w = .ok (.map k e) w := by
  obtain ⟨d, hd, _, hrun⟩ := (tinfo_facts h).und; rw [kind_map hd] at hrun; exact hrun w
theorem sim_lookup (hr : Rel φ base H w) {t : TypeId} {m m' k k' : Value} {ok : Bool} {r : OpR} (hm : VR φ m m') (hk : VR φ k k') (h : lookupA P t m k ok W = some r)
    (hH : ∀ b p, φ b = some p → b ∈ r.rd ∨ b ∈ r.wr → H b = W.get b) : OpSim P φ base H W w (do pure (.value (← Instr.lookup t m' k' ok))) r := by
  unfold lookupA at h; split at h
  case h_2 => cases h
  rename_i s a kt et z n ht; split at h
  case h_2 => cases h
  rename_i rr es c te hmo hte; split at h
  case isFalse => cases h
  rename_i hko; have hE := tinfo_facts hte; simp only [Option.some.injEq] at h; have hmi := mapOf_inv hr hm hmo (fun b p hp hb => hH b p hp (by subst h; simp [hb])); obtain ⟨es', hes, hcase⟩ : ∃ es' : Array MapEntry, ER φ es es'.toList ∧ ((m' = .map none ∧ es' = #[]) ∨ ∃ r c, m' = .map (some r) ∧ w.heap[r]? = some (.map es' c)) := by
    rcases hmi with ⟨_, rfl, rfl⟩ | ⟨b, p, es', _, _, _, _, _, rfl, h1, h2, _⟩
    · exact ⟨#[], .nil, .inl ⟨rfl, rfl⟩⟩
    · exact ⟨es', h2, .inr ⟨_, _, rfl, h1⟩⟩
  obtain ⟨hkk, hck, fr, hfk, hfr⟩ := run_key (P := P) (φ := φ) hko hk hes es'.isEmpty w; subst hkk; have hrd : ∀ v v', VR φ v v' → ∀ b : Bool, VR φ (if ok then .tuple ⟨[v, .bool b]⟩ else v) (if ok then .tuple #[v', .bool b] else v') := by
    intro v v' hv b; cases ok with
    | true => exact VR.mkTuple (.cons hv (.cons (.bool b) .nil))
    | false => exact hv
  cases hfe : findE k' es 0 with
  | none =>
    rw [hfe] at h hfr; simp only at h; subst h; cases fr with
    | some x => exact hfr.elim
    | none =>
      refine OpSim.valrd hr ?_ (hrd _ _ (VR.closed hE.closed) false); rcases hcase with ⟨rfl, rfl⟩ | ⟨r, c, rfl, h1⟩
      · simp only [Instr.lookup, Sem.run_bind, tinfo_map ht, Result.andThen_ok, hck, hfk, hE.zero, Sem.run_pure]
      · simp only [Instr.lookup, Sem.run_bind, tinfo_map ht, Result.andThen_ok, run_getObj' h1 (by simp), hck, hfk, hE.zero, Sem.run_pure]
  | some x =>
    obtain ⟨i, v⟩ := x; rw [hfe] at h hfr; simp only at h; subst h; cases fr with
    | none => exact hfr.elim
    | some y =>
      obtain ⟨j, v'⟩ := y; obtain ⟨_, hv⟩ := hfr; refine OpSim.valrd hr ?_ (hrd _ _ hv true); rcases hcase with ⟨rfl, rfl⟩ | ⟨r, c, rfl, h1⟩
      · simp only [Instr.lookup, Sem.run_bind, tinfo_map ht, Result.andThen_ok, hck, hfk, Sem.run_pure]
      · simp only [Instr.lookup, Sem.run_bind, tinfo_map ht, Result.andThen_ok, run_getObj' h1 (by simp), hck, hfk, Sem.run_pure]
theorem out_map (hr : Rel φ base H w) {b : Nat} {p : PB} {es : List MapEntry} {c : Nat} (hp : φ b = some p) (hg : W.get b = .map es c) (hH : H b = W.get b) (hb : base ≤ p.blk)
    {o : Array MapEntry} {c0 : Nat} (hw : w.heap[p.blk]? = some (.map o c0)) {es2 : List MapEntry} {es2' : Array MapEntry} (he : ER φ es2 es2'.toList) (c2 : Nat) :
    Out φ φ base H W (W.set b (.map es2 c2)) [b] w (wset w p.blk (.map es2' c2)) :=
  Out.write hr b p hp hH (by rw [hg]; trivial) _ hb (by simp [wset]) (fun C hC => wset_other hC) ⟨rfl, rfl, rfl⟩ ⟨es2', wset_get (Array.getElem?_eq_some_iff.1 hw).1, he, hb⟩
theorem keyThatStays_same {ks : List TK} {k k0 : Value} (hf : fits ks (cellsOf k) = true) (he : flatEq k0 k = true) (ha : isAggV k0 = isAggV k) : (Instr.keyThatStays k k0).run P w = .ok k0 w := by
  obtain rfl := cells_agg_eq (allEq_eq he) ha; unfold Instr.keyThatStays; rw [if_pos (sameBits_refl_flat hf 10000 (by omega))]; rfl
theorem arr_modify_toList {es' : Array MapEntry} (i : Nat) (f : MapEntry → MapEntry) : (es'.modify i f).toList = es'.toList.modify i f := by
  simp
theorem sim_mapUpdate (hr : Rel φ base H w) {t : TypeId} {m m' k k' v v' : Value} {r : OpR} (hm : VR φ m m') (hk : VR φ k k') (hv : VR φ v v') (h : mapUpdateA P t m k v W = some r)
    (hH : ∀ b p, φ b = some p → b ∈ r.rd ∨ b ∈ r.wr → H b = W.get b) : OpSim P φ base H W w (do Instr.mapUpdate t m' k' v'; pure .skip) r := by
  unfold mapUpdateA at h; split at h
  case h_2 => cases h
  rename_i s a kt et z n ht; split at h
  case h_2 => cases h
  rename_i rr es c hmo; split at h
  case isFalse => cases h
  rename_i hko; have hrr : ∀ b p, φ b = some p → some rr = some b → H b = W.get b := by
    intro b p hp hb; refine hH b p hp ?_; split at h <;> cases h <;> cases hb <;> simp
  rcases mapOf_inv hr hm hmo hrr with ⟨h0, _⟩ | ⟨b, p, es', h0, rfl, hp, hg, hHb, rfl, h1, h2, h3⟩
  · cases h0
  cases h0; obtain ⟨hkk, hck, fr, hfk, hfr⟩ := run_key (P := P) (φ := φ) hko hk h2 false w; subst hkk; obtain ⟨ti, ks, _, _, hag, hf, hall⟩ := keyOk_inv hko; cases hfe : findE k' es 0 with
  | none =>
    rw [hfe] at h hfr; simp only [Option.some.injEq] at h; subst h; cases fr with
    | some x => exact hfr.elim
    | none =>
      refine OpSim.mk (φ' := φ) (nx := .skip) (w' := wset w p.blk (.map (es'.push { key := k', val := v', born := c }) (c + 1))) ?_ trivial
        (out_map hr hp hg hHb h3 h1 (by rw [Array.toList_push]; exact h2.append (.cons hk hv rfl .nil)) _)
      simp only [Instr.mapUpdate, Sem.run_bind, tinfo_map ht, Result.andThen_ok, run_getObj' h1 (by simp), hck, hfk, run_setObj' h1 (by simp), Sem.run_pure]
  | some x =>
    obtain ⟨i, u⟩ := x; rw [hfe] at h hfr; simp only [Option.some.injEq] at h; subst h; cases fr with
    | none => exact hfr.elim
    | some y =>
      obtain ⟨j, u'⟩ := y; obtain ⟨rfl, hu⟩ := hfr; obtain ⟨_, e, g1, g2, _⟩ := findE_lt hfe; rw [Nat.sub_zero] at g1; obtain ⟨e', g3, g4, g5⟩ := (h2.get i).2 e g1; obtain ⟨ha1, ha2, ha3⟩ := hall e (List.mem_of_getElem? g1); have hkey : e'.key = e.key := fits_eq ha2 g4; have hst : (Instr.keyThatStays (((es'[i]?).map (·.key)).getD k') k').run P w = .ok k' w := by
        rw [← Array.getElem?_toList, g3]; simp only [Option.map_some, Option.getD_some, hkey]; exact keyThatStays_same ha2 g2 (hag.trans ha1.symm)
      refine OpSim.mk (φ' := φ) (nx := .skip) (w' := wset w p.blk (.map (es'.modify i fun e => { e with key := k', val := v' }) c)) ?_ trivial
        (out_map hr hp hg hHb h3 h1 (by rw [arr_modify_toList]; exact h2.modify (f := fun e => { e with key := k', val := v }) (f' := fun e => { e with key := k', val := v' }) (fun a b _ _ hb => ⟨hk, hv, hb⟩) i) _)
      simp only [Instr.mapUpdate, Sem.run_bind, tinfo_map ht, Result.andThen_ok, run_getObj' h1 (by simp), hck, hfk, hst, run_setObj' h1 (by simp), Sem.run_pure]
theorem sim_mapEntry (hr : Rel φ base H w) {t : TypeId} {m m' k k' : Value} {r : OpR} (hm : VR φ m m') (hk : VR φ k k') (h : mapEntryA P t m k W = some r)
    (hH : ∀ b p, φ b = some p → b ∈ r.rd ∨ b ∈ r.wr → H b = W.get b) : OpSim P φ base H W w (do pure (.value (← Instr.mapEntry t m' k'))) r := by
  unfold mapEntryA at h; split at h
  case h_2 => cases h
  rename_i s a kt et z n ht; split at h
  case h_2 => cases h
  rename_i rr es c te hmo hte; have hE := tinfo_facts hte; split at h
  case isFalse => cases h
  rename_i hko; have hrr : ∀ b p, φ b = some p → some rr = some b → H b = W.get b := by
    intro b p hp hb; refine hH b p hp ?_; split at h <;> cases h <;> cases hb <;> simp
  rcases mapOf_inv hr hm hmo hrr with ⟨h0, _⟩ | ⟨b, p, es', h0, rfl, hp, hg, hHb, rfl, h1, h2, h3⟩
  · cases h0
  cases h0; obtain ⟨hkk, hck, fr, hfk, hfr⟩ := run_key (P := P) (φ := φ) hko hk h2 false w; subst hkk; obtain ⟨ti, ks, _, _, hag, hf, hall⟩ := keyOk_inv hko; cases hfe : findE k' es 0 with
  | none =>
    rw [hfe] at h hfr; simp only [Option.some.injEq] at h; subst h; cases fr with
    | some x => exact hfr.elim
    | none =>
      refine OpSim.mk (φ' := φ) (nx := .value (.tuple #[te.zero, goInt c])) (w' := wset w p.blk (.map (es'.push { key := k', val := te.zero, born := c }) (c + 1))) ?_
        (VR.mkTuple (.cons (VR.closed hE.closed) (.cons (.int _ _) .nil)))
        (out_map hr hp hg hHb h3 h1 (by rw [Array.toList_push]; exact h2.append (.cons hk (VR.closed hE.closed) rfl .nil)) _)
      simp only [Instr.mapEntry, Sem.run_bind, tinfo_map ht, Result.andThen_ok, run_getObj' h1 (by simp), hck, hfk, hE.zero, run_setObj' h1 (by simp), Sem.run_pure]
  | some x =>
    obtain ⟨i, u⟩ := x; rw [hfe] at h hfr; simp only [Option.some.injEq] at h; subst h; cases fr with
    | none => exact hfr.elim
    | some y =>
      obtain ⟨j, u'⟩ := y; obtain ⟨rfl, hu⟩ := hfr; obtain ⟨_, e, g1, g2, _⟩ := findE_lt hfe; rw [Nat.sub_zero] at g1; obtain ⟨hborn, g0⟩ := h2.get i; obtain ⟨e', g3, g4, g5⟩ := g0 e g1; obtain ⟨ha1, ha2, ha3⟩ := hall e (List.mem_of_getElem? g1); have hkey : e'.key = e.key := fits_eq ha2 g4; have hst : (Instr.keyThatStays (((es'[i]?).map (·.key)).getD k') k').run P w = .ok k' w := by
        rw [← Array.getElem?_toList, g3]; simp only [Option.map_some, Option.getD_some, hkey]; exact keyThatStays_same ha2 g2 (hag.trans ha1.symm)
      have hb2 : ((es'[i]?).map (fun x => (x.born : Int))).getD 0 = ((es[i]?).map (fun x => (x.born : Int))).getD 0 := by
        rw [g1, g3] at hborn; simp at hborn; rw [← Array.getElem?_toList, g3, g1]; simp [hborn]
      refine OpSim.mk (φ' := φ) (nx := .value (.tuple #[u', goInt (((es'[i]?).map (·.born)).getD 0)])) (w' := wset w p.blk (.map (es'.modify i fun e => { e with key := k' }) c)) ?_ ?_
        (out_map hr hp hg hHb h3 h1 (by rw [arr_modify_toList]; exact h2.modify (f := fun e => { e with key := k' }) (f' := fun e => { e with key := k' }) (fun a b _ hv hb => ⟨hk, hv, hb⟩) i) _)
      · simp only [Instr.mapEntry, Sem.run_bind, tinfo_map ht, Result.andThen_ok, run_getObj' h1 (by simp), hck, hfk, hst, run_setObj' h1 (by simp), Sem.run_pure]
      · show VR φ _ _; rw [hb2]; exact VR.mkTuple (.cons hu (.cons (.int _ _) .nil))
theorem ER.findIdx {es es' : List MapEntry} (h : ER φ es es') (b : Int) : es'.findIdx? (fun e => (e.born : Int) == b) = es.findIdx? (fun e => (e.born : Int) == b) := by
  induction h with
  | nil => rfl
  | cons hk hv hb t ih => simp only [List.findIdx?_cons, hb, ih]
theorem sim_entryStore (hr : Rel φ base H w) {t : TypeId} {m m' s s' v v' : Value} {r : OpR} (hm : VR φ m m') (hs : VR φ s s') (hv : VR φ v v') (h : entryStoreA m s v W = some r)
    (hH : ∀ b p, φ b = some p → b ∈ r.rd ∨ b ∈ r.wr → H b = W.get b) : OpSim P φ base H W w (do Instr.entryStore t m' s' v'; pure .skip) r := by
  unfold entryStoreA at h; split at h
  case h_2 => cases h
  rename_i rr es c k b0 hmo; cases hs; split at h
  case h_2 => cases h
  rename_i i hi; cases h; rcases mapOf_inv hr hm hmo (fun b p hp hb => by cases hb; exact hH _ p hp (by simp)) with ⟨h0, _⟩ | ⟨b, p, es', h0, rfl, hp, hg, hHb, rfl, h1, h2, h3⟩
  · cases h0
  cases h0; have hfi : es'.findIdx? (fun e => (e.born : Int) == b0) = some i := by
    rw [← h2.findIdx] at hi; rw [← hi, ← List.findIdx?_toArray]
  refine OpSim.mk (φ' := φ) (nx := .skip) (w' := wset w p.blk (.map (es'.modify i fun e => { e with val := v' }) c)) ?_ trivial
    (out_map hr hp hg hHb h3 h1 (by rw [arr_modify_toList]; exact h2.modify (f := fun e => { e with val := v }) (f' := fun e => { e with val := v' }) (fun a b hk _ hb => ⟨hk, hv, hb⟩) i) _)
  simp only [Instr.entryStore, Sem.run_bind, Result.andThen_ok, run_getObj' h1 (by simp), asInt, asIntOf, Sem.run_pure, hfi, run_setObj' h1 (by simp)]
theorem sim_makeMap (hr : Rel φ base H w) (hf : φ W.next = none) {t : TypeId} {s : Nat} {a : Bool} {k e : TypeId} {z : Value} {n : Nat} (ht : tinfo P t = some ⟨s, a, .map k e, z, n⟩) {r r' : Option Value}
    (hrr : match r, r' with | none, none => True | some x, some x' => VR φ x x' ∧ (asInt' x).isSome = true | _, _ => False) :
    OpSim P φ base H W w (do pure (.value (← Instr.makeMap t r'))) ⟨.value (.map (some W.next)), W.alloc (.map [] 0), [], []⟩ := by
  obtain ⟨φ', h1, h2⟩ := Out.alloc (w' := { w with heap := w.heap.push (.map #[] 0) }) hr hf (.map [] 0) ⟨w.heap.size, 0, 0, 0⟩ (.map #[] 0) rfl rfl
    (by have := hr.size; exact ⟨rfl, rfl, rfl, by simp, fun k hk => by simp only [Array.getElem?_push]; rw [if_neg (by omega)]⟩)
    (fun φ' _ _ => ⟨#[], by simp, .nil, hr.size⟩)
  refine OpSim.mk (φ' := φ') (nx := .value (.map (some w.heap.size))) ?_ (VR.map _ _ h1) h2; cases r with
  | none =>
    cases r' with
    | some _ => exact hrr.elim
    | none => simp [Instr.makeMap]
  | some x =>
    cases r' with
    | none => exact hrr.elim
    | some x' =>
      obtain ⟨hx, hi⟩ := hrr; cases hx <;> simp [asInt'] at hi; simp [Instr.makeMap, tinfo_map ht, asInt, asIntOf]
theorem run_arithI {op : BinOp} {t : TypeId} {k : IntKind} {a b : Int} {v : Value} (h : arithI op k a b = some v) : (binOp op t (.int k a) (.int k b)).run P w = .ok v w ∧ VR φ v v := by
  cases op <;> simp only [arithI, Option.some.injEq, reduceCtorEq] at h
  case quo =>
    split at h <;> cases h; rename_i hb; exact ⟨by simp [binOp_quo, Op.intDiv, hb], .int _ _⟩
  case rem =>
    split at h <;> cases h; rename_i hb; exact ⟨by simp [binOp_rem, Op.intDiv, hb], .int _ _⟩
  all_goals
    subst h; refine ⟨?_, by constructor⟩
    first
      | (simp [binOp_add, binOp_sub, binOp_mul, Op.intArith]; done)
      | (simp [binOp_and, binOp_or, binOp_xor, binOp_andNot, Op.intBits]; done)
      | (simp [binOp_eql, binOp_neq, binOp_lss, binOp_leq, binOp_gtr, binOp_geq]; done)
theorem run_arithS {op : BinOp} {t : TypeId} {a b : ByteArray} {v : Value} (h : arithS op a b = some v) : (binOp op t (.string a) (.string b)).run P w = .ok v w ∧ VR φ v v := by
  cases op <;> simp only [arithS, Option.some.injEq, reduceCtorEq] at h
  case add =>
    split at h <;> cases h; rename_i hb; refine ⟨?_, .string _⟩; simp only [binOp, Op.stringOp]; rw [if_neg (by rw [IntKind.max_i64]; omega)]; rfl
  all_goals
    subst h; exact ⟨by simp [binOp, Op.stringOp], by constructor⟩
theorem eqIn_bool (d : Nat) {t : TypeId} {a b : Bool} (h : ∀ w, (underlying t).run P w = .ok .bool w) : (Op.equalIn (d + 1) t (.bool a) (.bool b)).run P w = .ok (a == b) w := by simp [Op.equalIn, h]
theorem eqIn_slice_nil (d : Nat) {t e : TypeId} {a : Option Addr} {n c : Nat} (h : ∀ w, (underlying t).run P w = .ok (.slice e) w) : (Op.equalIn (d + 1) t (.slice a n c) (.slice none 0 0)).run P w = .ok a.isNone w := by
  cases a <;> simp [Op.equalIn, h]
theorem eqIn_ptr_nil (d : Nat) {t e : TypeId} {a : Option Addr} (h : ∀ w, (underlying t).run P w = .ok (.pointer e) w) : (Op.equalIn (d + 1) t (.pointer a) (.pointer none)).run P w = .ok a.isNone w := by
  cases a <;> simp [Op.equalIn, h]
theorem eqIn_iface_nil (d : Nat) {t u : TypeId} {v : Value} {ms : Array (String × TypeId)} (h : ∀ w, (underlying t).run P w = .ok (.interface ms) w) : (Op.equalIn (d + 1) t (.iface u v) .nilIface).run P w = .ok false w := by
  simp [Op.equalIn, h]
theorem eqIn_nil_nil (d : Nat) {t : TypeId} {ms : Array (String × TypeId)} (h : ∀ w, (underlying t).run P w = .ok (.interface ms) w) : (Op.equalIn (d + 1) t .nilIface .nilIface).run P w = .ok true w := by
  simp [Op.equalIn, h]
theorem run_eqV {t : TypeId} {lit : Bool} {xo yo : Operand} (hlit : lit = true → ∃ c, yo = .const c) {x x' y y' : Value} (hx : VR φ x x') (hy : VR φ y y') {b : Bool} (h : eqV P t lit x y = some b) :
    (∀ op, (op = .eql ∨ op = .neq) → (eqGuard op t xo yo x' y').run P w = .ok () w) ∧ (Op.equal t x' y').run P w = .ok b w ∧ (∀ k a, x' ≠ .int k a) ∧ (∀ s, x' ≠ .string s) ∧
      (∀ k f, x' ≠ .float k f) ∧ (∀ k f g, x' ≠ .complex k f g) := by
  unfold eqV at h; split at h
  · rename_i a c; split at h
    case h_2 => cases h
    rename_i s g z n ht; cases h; obtain ⟨d, hd, _, hrun⟩ := (tinfo_facts ht).und; rw [kind_bool hd] at hrun; cases hx; cases hy; exact ⟨fun op _ => by rw [eqGuard_at_bool]; rfl, eqIn_bool 9999 hrun, by simp, by simp, by simp, by simp⟩
  · rename_i a c; split at h
    case h_2 => cases h
    rename_i ks hks; split at h
    case isFalse => cases h
    rename_i hc; cases h; unfold eqInfo at hks; split at hks
    case h_2 => cases hks
    rename_i ti ht; split at hks
    case isFalse => cases hks
    rename_i hg; obtain rfl := fits_eq (v := .agg a) hc.1 hx; obtain rfl := fits_eq (v := .agg c) hc.2.1 hy; refine ⟨fun op _ => run_eqGuard_agg w op t xo yo a c hg.2, ?_, by simp, by simp, by simp, by simp⟩; have h1 := aggFits_of ht hks (v := .agg a) hc.1 (by rw [hg.1]; rfl); have h2 := aggFits_of ht hks (v := .agg c) hc.2.1 (by rw [hg.1]; rfl); exact run_equal_flat 8 t ks hks 10000 (by omega) _ _ h1 h2 hc.1 hc.2.1 hc.2.2 w
  · rename_i a _ _ _ _; split at h
    case h_2 => cases h
    rename_i s g e z n ht; cases h; obtain ⟨d, hd, _, hrun⟩ := (tinfo_facts ht).und; rw [kind_slice hd] at hrun; cases hy with
    | nilSlice =>
      cases hx with
      | nilSlice => exact ⟨fun op _ => by rw [eqGuard_at_slice]; rfl, eqIn_slice_nil 9999 hrun, by simp, by simp, by simp, by simp⟩
      | slice => exact ⟨fun op _ => by rw [eqGuard_at_slice]; rfl, eqIn_slice_nil 9999 hrun, by simp, by simp, by simp, by simp⟩
  · rename_i a; split at h
    case h_2 => cases h
    rename_i s g e z n ht; cases h; obtain ⟨d, hd, _, hrun⟩ := (tinfo_facts ht).und; rw [kind_pointer hd] at hrun; cases hy with
    | nilPtr =>
      cases hx with
      | nilPtr => exact ⟨fun op _ => by rw [eqGuard_at_pointer]; rfl, eqIn_ptr_nil 9999 hrun, by simp, by simp, by simp, by simp⟩
      | ptr => exact ⟨fun op _ => by rw [eqGuard_at_pointer]; rfl, eqIn_ptr_nil 9999 hrun, by simp, by simp, by simp, by simp⟩
  · split at h
    case h_2 => cases h
    rename_i s g z n ht; cases h; obtain ⟨d, hd, _, hrun⟩ := (tinfo_facts ht).und; obtain ⟨ms, rfl⟩ := kind_iface hd; cases hx; cases hy; exact ⟨fun op _ => by rw [eqGuard_at_iface]; rfl, eqIn_iface_nil 9999 hrun, by simp, by simp, by simp, by simp⟩
  · split at h
    case h_2 => cases h
    rename_i s g z n ht; split at h
    case isFalse => cases h
    rename_i hl; cases h; obtain ⟨c, rfl⟩ := hlit hl; obtain ⟨d, hd, _, hrun⟩ := (tinfo_facts ht).und; obtain ⟨ms, rfl⟩ := kind_iface hd; cases hx; cases hy; exact ⟨fun op _ => by rw [eqGuard_nil_constR]; rfl, eqIn_nil_nil 9999 hrun, by simp, by simp, by simp, by simp⟩
  · cases h
theorem sim_binOp (hr : Rel φ base H w) {op : BinOp} {t : TypeId} {lit : Bool} {xo yo : Operand} (hlit : lit = true → ∃ c, yo = .const c) {x x' y y' v : Value} (hx : VR φ x x') (hy : VR φ y y')
    (h : binV P op t lit x y = some v) : OpSim P φ base H W w (do pure (.value (← do eqGuard op t xo yo x' y'; binOp op t x' y'))) (okV W v) := by
  unfold binV at h; split at h
  · rename_i k a k' b; cases hx; cases hy; have main : (binOp op t (.int k a) (.int k' b)).run P w = .ok v w ∧ VR φ v v := by
      split at h
      · split at h <;> cases h; rename_i hb; exact ⟨by simp [binOp, Op.shift, hb], .int _ _⟩
      · split at h <;> cases h; rename_i hb; exact ⟨by simp [binOp, Op.shift, hb], .int _ _⟩
      · split at h
        case isFalse => cases h
        rename_i hk; subst hk; exact run_arithI h
    refine OpSim.val hr (v' := v) ?_ main.2; simp only [eqGuard_at_int, Sem.run_bind, Sem.run_pure, Result.andThen_ok, main.1]
  · rename_i a b; cases hx; cases hy; have main := run_arithS (P := P) (φ := φ) (w := w) (t := t) h; refine OpSim.val hr (v' := v) ?_ main.2; simp only [eqGuard_at_string, Sem.run_bind, Sem.run_pure, Result.andThen_ok, main.1]
  · split at h
    · simp only [Option.map_eq_some_iff] at h; obtain ⟨b, hb, rfl⟩ := h; obtain ⟨h1, h2, h3, h4, h5, h6⟩ := run_eqV (P := P) (w := w) (xo := xo) hlit hx hy hb; refine OpSim.val hr (v' := .bool b) ?_ (.bool b); have : (binOp .eql t x' y').run P w = .ok (.bool b) w := by
        cases x' with
        | int k a => exact absurd rfl (h3 k a)
        | string s => exact absurd rfl (h4 s)
        | float k f => exact absurd rfl (h5 k f)
        | complex k f g => exact absurd rfl (h6 k f g)
        | _ => simp [binOp, h2]
      simp only [Sem.run_bind, h1 _ (.inl rfl), Result.andThen_ok, this, Sem.run_pure]
    · simp only [Option.map_eq_some_iff] at h; obtain ⟨b, hb, rfl⟩ := h; obtain ⟨h1, h2, h3, h4, h5, h6⟩ := run_eqV (P := P) (w := w) (xo := xo) hlit hx hy hb; refine OpSim.val hr (v' := .bool (!b)) ?_ (.bool _); have : (binOp .neq t x' y').run P w = .ok (.bool (!b)) w := by
        cases x' with
        | int k a => exact absurd rfl (h3 k a)
        | string s => exact absurd rfl (h4 s)
        | float k f => exact absurd rfl (h5 k f)
        | complex k f g => exact absurd rfl (h6 k f g)
        | _ => simp [binOp, h2]
      simp only [Sem.run_bind, h1 _ (.inr rfl), Result.andThen_ok, this, Sem.run_pure]
    · cases h
theorem sim_unOp (hr : Rel φ base H w) {op : UnOp} {x x' v : Value} (hx : VR φ x x') (h : unV op x = some v) : OpSim P φ base H W w (do pure (.value (← Op.unary op x'))) (okV W v) := by
  unfold unV at h; split at h
  · cases h; cases hx; exact OpSim.val hr (by simp [Op.unary, Op.intArith]) (.int _ _)
  · cases h; cases hx; exact OpSim.val hr (by simp [Op.unary]) (.bool _)
  · cases h
end Go.Abs
namespace Go.Abs
open Go.RowKit (Below)
variable {P : Program} {φ : Phi} {base : Nat} {H : Nat → Blk} {W : AW} {w : World}
theorem run_sliceBound {x x' : Value} {y n : Nat} (hx : VR φ x x') (h : idx? (some x) 0 = some n) (hy : n ≤ y) (code : BoundsCode) : (Instr.sliceBound x' y code).run P w = .ok n w := by
  cases hx <;> simp [idx?] at h; rename_i k i; obtain ⟨h1, rfl⟩ := h; have : 0 ≤ i ∧ i ≤ (y : Int) := ⟨h1, by omega⟩
  simp [Instr.sliceBound, asIntOf, this]
def OptVR (φ : Phi) : Option Value → Option Value → Prop
  | none, none => True
  | some x, some y => VR φ x y
  | _, _ => False
theorem idx_some {x : Value} {d d' : Nat} : idx? (some x) d = idx? (some x) d' := by
  cases x <;> rfl
theorem run_sliceBounds {lo hi mx lo' hi' mx' : Option Value} (h1 : OptVR φ lo lo') (h2 : OptVR φ hi hi') (h3 : OptVR φ mx mx') {isS : Bool} {len cap cap' l h m : Nat}
    (hm : idx? mx cap = some m) (hh : idx? hi len = some h) (hl : idx? lo 0 = some l) (hlh : l ≤ h) (hhm : h ≤ m) (hmc : m ≤ cap) (hcc : cap ≤ cap') (hmh : mx.isSome = true → hi.isSome = true) :
    ∃ m', (Instr.sliceBounds isS len cap' lo' hi' mx').run P w = .ok (l, h, m') w ∧ m ≤ m' ∧ (cap' = cap → m' = m) ∧ m' ≤ cap' := by
  have hL : ∀ code, (match lo' with
    | some v => Instr.sliceBound v h code
    | none => pure 0 : Sem Nat).run P w = .ok l w := by
    intro code; cases lo with
    | none => cases lo' with
      | none => simp [idx?] at hl; subst hl; rfl
      | some _ => exact h1.elim
    | some x => cases lo' with
      | none => exact h1.elim
      | some x' => exact run_sliceBound h1 hl hlh code
  cases mx with
  | none =>
    cases mx' with
    | some _ => exact h3.elim
    | none =>
      simp [idx?] at hm; subst hm; refine ⟨cap', ?_, hcc, fun e => e, Nat.le_refl _⟩; cases hi with
      | none => cases hi' with
        | some _ => exact h2.elim
        | none =>
          simp [idx?] at hh; subst hh; have := hL .sliceB; cases lo' <;> simp [Instr.sliceBounds] at this ⊢ <;> simp [this]
      | some x => cases hi' with
        | none => exact h2.elim
        | some x' =>
          have hb := fun code => run_sliceBound (P := P) (w := w) (y := cap') h2 (idx_some.symm.trans hh) (by omega) code; have := hL .sliceB; cases lo' <;> simp [Instr.sliceBounds, hb] at this ⊢ <;> simp [this]
  | some y =>
    cases mx' with
    | none => exact h3.elim
    | some y' =>
      have hb3 := fun code => run_sliceBound (P := P) (w := w) (y := cap') h3 (idx_some.symm.trans hm) (by omega) code; cases hi with
      | none => simp at hmh
      | some x => cases hi' with
        | none => exact h2.elim
        | some x' =>
          have hb := fun code => run_sliceBound (P := P) (w := w) (y := m) h2 (idx_some.symm.trans hh) hhm code; refine ⟨m, ?_, Nat.le_refl _, fun _ => rfl, by omega⟩; have := hL .slice3C; cases lo' <;> simp [Instr.sliceBounds, hb, hb3] at this ⊢ <;> simp [this]
theorem sim_slice (hr : Rel φ base H w) {t : TypeId} {x x' : Value} {lo hi mx lo' hi' mx' : Option Value} (hx : VR φ x x') (h1 : OptVR φ lo lo') (h2 : OptVR φ hi hi') (h3 : OptVR φ mx mx')
    {r : Value × List Nat} (h : sliceA P t x lo hi mx W = some r) (hH : ∀ b p, φ b = some p → b ∈ r.2 → H b = W.get b) :
    OpSim P φ base H W w (do pure (.value (← Instr.sliceAt t x' lo' hi' mx'))) ⟨.value r.1, W, r.2, []⟩ := by
  unfold sliceA at h; split at h
  case h_1 => cases h
  rename_i ti ht; have hT := tinfo_facts ht; obtain ⟨d, hd, hu, hrun⟩ := hT.und; split at h
  · rename_i s hk; rw [hk] at hd; obtain rfl := kind_string hd; cases hx; split at h
    case h_2 => cases h
    rename_i h0 l hh hl; split at h
    case isFalse => cases h
    rename_i hle; cases h; cases mx' with
    | some _ => exact h3.elim
    | none =>
      obtain ⟨m', hb, _⟩ := run_sliceBounds (P := P) (w := w) (isS := false) (len := s.size) (cap := s.size) (cap' := s.size) (m := s.size) h1 h2 (mx := none) (mx' := none) trivial rfl hh hl hle.1 hle.2 (Nat.le_refl _) (Nat.le_refl _) (by simp); refine OpSim.valrd hr (v' := .string (s.extract l h0)) ?_ (.string _); simp [Instr.sliceAt, hrun, Instr.slice, hb]
  · rename_i e a n c hk; rw [hk] at hd; obtain rfl := kind_slice hd; split at h
    case h_2 => cases h
    rename_i te m h0 l hte hm hh hl; have hE := tinfo_facts hte; split at h
    case isFalse => cases h
    rename_i hle; obtain ⟨hle1, hle2, hle3, hle4⟩ := hle; cases hx with
    | nilSlice =>
      simp only [Option.some.injEq] at h; subst h; obtain ⟨m', hb, hb1, hb2, hb3⟩ := run_sliceBounds (P := P) (w := w) (isS := true) (len := 0) (cap := 0) (cap' := 0) h1 h2 h3 hm hh hl hle1 hle2 hle3 (Nat.le_refl _) hle4; have e1 : m' = 0 := by omega
      have e2 : h0 = 0 := by omega
      have e3 : l = 0 := by omega
      have e4 : m = 0 := by omega
      subst e1; subst e2; subst e3; subst e4; refine OpSim.valrd hr (v' := .slice none 0 0) ?_ .nilSlice; simp [Instr.sliceAt, hrun, Instr.slice, hb, hE.size]
    | slice b o _ _ o' c' p hp hn hc ho hx hg =>
      simp only at h; split at h
      case isFalse => cases h
      rename_i hgo; simp only [Option.some.injEq] at h; subst h; obtain ⟨m', hb, hb1, hb2, hb3⟩ := run_sliceBounds (P := P) (w := w) (isS := true) (len := n) (cap := c) (cap' := c') h1 h2 h3 hm hh hl hle1 hle2 hle3 hc hle4; have hpg : p.grow = 0 ∨ p.grow = te.size := by
        have ha := hr.agree b p hp; rw [hH b p hp (by simp)] at ha; unfold growOk at hgo; split at hgo
        · rename_i g cs hg0; have hg0' : W.get b = _ := hg0; rw [hg0'] at ha; simp at hgo; rw [ha.1]; exact hgo
        · cases hgo
      refine OpSim.valrd hr (v' := .slice (some ⟨p.blk, if m' = l then o' else o' + l * te.size, none⟩) (h0 - l) (m' - l)) ?_ ?_
      · simp only [Instr.sliceAt, hrun, Sem.run_bind, Result.andThen_ok, Instr.slice, hb, hE.size, Sem.run_pure]; by_cases hml : m' = l
        · simp [hml]
        · simp [hml, add_off]
      · refine VR.slice b (o + l * te.size) (h0 - l) (m - l) _ (m' - l) p hp (by omega) (by omega) (fun hne => ?_) (fun hg0 => ?_) (fun hg0 => ?_)
        · have h4 : m' ≠ l := by omega
          rw [if_neg h4, ho (.inr (by omega)), Nat.add_assoc]
        · rw [hb2 (hx hg0)]
        · rcases hpg with h5 | h5
          · exact absurd h5 hg0
          · by_cases hml : m' = l
            · subst hml; have := hg hg0; simp only [if_true, Nat.sub_self, Nat.zero_mul, Nat.add_zero]; have : c' * p.grow ≥ 0 := Nat.zero_le _; omega
            · rw [if_neg hml]; have h6 := hg hg0; rw [h5] at h6 ⊢; have h7 : (m' - l) * te.size + l * te.size = m' * te.size := by rw [← Nat.add_mul]; congr 1; omega
              have h8 : m' * te.size ≤ c' * te.size := Nat.mul_le_mul_right _ hb3; omega
  · rename_i n e a hk; rw [hk] at hd; obtain rfl := kind_array hd; split at h
    case h_2 => cases h
    rename_i te m h0 l hte hm hh hl; have hE := tinfo_facts hte; split at h
    case isFalse => cases h
    rename_i hle; obtain ⟨hle1, hle2, hle3, hle4, hle5, hle6⟩ := hle; split at h
    case h_2 => cases h
    rename_i own cs hg0; simp only [Option.some.injEq] at h; subst h; cases hx with
    | ptr b o p hp =>
      obtain ⟨m', hb, hb1, hb2, hb3⟩ := run_sliceBounds (P := P) (w := w) (isS := false) (len := n) (cap := n) (cap' := n) h1 h2 h3 hm hh hl hle1 hle2 hle3 (Nat.le_refl _) hle4; have hmm := hb2 rfl; subst hmm; have hpg : p.grow = 0 := by
        have ha := hr.agree b p hp; rw [hH b p hp (by simp)] at ha; have hg0' : W.get b = _ := hg0; rw [hg0'] at ha; exact ha.1
      refine OpSim.valrd hr (v' := .slice (some ⟨p.blk, if m' = l then p.off + o else p.off + o + l * te.size, none⟩) (h0 - l) (m' - l)) ?_ ?_
      · simp only [Instr.sliceAt, hrun, Sem.run_bind, Result.andThen_ok, Instr.sureAddr, hb, hE.size, Sem.run_pure]; by_cases hml : m' = l
        · simp [hml]
        · simp [hml, add_off]
      · refine VR.slice b (o + l * te.size) (h0 - l) (m' - l) _ (m' - l) p hp (by omega) (Nat.le_refl _) (fun hne => ?_) (fun _ => rfl) (fun hg0 => absurd hpg hg0); have h4 : m' ≠ l := by omega
        rw [if_neg h4, Nat.add_assoc]
  · cases h
theorem run_srcCells (hr : Rel φ base H w) {x x' : Value} (hx : VR φ x x') {size : Nat} {new : List Value} {m : Nat} {rd : List Nat} (h : srcCells W size x = some (new, m, rd))
    (hH : ∀ b p, φ b = some p → b ∈ rd → H b = W.get b) :
    (∀ k, (Builtin.lenOf x').run P { w with drawn := k } = .ok m { w with drawn := k }) ∧ new.length = m * size ∧ OneC new ∧
      ∃ new', LR φ new new' ∧ ∀ k, (Builtin.firstCells size m x').run P { w with drawn := k } = .ok new'.toArray { w with drawn := k } := by
  unfold srcCells at h; split at h
  · rename_i a n c; simp only [Option.map_eq_some_iff, Prod.mk.injEq] at h; obtain ⟨vs, hrow, rfl, rfl, rfl⟩ := h; cases hx with
    | slice b o _ _ o' c' p hp hn hc ho hx hg =>
      by_cases h0 : n * size = 0
      · have hv : vs = [] := by
          unfold AW.row at hrow; split at hrow
          · split at hrow <;> cases hrow; rw [h0]; rfl
          · cases hrow
        subst hv; refine ⟨fun _ => rfl, by simp [h0], fun v hv => by simp at hv, [], .nil, fun k => ?_⟩; simp [Builtin.firstCells, loadCells, h0, loadCellsFrom]
      · have ho' := ho (.inl (by rintro rfl; simp at h0)); subst ho'; obtain ⟨vs', h1, h2, h3, h4⟩ := run_row_k (P := P) hr hp (hH b p hp (by simp)) hrow; exact ⟨fun _ => rfl, h2, h3, vs', h1, h4⟩
  · rename_i n c; cases h; cases hx; exact ⟨fun _ => rfl, by simp, fun v hv => by simp at hv, [], .nil, fun _ => rfl⟩
  · rename_i s; split at h <;> cases h; rename_i hs; cases hx; subst hs; refine ⟨fun _ => rfl, by simp, ?_, _, LR.of_get rfl (fun i v v' h1 h2 => ?_), fun k => ?_⟩
    · intro v hv; simp at hv; obtain ⟨b, _, rfl⟩ := hv; rfl
    · rw [h1] at h2; cases h2; have := List.mem_of_getElem? h1; simp at this; obtain ⟨b, _, rfl⟩ := this; exact .int _ _
    · simp only [Builtin.firstCells, Sem.run_pure]; congr 1; apply Array.ext'; rw [ByteArray.extract_zero_size]; simp
  · cases h
theorem growBy_le (need : Nat) : ∀ (n c : Nat), c < need → Builtin.growBy need n c ≤ 2 * need + 768
  | 0, c, h => by simp [Builtin.growBy]; omega
  | n + 1, c, h => by
    unfold Builtin.growBy; rw [if_neg (by omega)]; by_cases hc : c + (c + 768) / 4 < need
    · exact growBy_le need n _ hc
    · cases n with
      | zero => unfold Builtin.growBy; omega
      | succ n => unfold Builtin.growBy; rw [if_pos (by omega)]; omega
theorem nextslicecap_le {need c : Nat} (h : c < need) : Builtin.nextslicecap need c ≤ 2 * need + 768 := by
  unfold Builtin.nextslicecap; split
  · omega
  · split
    · omega
    · exact growBy_le need 4 c h
theorem tinfo_slice {t : TypeId} {s : Nat} {a : Bool} {e : TypeId} {z : Value} {n : Nat} (h : tinfo P t = some ⟨s, a, .slice e, z, n⟩) (w : World) : (underlying t).run P w = .ok (.slice e) w := by
  obtain ⟨d, hd, _, hrun⟩ := (tinfo_facts h).und; rw [kind_slice hd] at hrun; exact hrun w
theorem zeroCells_toList (z : Value) (n : Nat) : (Builtin.zeroCells z.cells n).toList = (List.replicate n z.cells.toList).flatten := by
  unfold Builtin.zeroCells; have := zeroRows_toList z z.cells.size (by rw [← Value.cells_eq]; simp) n; exact this
def appendCore (elem size : Nat) (base : Option Addr) (n c : Nat) (x : Value) : Sem Value := do
  let m ← Builtin.lenOf x
  if n + m ≤ c then
    let new ← Builtin.firstCells size m x
    if let some a := base then storeCells (a.add (n * size)) new.toList
    pure (.slice base (n + m) c)
  else
    if ((n + m : Nat) : Int) > IntKind.i64.max ∧ (false = true ∨ (← typeInfo elem).bytes = 0) then runtimePanic (.error "growslice: len out of range")
    if Builtin.nextslicecap (n + m) c * (← typeInfo elem).bytes > 2 ^ 48 then (if false = true then runtimePanic (.error "growslice: len out of range") else do
      if !(← Builtin.mayShare size n m base x) then mark .noRoom
      unsupported (.resourceLimit "append: a slice or a string whose bytes no memory bears"))
    let newCap ← choose (.appendCap (n + m) c elem)
    askRoom (newCap * (← typeInfo elem).bytes)
    let old ← Builtin.firstCells size n (.slice base n c); let new ← Builtin.firstCells size m x; let rest := Builtin.zeroCells (← zeroValue elem).cells (newCap - (n + m))
    pure (.slice (some (← newRow elem (old ++ new ++ rest))) (n + m) newCap)
theorem run_append_core {t u : TypeId} {e : TypeId} (ht : ∀ w, (underlying t).run P w = .ok (.slice e) w) {te : TI} (hE : TFacts P e te) {d : TypeDesc} (hu : ∀ w, (underlying u).run P w = .ok d w) (hnu : ∀ k, d ≠ .int k)
    {a' : Option Addr} {n c' : Nat} {x' : Value} {ts : Array TypeId} {rt : TypeId} (h0 : ts[0]? = some t) (h1 : ts[1]? = some u) :
    (Builtin.append_ ts rt #[.slice a' n c', x']).run P w = (appendCore e te.size a' n c' x').run P w := by
  have hs := hE.size; cases d <;> first | exact absurd rfl (hnu _) | skip
  all_goals
    simp only [Builtin.append_, appendCore, h0, h1, List.getElem?_toArray, List.getElem?_cons_zero, List.getElem?_cons_succ, Sem.run_bind, ht, hu, hs, Result.andThen_ok, Sem.run_pure, Bool.false_eq_true, if_false, Bool.not_false, if_true]; rfl
theorem run_core_in {e size : Nat} {a : Addr} {n c m : Nat} {x' : Value} {new' : Array Value} {w' : World} (hlen : (Builtin.lenOf x').run P w = .ok m w) (hle : n + m ≤ c)
    (hnew : (Builtin.firstCells size m x').run P w = .ok new' w) (hst : (storeCells (a.add (n * size)) new'.toList).run P w = .ok () w') :
    (appendCore e size (some a) n c x').run P w = .ok (.slice (some a) (n + m) c) w' := by
  simp only [appendCore, Sem.run_bind, hlen, Result.andThen_ok, hle, if_true, hnew, hst, Sem.run_pure]
theorem run_core_nil {e size : Nat} {n c m : Nat} {x' : Value} {new' : Array Value} (hlen : (Builtin.lenOf x').run P w = .ok m w) (hle : n + m ≤ c)
    (hnew : (Builtin.firstCells size m x').run P w = .ok new' w) :
    (appendCore e size none n c x').run P w = .ok (.slice none (n + m) c) w := by
  simp only [appendCore, Sem.run_bind, hlen, Result.andThen_ok, hle, if_true, hnew, Sem.run_pure]
theorem run_core_new {e : Nat} {te : TI} (hE : TFacts P e te) {a : Option Addr} {n c m : Nat} {x' : Value} {new' old' : Array Value} (hlen : (Builtin.lenOf x').run P w = .ok m w) (hlt : c < n + m)
    (hb : te.bytes ≠ 0) (hb2 : te.bytes ≤ 65536) (hsmall : (n + m) * te.bytes ≤ 35184372088832)
    (hold : ∀ k, (Builtin.firstCells te.size n (.slice a n c)).run P { w with drawn := k } = .ok old' { w with drawn := k })
    (hnew : ∀ k, (Builtin.firstCells te.size m x').run P { w with drawn := k } = .ok new' { w with drawn := k }) :
    ∃ cap, n + m ≤ cap ∧ (appendCore e te.size a n c x').run P w =
      .ok (.slice (some ⟨w.heap.size, 0, none⟩) (n + m) cap) { w with heap := w.heap.push (.cells (old' ++ new' ++ Builtin.zeroCells te.zero.cells (cap - (n + m))) e), drawn := w.drawn + 1 } := by
  obtain ⟨i, hi1, _, _, hi2⟩ := hE.info; have hbp : 1 ≤ te.bytes := by omega
  have hnm : n + m ≤ 35184372088832 := Nat.le_trans (Nat.le_mul_of_pos_right _ hbp) hsmall; have hq : (Question.appendCap (n + m) c e).forced = false := rfl; refine ⟨(Question.appendCap (n + m) c e).cut (w.tape w.drawn (.appendCap (n + m) c e)), by simp only [Question.cut]; omega, ?_⟩; have h1 : ¬ n + m ≤ c := by omega
  have h2 : ¬ (Builtin.nextslicecap (n + m) c * te.bytes > 2 ^ 48) := by
    have hb1 := nextslicecap_le hlt; have h3 : Builtin.nextslicecap (n + m) c * te.bytes ≤ (2 * (n + m) + 768) * te.bytes := Nat.mul_le_mul_right _ hb1; have h4 : (2 * (n + m) + 768) * te.bytes = 2 * ((n + m) * te.bytes) + 768 * te.bytes := by rw [Nat.add_mul, Nat.mul_assoc]
    omega
  simp only [appendCore, Sem.run_bind, hlen, Result.andThen_ok, Sem.run_ite, h1, if_false, hi2, hi1, hb, Bool.false_eq_true, or_self, and_false, h2, run_choose, hq, run_askRoom]; simp only [hold, hnew, hE.zero, Result.andThen_ok, Sem.run_pure]; rfl
end Go.Abs
