/- A part of the proof that TopAnewTrack returns true at every input of bulk at most 1048576: typed heaps and the rules of walks. -/
import Derived.Test.YtliohlkclfcigaaAbsVa
set_option linter.unusedVariables false
set_option linter.unusedSimpArgs false
namespace Go.Abs
variable {P : Program} {O : Orc}
section
variable {K : Nat} {M : Nat → Prop} {ro : Option Nat} {sz id : Nat} {env : Env} {X : Aux} {W : AW} {Q : AExit → Env → Aux → AW → Prop} {b : Code} {I : Nat → Env → Aux → AW → Prop} {m : Nat} {J : Env → Aux → AW → Prop}
def joinQ (J : Env → Aux → AW → Prop) (Q : AExit → Env → Aux → AW → Prop) : AExit → Env → Aux → AW → Prop
  | .normal, env, X, W => J env X W
  | e, env, X, W => Q e env X W
theorem RC_joinQ {c : Code} (J : Env → Aux → AW → Prop) (h : RC P O K M ro sz c env X W (joinQ J Q)) (k : ∀ env X W, J env X W → Q .normal env X W) : RC P O K M ro sz c env X W Q := by
  refine h.mono fun e env X W hq => ?_; cases e <;> first | exact k _ _ _ hq | exact hq
theorem thenQ_r (h : Q .ret env X W) : thenQ P O K M ro sz b Q .ret env X W := h
theorem thenQ_x (h : Q (.exit id) env X W) : thenQ P O K M ro sz b Q (.exit id) env X W := h
theorem blockQ_n (h : Q .normal env X W) : blockQ id Q .normal env X W := h
theorem blockQ_r (h : Q .ret env X W) : blockQ id Q .ret env X W := h
theorem blockQ_hit (h : Q .normal env X W) : blockQ id Q (.exit id) env X W := by simp only [blockQ, if_true]; exact h
theorem blockQ_miss {id' : Nat} (hne : id' ≠ id) (h : Q (.exit id') env X W) : blockQ id Q (.exit id') env X W := by simp only [blockQ, hne, if_false]; exact h
theorem turnQ_n {m' : Nat} (hm : m' < m) (h : I m' env X W) : turnQ I m Q .normal env X W := ⟨m', hm, h⟩
theorem turnQ_r (h : Q .ret env X W) : turnQ I m Q .ret env X W := h
theorem turnQ_x (h : Q (.exit id) env X W) : turnQ I m Q (.exit id) env X W := h
theorem joinQ_n (h : J env X W) : joinQ J Q .normal env X W := h
theorem joinQ_r (h : Q .ret env X W) : joinQ J Q .ret env X W := h
theorem endQ_r {rs : List ResultVar} {vs : List Value} {Q : Value → AW → Prop} (hr : resL P env W rs = some vs) (hX : X = {}) (h : Q (oneV vs) W) : endQ P rs Q .ret env X W := by
  subst hX; unfold endQ; rw [hr]; exact ⟨trivial, rfl, rfl, h⟩
theorem endQ_n {rs : List ResultVar} {vs : List Value} {Q : Value → AW → Prop} (hr : resL P env W rs = some vs) (hX : X = {}) (h : Q (oneV vs) W) : endQ P rs Q .normal env X W := by
  subst hX; unfold endQ; rw [hr]; exact ⟨trivial, rfl, rfl, h⟩
end
inductive RT where
  | one (τ : VT)
  | agg (row : List VT)
def ROk (S : Sg) : RT → Value → Prop
  | .one τ, v => VOk S τ v
  | .agg row, v => ∃ cs, v = .agg ⟨cs⟩ ∧ VRows S row cs
def RsOk (S : Sg) : List RT → List Value → Prop
  | [], [] => True
  | r :: rs, v :: vs => ROk S r v ∧ RsOk S rs vs
  | _, _ => False
theorem RsOk.inv {S : Sg} {r : RT} {rs : List RT} {cs : List Value} (h : RsOk S (r :: rs) cs) : ∃ v l, cs = v :: l ∧ ROk S r v ∧ RsOk S rs l := by
  cases cs with
  | nil => exact h.elim
  | cons v l => exact ⟨v, l, rfl, h.1, h.2⟩
theorem RsOk.nil_inv {S : Sg} {cs : List Value} (h : RsOk S [] cs) : cs = [] := by
  cases cs with
  | nil => rfl
  | cons v l => exact h.elim
def Ret (rs : List RT) (E : List Value → Prop) (S : Sg) (_ : AW) (v : Value) : Prop := ∃ vs, v = oneV vs ∧ RsOk S rs vs ∧ E vs
def SlOk (S : Sg) (e : List VT) (a : Option Addr) (n c : Nat) : Prop :=
  (a = none ∧ n = 0 ∧ c = 0) ∨ ∃ b o tys g, a = some ⟨b, o, none⟩ ∧ (n ≤ c ∧ c ≤ 4294967296) ∧ S b = some (.cells tys g) ∧ (g = 0 ∨ g = e.length) ∧ o + c * e.length ≤ tys.length ∧ (∀ i, i < c → (tys.drop (o + i * e.length)).take e.length = e) ∧ ∃ m, tys = (List.replicate m e).flatten
theorem VOk.slice_inv {S : Sg} {e : List VT} {v : Value} (h : VOk S (.slice e) v) : ∃ a n c, v = .slice a n c ∧ SlOk S e a n c := by
  rcases h with rfl | ⟨b, o, n, c, tys, g, rfl, h⟩
  · exact ⟨none, 0, 0, rfl, .inl ⟨rfl, rfl, rfl⟩⟩
  · exact ⟨_, n, c, rfl, .inr ⟨b, o, tys, g, rfl, h⟩⟩
theorem SlOk.vok {S : Sg} {e : List VT} {a : Option Addr} {n c : Nat} (h : SlOk S e a n c) : VOk S (.slice e) (.slice a n c) := by
  rcases h with ⟨rfl, rfl, rfl⟩ | ⟨b, o, tys, g, rfl, h⟩
  · exact .inl rfl
  · exact .inr ⟨b, o, n, c, tys, g, rfl, h⟩
theorem SlOk.mono {S S' : Sg} (h : Le S S') {e : List VT} {a : Option Addr} {n c : Nat} (hs : SlOk S e a n c) : SlOk S' e a n c := by
  rcases hs with hs | ⟨b, o, tys, g, h1, h2, h3, h4⟩
  · exact .inl hs
  · exact .inr ⟨b, o, tys, g, h1, h2, h b _ h3, h4⟩
theorem SlOk.at {S : Sg} {e : List VT} {a : Option Addr} {n c : Nat} (h : SlOk S e a n c) {i : Int} (h0 : 0 ≤ i) (h1 : i < n) :
    ∃ b o tys g, a = some ⟨b, o, none⟩ ∧ S b = some (.cells tys g) ∧ (tys.drop (o + i.toNat * e.length)).take e.length = e := by
  rcases h with ⟨rfl, rfl, rfl⟩ | ⟨b, o, tys, g, rfl, h2, h3, h4, h5, h6⟩
  · simp at h1; omega
  · exact ⟨b, o, tys, g, rfl, h3, h6.1 _ (by omega)⟩
def RoSl (S : Sg) (s : Nat) (el : Nat → List Value) (a : Option Addr) (n : Nat) : Prop :=
  (a = none ∧ n = 0) ∨ ∃ b o l, a = some ⟨b, o, none⟩ ∧ S b = some (.ro l) ∧ n ≤ 1048576 ∧ ∀ i, i < n → (l.drop (o + i * s)).take s = el i
theorem RoSl.mono {S S' : Sg} (h : Le S S') {s : Nat} {el : Nat → List Value} {a : Option Addr} {n : Nat} (hs : RoSl S s el a n) : RoSl S' s el a n := by
  rcases hs with hs | ⟨b, o, l, h1, h2, h3⟩
  · exact .inl hs
  · exact .inr ⟨b, o, l, h1, h b _ h2, h3⟩
theorem RoSl.le {S : Sg} {s : Nat} {el : Nat → List Value} {a : Option Addr} {n : Nat} (h : RoSl S s el a n) : n ≤ 1048576 := by
  rcases h with ⟨_, rfl⟩ | ⟨_, _, _, _, _, h, _⟩
  · omega
  · exact h
theorem SlOk.le {S : Sg} {e : List VT} {a : Option Addr} {n c : Nat} (h : SlOk S e a n c) : n ≤ 4294967296 := by
  rcases h with ⟨_, rfl, _⟩ | ⟨_, _, _, _, _, h, _⟩
  · omega
  · omega
theorem RoSl.at {S : Sg} {s : Nat} {el : Nat → List Value} {a : Option Addr} {n : Nat} (h : RoSl S s el a n) {i : Int} (h0 : 0 ≤ i) (h1 : i < n) :
    ∃ b o l, a = some ⟨b, o, none⟩ ∧ S b = some (.ro l) ∧ (l.drop (o + i.toNat * s)).take s = el i.toNat := by
  rcases h with ⟨rfl, rfl⟩ | ⟨b, o, l, rfl, h2, h3⟩
  · simp at h1; omega
  · exact ⟨b, o, l, rfl, h2, h3.2 _ (by omega)⟩
section
variable {K : Nat} {M : Nat → Prop} {ro : Option Nat} {sz : Nat} {all : Array Oper} {rest : List Oper} {env : Env} {X : Aux} {W : AW} {acc : List FPr} {Q : Env → Aux → AW → List FPr → Prop}
variable {d : Nat} {ty : TypeId} {pos : String} {af : Array Edge} {gd : Option (Nat × Bool)} {S : Sg}
theorem wrap_rng (n : Int) : -9223372036854775808 ≤ IntKind.i64.wrap n ∧ IntKind.i64.wrap n ≤ 9223372036854775807 := by
  have e : (2 : Int) ^ 64 = 18446744073709551616 := by decide
  have e2 : (2 : Int) ^ 63 = 9223372036854775808 := by decide
  simp only [IntKind.wrap, IntKind.bits, IntKind.signed, e, Bool.true_and, e2, show 64 - 1 = 63 from rfl]; have h1 := Int.emod_nonneg n (show (18446744073709551616 : Int) ≠ 0 by decide); have h2 := Int.emod_lt_of_pos n (show (0 : Int) < 18446744073709551616 by decide); split
  · rename_i h; simp at h; omega
  · rename_i h; simp at h; omega
theorem ROd.arith {op : BinOp} {t t2 : TypeId} {x y : Operand} {a b e : Int} (hx : aEval env x = .int .i64 a) (hy : aEval env y = .int .i64 b) (he : binV P op t (isLit y) (.int .i64 a) (.int .i64 b) = some (.int .i64 (IntKind.i64.wrap e)))
    (hw : wantedA all env ⟨some d, .binOp op t x y t2, ty, pos, af, gd⟩ = true) (hs : d < sz)
    (k : ∀ n, -9223372036854775808 ≤ n → n ≤ 9223372036854775807 → (-9223372036854775808 ≤ e → e ≤ 9223372036854775807 → n = e) → ROr P O K M ro sz all rest (upd env d (.int .i64 n)) X W (⟨some [], [], W.next, W.next⟩ :: acc) Q) :
    ROr P O K M ro sz all (⟨some d, .binOp op t x y t2, ty, pos, af, gd⟩ :: rest) env X W acc Q :=
  ROd.val (by simp only [aop, hx, hy, he, Option.map_some, okV]) hw hs (k _ (wrap_rng e).1 (wrap_rng e).2 fun h1 h2 => wrap_i64 h1 (by omega))
theorem ROd.neg {t : TypeId} {x : Operand} {a : Int} (hx : aEval env x = .int .i64 a) (hw : wantedA all env ⟨some d, .unOp .neg t x, ty, pos, af, gd⟩ = true) (hs : d < sz)
    (k : ∀ n, -9223372036854775808 ≤ n → n ≤ 9223372036854775807 → (-9223372036854775808 ≤ 0 - a → 0 - a ≤ 9223372036854775807 → n = 0 - a) → ROr P O K M ro sz all rest (upd env d (.int .i64 n)) X W (⟨some [], [], W.next, W.next⟩ :: acc) Q) :
    ROr P O K M ro sz all (⟨some d, .unOp .neg t x, ty, pos, af, gd⟩ :: rest) env X W acc Q :=
  ROd.val (by simp only [aop, hx, unV, Option.map_some, okV]) hw hs (k _ (wrap_rng (0 - a)).1 (wrap_rng (0 - a)).2 fun h1 h2 => wrap_i64 h1 (by omega))
theorem ROd.quo {t t2 : TypeId} {x y : Operand} {a b : Int} (hx : aEval env x = .int .i64 a) (hy : aEval env y = .int .i64 b) (hb : b ≠ 0)
    (hw : wantedA all env ⟨some d, .binOp .quo t x y t2, ty, pos, af, gd⟩ = true) (hs : d < sz)
    (k : ∀ n, -9223372036854775808 ≤ n → n ≤ 9223372036854775807 → (-9223372036854775808 ≤ a.tdiv b → a.tdiv b ≤ 9223372036854775807 → n = a.tdiv b) → ROr P O K M ro sz all rest (upd env d (.int .i64 n)) X W (⟨some [], [], W.next, W.next⟩ :: acc) Q) :
    ROr P O K M ro sz all (⟨some d, .binOp .quo t x y t2, ty, pos, af, gd⟩ :: rest) env X W acc Q :=
  ROd.val (by simp only [aop, hx, hy, binV, arithI, hb, if_true, if_false, Option.map_some, okV]) hw hs (k _ (wrap_rng _).1 (wrap_rng _).2 fun h1 h2 => wrap_i64 h1 (by omega))
theorem tmod_rng {a b : Int} (ha : -9223372036854775808 ≤ a ∧ a ≤ 9223372036854775807) : -9223372036854775808 ≤ a.tmod b ∧ a.tmod b ≤ 9223372036854775807 := by
  have h1 := Int.natAbs_tmod a b; have h2 : (a.tmod b).natAbs ≤ a.natAbs := by rw [h1]; exact Nat.mod_le _ _
  rcases Int.lt_or_le a 0 with h | h
  · have h3 := Int.tmod_nonneg b (show 0 ≤ -a by omega); rw [Int.neg_tmod] at h3; omega
  · have := Int.tmod_nonneg b h; omega
theorem ROd.rem {t t2 : TypeId} {x y : Operand} {a b : Int} (hx : aEval env x = .int .i64 a) (hy : aEval env y = .int .i64 b) (hb : b ≠ 0) (ha : -9223372036854775808 ≤ a) (ha2 : a ≤ 9223372036854775807)
    (hw : wantedA all env ⟨some d, .binOp .rem t x y t2, ty, pos, af, gd⟩ = true) (hs : d < sz)
    (k : ∀ n, -9223372036854775808 ≤ n → n ≤ 9223372036854775807 → n = a.tmod b → ROr P O K M ro sz all rest (upd env d (.int .i64 n)) X W (⟨some [], [], W.next, W.next⟩ :: acc) Q) :
    ROr P O K M ro sz all (⟨some d, .binOp .rem t x y t2, ty, pos, af, gd⟩ :: rest) env X W acc Q :=
  ROd.val (by simp only [aop, hx, hy, binV, arithI, hb, if_true, if_false, Option.map_some, okV]) hw hs (k _ (tmod_rng ⟨ha, ha2⟩).1 (tmod_rng ⟨ha, ha2⟩).2 rfl)
theorem ROd.split {op : Op} {t : Bool} (h : aop P ro env ⟨some d, op, ty, pos, af, gd⟩ W = some (okV W (.bool t))) (hw : wantedA all env ⟨some d, op, ty, pos, af, gd⟩ = true) (hs : d < sz)
    (k1 : t = true → ROr P O K M ro sz all rest (upd env d (.bool true)) X W (⟨some [], [], W.next, W.next⟩ :: acc) Q) (k2 : t = false → ROr P O K M ro sz all rest (upd env d (.bool false)) X W (⟨some [], [], W.next, W.next⟩ :: acc) Q) :
    ROr P O K M ro sz all (⟨some d, op, ty, pos, af, gd⟩ :: rest) env X W acc Q := by
  cases t with
  | true => exact ROd.val h hw hs (k1 rfl)
  | false => exact ROd.val h hw hs (k2 rfl)
theorem ROd.storeR {t : TypeId} {x y : Operand} {a : Bool} {kd : TK} {z v : Value} {n by' b o g : Nat} {tys row : List VT} (ht : tinfo P t = some ⟨n, a, kd, z, by'⟩) (hx : aEval env x = .pointer (some ⟨b, o, none⟩)) (hy : aEval env y = v) (hn : (cellsOf v).length = n) (hnt : noTup v = true)
    (hH : TH S W) (hb : S b = some (.cells tys g)) (hr : (tys.drop o).take n = row) (hv : VRows S row (cellsOf v)) (hp : 0 < n) (hM : b < K → M b) (hw : wantedA all env ⟨none, .store t x y, ty, pos, af, gd⟩ = true)
    (k : ∀ W1, W1.next = W.next → TH S W1 → Grow W.next S W S W1 → (∀ c, c ≠ b → W1.get c = W.get c) → ROr P O K M ro sz all rest env X W1 (⟨some [b], [b], W.next, W1.next⟩ :: acc) Q) :
    ROr P O K M ro sz all (⟨none, .store t x y, ty, pos, af, gd⟩ :: rest) env X W acc Q :=
  ROd.store ht hx hy hn hnt hH hb (by rw [hr]; exact hv) hp hM hw k
theorem ROd.makeMap {t kt et : TypeId} {a : Bool} {n y : Nat} {z : Value} (ka : Bool) (kr : List VT) (ea : Bool) (er : List VT) (ht : tinfo P t = some ⟨n, a, .map kt et, z, y⟩) (hH : TH S W) (hw : wantedA all env ⟨some d, .makeMap t none, ty, pos, af, gd⟩ = true) (hs : d < sz)
    (k : ∀ b W1 S1, b = W.next → W1.next = b + 1 → S1 b = some (.map ka kr ea er) → TH S1 W1 → Grow W.next S W S1 W1 → ROr P O K M ro sz all rest (upd env d (.map (some b))) X W1 (⟨some [], [], W.next, W1.next⟩ :: acc) Q) :
    ROr P O K M ro sz all (⟨some d, .makeMap t none, ty, pos, af, gd⟩ :: rest) env X W acc Q := by
  obtain ⟨h1, h2⟩ := grow_alloc (K := W.next) hH (Nat.le_refl _) (x := .map [] 0) (bt := .map ka kr ea er) fun S' hl W' hg => ⟨[], 0, hg, by simp⟩
  exact ROd.gen (r := ⟨.value (.map (some W.next)), W.alloc (.map [] 0), [], []⟩) hw (by simp only [aop, ht, Option.all_none, if_true]) (.inl rfl) (by simp) (by simp [putE, hs]) (k W.next _ _ rfl rfl (sput_self _ _ _) h1 h2)
def keyFit : List TK → List VT → Bool
  | [], [] => true
  | .int _ :: ks, .int _ _ _ :: r => keyFit ks r
  | .bool :: ks, .bool :: r => keyFit ks r
  | .string :: ks, .str :: r => keyFit ks r
  | _, _ => false
theorem keyFit_ok {S : Sg} : ∀ {r : List VT} {ks : List TK} {cs cs' : List Value}, keyFit ks r = true → VRows S r cs → VRows S r cs' → fits ks cs = true ∧ fits ks cs' = true ∧ sameKinds cs cs' = true := by
  intro r
  induction r with
  | nil =>
    intro ks cs cs' h h1 h2; have := h1.nil_inv; subst this; have := h2.nil_inv; subst this; cases ks with
    | nil => exact ⟨rfl, rfl, rfl⟩
    | cons k ks => cases k <;> cases h
  | cons τ r ih =>
    intro ks cs cs' h h1 h2; obtain ⟨v, l, rfl, hv, q1⟩ := h1.inv; obtain ⟨v', l', rfl, hv', q2⟩ := h2.inv; cases ks with
    | nil => cases h
    | cons k ks =>
      cases k <;> cases τ <;> first | (cases h; done) | skip
      · have ih := ih (ks := ks) h q1 q2; obtain ⟨b, rfl⟩ := hv; obtain ⟨b', rfl⟩ := hv'
        simpa [fits, fit1, sameKinds, sameKind1] using ih
      · have ih := ih (ks := ks) h q1 q2; obtain ⟨b, rfl, _⟩ := hv; obtain ⟨b', rfl, _⟩ := hv'
        simpa [fits, fit1, sameKinds, sameKind1] using ih
      · have ih := ih (ks := ks) h q1 q2; obtain ⟨b, rfl, _⟩ := hv; obtain ⟨b', rfl, _⟩ := hv'
        simpa [fits, fit1, sameKinds, sameKind1] using ih
theorem keyOk_of {kt : TypeId} {ka : Bool} {ks : List TK} {kr : List VT} {ea : Bool} {er : List VT} {es : List MapEntry} {key : Value} (hk : keyInfo P kt = some (ka, ks)) (hf : keyFit ks kr = true) (ha : isAggV key = ka) (hr : VRows S kr (cellsOf key)) (hes : ∀ x ∈ es, EOk S ka kr ea er x) : keyOk P kt key es = true := by
  simp only [keyOk, hk, ha, beq_self_eq_true, Bool.true_and, Bool.and_eq_true, List.all_eq_true, beq_iff_eq]; refine ⟨(keyFit_ok hf hr hr).1, fun x hx => ?_⟩; obtain ⟨h1, h2, _⟩ := hes x hx; exact ⟨⟨h1, (keyFit_ok hf hr h2).2.1⟩, (keyFit_ok hf hr h2).2.2⟩
theorem findE_mem {k : Value} : ∀ {es : List MapEntry} {i j : Nat} {v : Value}, findE k es i = some (j, v) → ∃ x ∈ es, x.val = v ∧ i ≤ j ∧ j < i + es.length
  | [], _, _, _, h => by cases h
  | e :: es, i, j, v, h => by
    simp only [findE] at h; split at h
    · cases h; exact ⟨e, by simp, rfl, by omega, by simp⟩
    · obtain ⟨x, hx, hv, h1, h2⟩ := findE_mem h; exact ⟨x, by simp [hx], hv, by omega, by simp; omega⟩
theorem ROd.lookup {t kt et : TypeId} {a a2 : Bool} {n y n2 y2 : Nat} {z z2 : Value} {kd : TK} {x1 x2 : Operand} {ok : Bool} {r : Nat} {key : Value} {ka : Bool} {ks : List TK} {kr : List VT} {ea : Bool} {er : List VT}
    (ht : tinfo P t = some ⟨n, a, .map kt et, z, y⟩) (he : tinfo P et = some ⟨n2, a2, kd, z2, y2⟩) (hk : keyInfo P kt = some (ka, ks)) (hf : keyFit ks kr = true) (hx : aEval env x1 = .map (some r)) (hy : aEval env x2 = key) (ha : isAggV key = ka) (hr : VRows S kr (cellsOf key))
    (hH : TH S W) (hb : S r = some (.map ka kr ea er)) (hz : isAggV z2 = ea) (hzr : VRows S er (cellsOf z2)) (hzt : noTup z2 = true) (hw : wantedA all env ⟨some d, .lookup t x1 x2 ok, ty, pos, af, gd⟩ = true) (hs : d < sz)
    (k : ∀ v is, isAggV v = ea → VRows S er (cellsOf v) → noTup v = true → ROr P O K M ro sz all rest (upd env d (if ok then .tuple ⟨[v, .bool is]⟩ else v)) X W (⟨some [r], [], W.next, W.next⟩ :: acc) Q) :
    ROr P O K M ro sz all (⟨some d, .lookup t x1 x2 ok, ty, pos, af, gd⟩ :: rest) env X W acc Q := by
  obtain ⟨es, c, h1, h2⟩ := hH.ok r _ hb; have hko := keyOk_of (P := P) hk hf ha hr h2; have hm : mapOf W (.map (some r)) = some (some r, es, c) := by simp only [mapOf, h1]
  cases hfe : findE key es 0 with
  | none =>
    exact ROd.val (v := if ok then .tuple ⟨[z2, .bool false]⟩ else z2) (rd := [r]) (by simp only [aop, lookupA, ht, hx, hy, hm, he, hko, if_true, hfe]; rfl) hw hs (k z2 false hz hzr hzt)
  | some jv =>
    obtain ⟨j, v⟩ := jv; obtain ⟨x, hxm, hxv, _⟩ := findE_mem hfe; obtain ⟨_, _, g3, g4, g5⟩ := h2 x hxm; exact ROd.val (v := if ok then .tuple ⟨[v, .bool true]⟩ else v) (rd := [r]) (by simp only [aop, lookupA, ht, hx, hy, hm, he, hko, if_true, hfe]; rfl) hw hs (k v true (hxv ▸ g3) (hxv ▸ g4) (hxv ▸ g5))
theorem ROd.mapUpdate {t kt et : TypeId} {a : Bool} {n y : Nat} {z : Value} {x1 x2 x3 : Operand} {r : Nat} {key v : Value} {ka : Bool} {ks : List TK} {kr : List VT} {ea : Bool} {er : List VT}
    (ht : tinfo P t = some ⟨n, a, .map kt et, z, y⟩) (hk : keyInfo P kt = some (ka, ks)) (hf : keyFit ks kr = true) (hx : aEval env x1 = .map (some r)) (hy : aEval env x2 = key) (hv : aEval env x3 = v) (ha : isAggV key = ka) (hr : VRows S kr (cellsOf key))
    (hH : TH S W) (hb : S r = some (.map ka kr ea er)) (hve : isAggV v = ea) (hvr : VRows S er (cellsOf v)) (hvt : noTup v = true) (hM : r < K → M r) (hw : wantedA all env ⟨none, .mapUpdate t x1 x2 x3, ty, pos, af, gd⟩ = true)
    (k : ∀ W1, W1.next = W.next → TH S W1 → Grow W.next S W S W1 → (∀ c, c ≠ r → W1.get c = W.get c) → ROr P O K M ro sz all rest env X W1 (⟨some [r], [r], W.next, W1.next⟩ :: acc) Q) :
    ROr P O K M ro sz all (⟨none, .mapUpdate t x1 x2 x3, ty, pos, af, gd⟩ :: rest) env X W acc Q := by
  obtain ⟨es, c, h1, h2⟩ := hH.ok r _ hb; have hko := keyOk_of (P := P) hk hf ha hr h2; have hm : mapOf W (.map (some r)) = some (some r, es, c) := by simp only [mapOf, h1]
  cases hfe : findE key es 0 with
  | none =>
    obtain ⟨g1, g2⟩ := grow_set (K := W.next) hH hb (by intro l h; cases h) (x := .map (es ++ [{ key := key, val := v, born := c }]) (c + 1)) fun W' hg => ⟨_, _, hg, fun x hx => by
      rcases List.mem_append.1 hx with hx | hx
      · exact h2 x hx
      · simp at hx; subst hx; exact ⟨ha, hr, hve, hvr, hvt⟩⟩
    exact ROd.gen (r := ⟨.skip, W.set r (.map (es ++ [{ key := key, val := v, born := c }]) (c + 1)), [r], [r]⟩) (v := undef) hw (by simp only [aop, mapUpdateA, ht, hx, hy, hv, hm, hko, if_true, hfe]) (.inr ⟨rfl, rfl⟩) (by simpa using hM) rfl (k _ rfl g1 g2 fun c hc => if_neg hc)
  | some jv =>
    obtain ⟨j, w⟩ := jv; obtain ⟨g1, g2⟩ := grow_set (K := W.next) hH hb (by intro l h; cases h) (x := .map (es.modify j fun e => { e with key := key, val := v }) c) fun W' hg => ⟨_, _, hg, fun x hx => by
      obtain ⟨i, hi⟩ := List.mem_iff_getElem?.1 hx; rw [List.getElem?_modify] at hi; cases hei : es[i]? with
      | none => rw [hei] at hi; simp at hi
      | some e =>
        rw [hei] at hi; simp only [Option.map_eq_map, Option.map_some, Option.some.injEq] at hi; by_cases hji : j = i
        · rw [if_pos hji] at hi; subst hi; exact ⟨ha, hr, hve, hvr, hvt⟩
        · rw [if_neg hji] at hi; subst hi; exact h2 e (List.mem_of_getElem? hei)⟩
    exact ROd.gen (r := ⟨.skip, W.set r (.map (es.modify j fun e => { e with key := key, val := v }) c), [r], [r]⟩) (v := undef) hw (by simp only [aop, mapUpdateA, ht, hx, hy, hv, hm, hko, if_true, hfe]) (.inr ⟨rfl, rfl⟩) (by simpa using hM) rfl (k _ rfl g1 g2 fun c hc => if_neg hc)
structure Ownd (K : Nat) (S : Sg) (W : AW) (b g : Nat) (l : List Value) : Prop where
  get : W.get b = .cells true g l
  non : S b = none
  lt : b < W.next
  ge : K ≤ b
theorem Ownd.grow {K b g : Nat} {l : List Value} {S S' : Sg} {W W' : AW} (h : Ownd K S W b g l) (k : Grow W.next S W S' W') : Ownd K S' W' b g l :=
  ⟨(k.frame b h.lt h.non).trans h.get, k.new b h.lt h.non, Nat.lt_of_lt_of_le h.lt k.next, h.ge⟩
theorem Ownd.other {K b c g : Nat} {l : List Value} {S : Sg} {W W' : AW} (h : Ownd K S W b g l) (hn : W'.next = W.next) (hg : ∀ x, x ≠ c → W'.get x = W.get x) (hc : b ≠ c) : Ownd K S W' b g l :=
  ⟨(hg b hc).trans h.get, h.non, by rw [hn]; exact h.lt, h.ge⟩
theorem ownd_sput {K b c g : Nat} {l : List Value} {S : Sg} {W : AW} {bt : BT} (h : Ownd K S W b g l) (hc : b ≠ c) : Ownd K (sput S c bt) W b g l :=
  ⟨h.get, by rw [sput_ne _ _ hc]; exact h.non, h.lt, h.ge⟩
theorem ownd_sput' {K b c g : Nat} {l : List Value} {S S' : Sg} {W : AW} {bt : BT} (h : Ownd K S W b g l) (e : S' = sput S c bt) (hc : b ≠ c) : Ownd K S' W b g l := e ▸ ownd_sput h hc
theorem Ownd.share {b g : Nat} {l : List Value} (h : Ownd K S W b g l) (hH : TH S W) {tys : List VT} (hr : VRows S tys l) : ∃ S', S' = sput S b (.cells tys g) ∧ S' b = some (.cells tys g) ∧ TH S' W ∧ Grow K S W S' W := by
  have hl := le_sput h.non (.cells tys g); refine ⟨_, rfl, sput_self _ _ _, ⟨hH.wf, fun c bt hc => ?_⟩, ⟨hl, Nat.le_refl _, fun c hc hs => ?_, fun _ _ _ => rfl, fun _ _ _ => rfl⟩⟩
  · by_cases hcb : c = b
    · subst hcb; rw [sput_self] at hc; cases hc; exact ⟨l, h.get, hr.mono hl⟩
    · rw [sput_ne _ _ hcb] at hc; exact (hH.ok c bt hc).mono hl rfl
  · have := h.ge; rw [sput_ne _ _ (show c ≠ b by omega)]; exact hs
theorem ROd.allocX {t : TypeId} {n y : Nat} {a : Bool} {kd : TK} {z : Value} (ht : tinfo P t = some ⟨n, a, kd, z, y⟩) (hH : TH S W) (hK : K ≤ W.next) (hw : wantedA all env ⟨some d, .alloc t, ty, pos, af, gd⟩ = true) (hs : d < sz)
    (k : ∀ b W1, b = W.next → W1.next = b + 1 → Ownd K S W1 b 0 (cellsOf z) → TH S W1 → Grow W.next S W S W1 → ROr P O K M ro sz all rest (upd env d (.pointer (some ⟨b, 0, none⟩))) X W1 (⟨some [], [], W.next, W1.next⟩ :: acc) Q) :
    ROr P O K M ro sz all (⟨some d, .alloc t, ty, pos, af, gd⟩ :: rest) env X W acc Q := by
  obtain ⟨h1, h2⟩ := grow_alloc0 (K := W.next) hH (Nat.le_refl _) (.cells true 0 (cellsOf z)); exact ROd.gen (r := ⟨.value (.pointer (some ⟨W.next, 0, none⟩)), W.alloc (.cells true 0 (cellsOf z)), [], []⟩) hw (by simp only [aop, ht, Option.map_some]) (.inl rfl) (by simp) (by simp [putE, hs]) (k W.next _ rfl rfl ⟨if_pos rfl, hH.fresh (Nat.le_refl _), by simp, hK⟩ h1 h2)
theorem ROd.boxX {t : TypeId} {x : Operand} {v : Value} (hx : aEval env x = v) (hn : noTup v = true) (hH : TH S W) (hK : K ≤ W.next) (hw : wantedA all env ⟨some d, .box t x, ty, pos, af, gd⟩ = true) (hs : d < sz)
    (k : ∀ b W1, b = W.next → W1.next = b + 1 → Ownd K S W1 b 0 (cellsOf v) → TH S W1 → Grow W.next S W S W1 → ROr P O K M ro sz all rest (upd env d (.pointer (some ⟨b, 0, none⟩))) X W1 (⟨some [], [], W.next, W1.next⟩ :: acc) Q) :
    ROr P O K M ro sz all (⟨some d, .box t x, ty, pos, af, gd⟩ :: rest) env X W acc Q := by
  obtain ⟨h1, h2⟩ := grow_alloc0 (K := W.next) hH (Nat.le_refl _) (.cells true 0 (cellsOf v)); exact ROd.gen (r := ⟨.value (.pointer (some ⟨W.next, 0, none⟩)), W.alloc (.cells true 0 (cellsOf v)), [], []⟩) hw (by simp only [aop, hx, hn, Bool.true_eq_false, if_false]) (.inl rfl) (by simp) (by simp [putE, hs]) (k W.next _ rfl rfl ⟨if_pos rfl, hH.fresh (Nat.le_refl _), by simp, hK⟩ h1 h2)
theorem ROd.buildSliceX {t e : TypeId} {a1 a2 : Bool} {k1 : TK} {z1 z2 : Value} {n1 n2 y1 y2 n : Nat} {ps : Array (Nat × Operand)} {cs : List Value} (ht : tinfo P t = some ⟨n1, a1, .slice e, z1, y1⟩) (he : tinfo P e = some ⟨n2, a2, k1, z2, y2⟩)
    (hcs : fillL ((List.range n).map fun k => (k * n2, n2)) (repCells n (cellsOf z2)) (ps.toList.map fun p => (p.1, aEval env p.2)) = some cs) (hnt : ps.toList.all (fun p => noTup (aEval env p.2)) = true) (hb : n * n2 ≤ 16777216)
    (hH : TH S W) (hK : K ≤ W.next) (hw : wantedA all env ⟨some d, .buildSlice t n ps, ty, pos, af, gd⟩ = true) (hs : d < sz)
    (k : ∀ b W1, b = W.next → W1.next = b + 1 → Ownd K S W1 b 0 cs → TH S W1 → Grow W.next S W S W1 → ROr P O K M ro sz all rest (upd env d (.slice (some ⟨b, 0, none⟩) n n)) X W1 (⟨some [], [], W.next, W1.next⟩ :: acc) Q) :
    ROr P O K M ro sz all (⟨some d, .buildSlice t n ps, ty, pos, af, gd⟩ :: rest) env X W acc Q := by
  obtain ⟨h1, h2⟩ := grow_alloc0 (K := W.next) hH (Nat.le_refl _) (.cells true 0 cs); exact ROd.gen (r := ⟨.value (.slice (some ⟨W.next, 0, none⟩) n n), W.alloc (.cells true 0 cs), [], []⟩) hw (by simp only [aop, ht, he, hb, hnt, and_self, if_true, hcs, Option.map_some]) (.inl rfl) (by simp) (by simp [putE, hs]) (k W.next _ rfl rfl ⟨if_pos rfl, hH.fresh (Nat.le_refl _), by simp, hK⟩ h1 h2)
theorem ROd.storeO {t : TypeId} {x y : Operand} {a : Bool} {kd : TK} {z v : Value} {n by' b o g : Nat} {l l' : List Value} (ht : tinfo P t = some ⟨n, a, kd, z, by'⟩) (hx : aEval env x = .pointer (some ⟨b, o, none⟩)) (hy : aEval env y = v) (hn : (cellsOf v).length = n) (hnt : noTup v = true)
    (hH : TH S W) (hb : Ownd K S W b g l) (hle : o + n ≤ l.length) (hl : splice l o (cellsOf v) = l') (hw : wantedA all env ⟨none, .store t x y, ty, pos, af, gd⟩ = true)
    (k : ∀ W1, W1.next = W.next → TH S W1 → Ownd K S W1 b g l' → Grow K S W S W1 → (∀ c, c ≠ b → W1.get c = W.get c) → ROr P O K M ro sz all rest env X W1 (⟨some [b], [b], W.next, W1.next⟩ :: acc) Q) :
    ROr P O K M ro sz all (⟨none, .store t x y, ty, pos, af, gd⟩ :: rest) env X W acc Q := by
  subst hn; subst hl; have hput : W.put ⟨b, o, none⟩ (cellsOf v) = some (W.set b (.cells true g (splice l o (cellsOf v)))) := by simp only [AW.put, hb.get]; rw [if_pos hle]
  obtain ⟨g1, g2⟩ := grow_set0 (K := K) hH hb.non hb.lt hb.ge (.cells true g (splice l o (cellsOf v))); refine ROd.gen (r := ⟨.skip, W.set b (.cells true g (splice l o (cellsOf v))), [b], [b]⟩) (v := undef) hw (by simp only [aop, ht, hx, hy, asPtr, hnt, and_self, if_true, hput, Option.map_some]) (.inr ⟨rfl, rfl⟩) (fun c hc hlt => by
    simp only [List.mem_singleton] at hc; subst hc; have := hb.ge; omega) rfl (k _ rfl g1 ⟨if_pos rfl, hb.non, hb.lt, hb.ge⟩ g2 fun c hc => if_neg hc)
theorem ROd.indexAddrT {t e : TypeId} {x ix : Operand} {a1 a2 : Bool} {k1 : TK} {z1 z2 : Value} {n1 n2 y1 y2 n c : Nat} {a : Option Addr} {i : Int} {ik : IntKind} {er : List VT} (ht : tinfo P t = some ⟨n1, a1, .slice e, z1, y1⟩) (he : tinfo P e = some ⟨n2, a2, k1, z2, y2⟩)
    (hx : aEval env x = .slice a n c) (hi : aEval env ix = .int ik i) (hsl : SlOk S er a n c) (hel : er.length = n2) (h0 : 0 ≤ i) (h1 : i < n) (hw : wantedA all env ⟨some d, .indexAddr t x ix, ty, pos, af, gd⟩ = true) (hs : d < sz)
    (k : ∀ b o tys g, S b = some (.cells tys g) → (tys.drop o).take n2 = er → ROr P O K M ro sz all rest (upd env d (.pointer (some ⟨b, o, none⟩))) X W (⟨some [], [], W.next, W.next⟩ :: acc) Q) : ROr P O K M ro sz all (⟨some d, .indexAddr t x ix, ty, pos, af, gd⟩ :: rest) env X W acc Q := by
  subst hel; obtain ⟨b, o, tys, g, rfl, h2, h3⟩ := hsl.at h0 h1; exact ROd.indexAddrS ht he hx hi h0 h1 hw hs (k b _ tys g h2 h3)
theorem ROd.indexAddrR {t e : TypeId} {x ix : Operand} {a1 a2 : Bool} {k1 : TK} {z1 z2 : Value} {n1 n2 y1 y2 n c : Nat} {a : Option Addr} {i : Int} {ik : IntKind} {el : Nat → List Value} (ht : tinfo P t = some ⟨n1, a1, .slice e, z1, y1⟩) (he : tinfo P e = some ⟨n2, a2, k1, z2, y2⟩)
    (hx : aEval env x = .slice a n c) (hi : aEval env ix = .int ik i) (hsl : RoSl S n2 el a n) (h0 : 0 ≤ i) (h1 : i < n) (hw : wantedA all env ⟨some d, .indexAddr t x ix, ty, pos, af, gd⟩ = true) (hs : d < sz)
    (k : ∀ b o l, S b = some (.ro l) → (l.drop o).take n2 = el i.toNat → ROr P O K M ro sz all rest (upd env d (.pointer (some ⟨b, o, none⟩))) X W (⟨some [], [], W.next, W.next⟩ :: acc) Q) : ROr P O K M ro sz all (⟨some d, .indexAddr t x ix, ty, pos, af, gd⟩ :: rest) env X W acc Q := by
  obtain ⟨b, o, l, ha, h2, h3⟩ := hsl.at h0 h1; rw [ha] at hx; exact ROd.indexAddrS ht he hx hi h0 h1 hw hs (k b _ l h2 h3)
theorem ROd.max2 {x y : Operand} {ats : Array TypeId} {a b : Int} (hx : aEval env x = .int .i64 a) (hy : aEval env y = .int .i64 b) (hw : wantedA all env ⟨some d, .call ⟨.builtin .max, #[x, y], ats⟩, ty, pos, af, gd⟩ = true) (hs : d < sz)
    (k : ∀ n, a ≤ n → b ≤ n → (n = a ∨ n = b) → ROr P O K M ro sz all rest (upd env d (.int .i64 n)) X W (⟨some [], [], W.next, W.next⟩ :: acc) Q) : ROr P O K M ro sz all (⟨some d, .call ⟨.builtin .max, #[x, y], ats⟩, ty, pos, af, gd⟩ :: rest) env X W acc Q :=
  ROd.val (v := .int .i64 (if b > a then b else a)) (rd := []) (by simp [-aEval, aop, hx, hy]) hw hs (k _ (by split <;> omega) (by split <;> omega) (by split <;> simp))
theorem ROd.max3 {x y z : Operand} {ats : Array TypeId} {a b c : Int} (hx : aEval env x = .int .i64 a) (hy : aEval env y = .int .i64 b) (hz : aEval env z = .int .i64 c) (hw : wantedA all env ⟨some d, .call ⟨.builtin .max, #[x, y, z], ats⟩, ty, pos, af, gd⟩ = true) (hs : d < sz)
    (k : ∀ n, a ≤ n → b ≤ n → c ≤ n → (n = a ∨ n = b ∨ n = c) → ROr P O K M ro sz all rest (upd env d (.int .i64 n)) X W (⟨some [], [], W.next, W.next⟩ :: acc) Q) : ROr P O K M ro sz all (⟨some d, .call ⟨.builtin .max, #[x, y, z], ats⟩, ty, pos, af, gd⟩ :: rest) env X W acc Q := by
  refine ROd.val (v := .int .i64 (if c > (if b > a then b else a) then c else (if b > a then b else a))) (rd := []) (by simp [-aEval, aop, hx, hy, hz]) hw hs (k _ ?_ ?_ ?_ ?_)
  all_goals split <;> split <;> omega
theorem ROd.min2 {x y : Operand} {ats : Array TypeId} {a b : Int} (hx : aEval env x = .int .i64 a) (hy : aEval env y = .int .i64 b) (hw : wantedA all env ⟨some d, .call ⟨.builtin .min, #[x, y], ats⟩, ty, pos, af, gd⟩ = true) (hs : d < sz)
    (k : ∀ n, n ≤ a → n ≤ b → (n = a ∨ n = b) → ROr P O K M ro sz all rest (upd env d (.int .i64 n)) X W (⟨some [], [], W.next, W.next⟩ :: acc) Q) : ROr P O K M ro sz all (⟨some d, .call ⟨.builtin .min, #[x, y], ats⟩, ty, pos, af, gd⟩ :: rest) env X W acc Q :=
  ROd.val (v := .int .i64 (if b < a then b else a)) (rd := []) (by simp [-aEval, aop, hx, hy]) hw hs (k _ (by split <;> omega) (by split <;> omega) (by split <;> simp))
end
theorem pairsOk_nil {fps : List FPr} : pairsOk fps [] := trivial
theorem pairsOk_cons {fps : List FPr} {i j : Nat} {r : List (Nat × Nat)} {a b : FPr} (ha : fps[i]? = some a) (hb : fps[j]? = some b) (h1 : ApartP a b) (h2 : ApartP b a) (h : pairsOk fps r) : pairsOk fps ((i, j) :: r) := by
  unfold pairsOk; rw [ha, hb]; exact ⟨⟨h1, h2⟩, h⟩
theorem pairsOk_consR {acc : List FPr} {i j : Nat} (n : Nat) {r : List (Nat × Nat)} {a b : FPr} (hn : acc.length = n) (hi : i < n) (hj : j < n) (ha : acc[n - 1 - i]? = some a) (hb : acc[n - 1 - j]? = some b) (h1 : ApartP a b) (h2 : ApartP b a) (h : pairsOk acc.reverse r) : pairsOk acc.reverse ((i, j) :: r) := by
  subst hn; exact pairsOk_cons (by rw [List.getElem?_reverse hi]; exact ha) (by rw [List.getElem?_reverse hj]; exact hb) h1 h2 h
theorem ne_own {K : Nat} {S : Sg} {W : AW} {b b' g : Nat} {l : List Value} {bt : BT} (h : Ownd K S W b g l) (hS : S b' = some bt) : b' ≠ b := by
  intro e; rw [e, h.non] at hS; cases hS
theorem Wr.zero {S : Sg} {b : Nat} : ¬ Wr 0 S b := by unfold Wr; split <;> simp
theorem apart_none {r : Option (List Nat)} {l h : Nat} {b : FPr} : ApartP ⟨r, [], l, h⟩ b := .inl rfl
theorem apart_wl {r : Option (List Nat)} {wr : List Nat} {b1 l h n : Nat} (hne : ∀ x ∈ wr, x ≠ b1) : ApartP ⟨r, wr, l, h⟩ ⟨some [b1], [], n, n⟩ :=
  .inr ⟨_, rfl, fun x hx => ⟨by simp, fun h => by have h1 : n ≤ x := h.1; have h2 : x < n := h.2; omega, by simpa using hne x hx⟩⟩
theorem apart_wa {r : Option (List Nat)} {wr : List Nat} {l h n m : Nat} (hne : ∀ x ∈ wr, x < n) : ApartP ⟨r, wr, l, h⟩ ⟨some [], [], n, m⟩ :=
  .inr ⟨_, rfl, fun x hx => ⟨by simp, fun h => by have := hne x hx; have h1 : n ≤ x := h.1; omega, by simp⟩⟩
theorem Ownd.nw {K : Nat} {S : Sg} {W : AW} {b g : Nat} {l : List Value} (h : Ownd K S W b g l) {cl : Nat} : ¬ Wr cl S b := by unfold Wr; rw [h.non]; exact id
theorem nw_cells {S : Sg} {b g : Nat} {tys : List VT} (h : S b = some (.cells tys g)) {cl : Nat} (hc : cl < 2) : ¬ Wr cl S b := by unfold Wr; rw [h]; intro h2; simp at h2; omega
theorem nw_ro {S : Sg} {b : Nat} {l : List Value} (h : S b = some (.ro l)) {cl : Nat} : ¬ Wr cl S b := by unfold Wr; rw [h]; exact id
theorem ne_types {S : Sg} {b b' g g' o n : Nat} {tys tys' r : List VT} {τ : VT} (h : S b = some (.cells tys g)) (h' : S b' = some (.cells tys' g')) (hr : (tys'.drop o).take n = τ :: r) (hn : τ ∉ tys) : b' ≠ b := by
  intro e; subst e; rw [h] at h'; cases h'; have : τ ∈ (tys.drop o).take n := by rw [hr]; simp
  exact hn (List.mem_of_mem_drop (List.mem_of_mem_take this))
section
variable {K : Nat} {M : Nat → Prop} {ro : Option Nat} {sz : Nat} {all : Array Oper} {rest : List Oper} {env : Env} {X : Aux} {W : AW} {acc : List FPr} {Q : Env → Aux → AW → List FPr → Prop}
variable {d : Nat} {ty : TypeId} {pos : String} {af : Array Edge} {gd : Option (Nat × Bool)} {S : Sg}
theorem ROd.sliceHR {t e : TypeId} {x h : Operand} {a1 a2 : Bool} {k1 : TK} {z1 z2 : Value} {n1 n2 y1 y2 n c : Nat} {a : Option Addr} {i : Int} {el : Nat → List Value} (ht : tinfo P t = some ⟨n1, a1, .slice e, z1, y1⟩) (he : tinfo P e = some ⟨n2, a2, k1, z2, y2⟩)
    (hx : aEval env x = .slice a n c) (hi : aEval env h = .int .i64 i) (hsl : RoSl S n2 el a n) (hH : TH S W) (h0 : 0 ≤ i) (h1 : i ≤ n) (hc : n ≤ c) (hw : wantedA all env ⟨some d, .slice t x none (some h) none, ty, pos, af, gd⟩ = true) (hs : d < sz)
    (k : ∀ (m : Nat) rd, (m : Int) = i → RoSl S n2 el a m → ROr P O K M ro sz all rest (upd env d (.slice a m c)) X W (⟨some rd, [], W.next, W.next⟩ :: acc) Q) : ROr P O K M ro sz all (⟨some d, .slice t x none (some h) none, ty, pos, af, gd⟩ :: rest) env X W acc Q := by
  have hm : i.toNat ≤ n := by omega
  have k := k i.toNat; rcases hsl with ⟨rfl, rfl⟩ | ⟨b, o, l, rfl, h3, h4⟩
  · have : i.toNat = 0 := by omega
    refine ROd.val (v := .slice none i.toNat c) (rd := []) ?_ hw hs (k [] (by omega) (.inl ⟨rfl, by omega⟩)); have hic : 0 ≤ c := Nat.zero_le _; simp [-aEval, aop, sliceA, ht, he, hx, hi, h0, this]
  · have hg : growOk W b n2 = true := by
      have : W.get b = .cells false 0 l := hH.ok b _ h3; simp [growOk, this]
    refine ROd.val (v := .slice (some ⟨b, o, none⟩) i.toNat c) (rd := [b]) ?_ hw hs (k [b] (by omega) (.inr ⟨b, o, l, rfl, h3, by omega, fun j hj => h4.2 j (by omega)⟩)); have hic : i.toNat ≤ c := by omega
    simp [-aEval, aop, sliceA, ht, he, hx, hi, h0, hic, hg]
theorem VRows.rep {τ : VT} : ∀ {n : Nat} {cs : List Value}, VRows S (List.replicate n τ) cs → ∀ {i : Nat}, i < n → ∃ v, cs[i]? = some v ∧ VOk S τ v
  | 0, _, _, _, hi => by omega
  | n + 1, cs, h, i, hi => by
    rw [List.replicate_succ] at h; obtain ⟨v, l, rfl, hv, hl⟩ := h.inv; cases i with
    | zero => exact ⟨v, rfl, hv⟩
    | succ i => simpa using hl.rep (i := i) (by omega)
theorem ROd.convSB {s t e : TypeId} {x : Operand} {a1 a3 : Bool} {k1 : TK} {z1 z2 z3 : Value} {n1 n3 y1 y2 y3 : Nat} {v : ByteArray} (hsrc : tinfo P s = some ⟨n3, a3, k1, z3, y3⟩) (ht : tinfo P t = some ⟨n1, a1, .slice e, z1, y1⟩) (he : tinfo P e = some ⟨1, false, .int .u8, z2, y2⟩)
    (hx : aEval env x = .string v) (hb : v.size ≤ 4294967296) (hH : TH S W) (hw : wantedA all env ⟨some d, .convert s t x, ty, pos, af, gd⟩ = true) (hs : d < sz)
    (k : ∀ b W1 S1 (n : Nat), b = W.next → W1.next = b + 1 → n = v.size → SlOk S1 [.int .u8 0 255] (some ⟨b, 0, none⟩) n n → TH S1 W1 → Grow W.next S W S1 W1 → ROr P O K M ro sz all rest (upd env d (.slice (some ⟨b, 0, none⟩) n n)) X W1 (⟨some [], [], W.next, W1.next⟩ :: acc) Q) :
    ROr P O K M ro sz all (⟨some d, .convert s t x, ty, pos, af, gd⟩ :: rest) env X W acc Q := by
  have hrows : ∀ (l : List UInt8) (S : Sg), VRows S (List.replicate l.length (.int .u8 0 255)) (l.map fun b => Value.int .u8 b.toNat) := by
    intro l S
    induction l with
    | nil => trivial
    | cons b l ih => exact ⟨⟨b.toNat, rfl, by omega, by have := b.toNat_lt; omega⟩, ih⟩
  have hlen : v.data.toList.length = v.size := Array.length_toList; obtain ⟨h1, h2⟩ := grow_alloc (K := W.next) hH (Nat.le_refl _) (x := .cells true 1 (v.data.toList.map fun b => Value.int .u8 b.toNat)) (bt := .cells (List.replicate v.data.toList.length (.int .u8 0 255)) 1) fun S' hl W' hg => ⟨_, hg, hrows _ _⟩
  refine ROd.gen (r := ⟨.value (.slice (some ⟨W.next, 0, none⟩) v.size v.size), W.alloc (.cells true 1 (v.data.toList.map fun b => Value.int .u8 b.toNat)), [], []⟩) hw (by simp [-aEval, aop, hsrc, ht, he, hx]) (.inl rfl) (by simp) (by simp [putE, hs]) (k W.next _ _ v.size rfl rfl rfl ?_ h1 h2); refine .inr ⟨_, _, _, _, rfl, ⟨Nat.le_refl _, hb⟩, sput_self _ _ _, .inr rfl, by rw [List.length_replicate, hlen]; show 0 + v.size * 1 ≤ v.size; omega, fun i hi => ?_, v.size, by rw [hlen]; simp⟩; simp only [List.length_singleton, Nat.mul_one, Nat.zero_add, List.drop_replicate, hlen]; obtain ⟨q, hq⟩ : ∃ q, v.size - i = q + 1 := ⟨v.size - i - 1, by omega⟩
  rw [hq]; simp [List.replicate_succ]
theorem ROd.lenStr {t : TypeId} {x : Operand} {a1 : Bool} {z1 : Value} {n1 y1 : Nat} {v : ByteArray} (ht : tinfo P t = some ⟨n1, a1, .string, z1, y1⟩) (hx : aEval env x = .string v) (hw : wantedA all env ⟨some d, .call ⟨.builtin .len, #[x], #[t]⟩, ty, pos, af, gd⟩ = true) (hs : d < sz)
    (k : ROr P O K M ro sz all rest (upd env d (.int .i64 v.size)) X W (⟨some [], [], W.next, W.next⟩ :: acc) Q) : ROr P O K M ro sz all (⟨some d, .call ⟨.builtin .len, #[x], #[t]⟩, ty, pos, af, gd⟩ :: rest) env X W acc Q :=
  ROd.val (by simp [-aEval, aop, lenA, ht, hx]) hw hs k
theorem ROd.indexA {t e : TypeId} {x ix : Operand} {k1 : TK} {z1 z2 : Value} {m n1 y1 y2 : Nat} {a1 : Bool} {cs : List Value} {i : Int} {ik : IntKind} {τ : VT} (ht : tinfo P t = some ⟨n1, a1, .array m e, z1, y1⟩) (he : tinfo P e = some ⟨1, false, k1, z2, y2⟩)
    (hx : aEval env x = .agg ⟨cs⟩) (hi : aEval env ix = .int ik i) (hr : VRows S (List.replicate m τ) cs) (h0 : 0 ≤ i) (h1 : i < m) (hw : wantedA all env ⟨some d, .index t x ix, ty, pos, af, gd⟩ = true) (hs : d < sz)
    (k : ∀ v, VOk S τ v → ROr P O K M ro sz all rest (upd env d v) X W (⟨some [], [], W.next, W.next⟩ :: acc) Q) : ROr P O K M ro sz all (⟨some d, .index t x ix, ty, pos, af, gd⟩ :: rest) env X W acc Q := by
  obtain ⟨v, h2, h3⟩ := hr.rep (i := i.toNat) (by omega); refine ROd.val (v := v) (rd := []) ?_ hw hs (k v h3); simp [-aEval, aop, Abs.indexA, ht, he, hx, hi, h0, h1, partV, h2]
theorem ROd.indexAddrArr {t e : TypeId} {x ix : Operand} {k1 : TK} {z1 z2 : Value} {m n1 y1 y2 b o : Nat} {a1 : Bool} {tys : List VT} {i : Int} {ik : IntKind} {τ : VT} (ht : tinfo P t = some ⟨n1, a1, .array m e, z1, y1⟩) (he : tinfo P e = some ⟨1, false, k1, z2, y2⟩)
    (hx : aEval env x = .pointer (some ⟨b, o, none⟩)) (hi : aEval env ix = .int ik i) (hr : (tys.drop o).take m = List.replicate m τ) (h0 : 0 ≤ i) (h1 : i < m) (hw : wantedA all env ⟨some d, .indexAddr t x ix, ty, pos, af, gd⟩ = true) (hs : d < sz)
    (k : ∀ o', (tys.drop o').take 1 = [τ] → ROr P O K M ro sz all rest (upd env d (.pointer (some ⟨b, o', none⟩))) X W (⟨some [], [], W.next, W.next⟩ :: acc) Q) : ROr P O K M ro sz all (⟨some d, .indexAddr t x ix, ty, pos, af, gd⟩ :: rest) env X W acc Q := by
  refine ROd.indexAddrA ht he hx hi h0 h1 hw hs (k _ ?_); have h2 := sub_row hr i.toNat 1 (by omega); rw [Nat.mul_one, h2, List.drop_replicate]; obtain ⟨q, hq⟩ : ∃ q, m - i.toNat = q + 1 := ⟨m - i.toNat - 1, by omega⟩
  rw [hq]; simp [List.replicate_succ]
end
theorem RK_introN {f : FuncId} {fn : Func} {body : Code} {nt sz : Nat} {rs : List ResultVar} {args : List Value} {W : AW} {M : Nat → Prop} {Q : Value → AW → Prop} (hf : P.funcs[f]? = some fn) (hn : (fn.name == "runtime.NumGoroutine") = false) (hb : fn.body = some body) (hnt : fn.ntmps = nt) (hrs : fn.results.toList = rs) (hO : O.run f args W = none)
    (hsz : max args.length nt = sz) (h : RC P O W.next M none sz body (argEnv args) {} W (endQ P rs Q)) : RK P O f args W M Q := by
  subst hsz; exact RK_intro hf hn hb hnt hrs hO h
theorem sub_row0 {α : Type} {l row : List α} {o n : Nat} (h : (l.drop o).take n = row) (m : Nat) (hk : 0 + m ≤ n) : (l.drop o).take m = row.take m := by
  have := sub_row h 0 m hk
  simpa using this
theorem cellsOf_one {v : Value} (h : isAggV v = false) : cellsOf v = [v] := by
  cases v <;> first | rfl | cases h
theorem RK_weak {f : FuncId} {args : List Value} {W : AW} {M : Nat → Prop} {S : Sg} {rs : List RT} {E : List Value → Prop} (h : RK P O f args W M (Post S W (Ret rs E))) : RK P O f args W M (Post S W (Ret rs (fun _ => True))) := by
  obtain ⟨n, v, W', wr, h1, h2, S', h3, h4, vs, h5, h6, _⟩ := h; exact ⟨n, v, W', wr, h1, h2, S', h3, h4, vs, h5, h6, trivial⟩
end Go.Abs
