/- A part of the proof that TopAnewTrack returns true at every input of bulk at most 1048576: exact heaps of the laws. -/
import Derived.Test.YtliohlkclfcigaaAbsVc
set_option linter.unusedVariables false
set_option linter.unusedSimpArgs false
namespace Go.Abs
variable {P : Program} {O : Orc}
def HB (W : AW) (h b : Nat) : Prop := b = h ∨ ∃ a1 n1 a2 n2, W.get h = .cells true 0 [.slice a1 n1 n1, .slice a2 n2 n2] ∧ ((∃ o, a1 = some ⟨b, o, none⟩) ∨ ∃ o, a2 = some ⟨b, o, none⟩)
def HS (W : AW) (h : Nat) (a : Option Addr) (n : Nat) (cells : List Value) : Prop :=
  (a = none ∧ n = 0 ∧ cells = []) ∨ ∃ b, a = some ⟨b, 0, none⟩ ∧ b ≠ h ∧ b < W.next ∧ 0 < n ∧ W.get b = .cells true 1 cells ∧ cells.length = n
def HH (W : AW) (h : Nat) (ns : List Int) (ss : List ByteArray) : Prop := h < W.next ∧ ∃ a1 n1 a2 n2, W.get h = .cells true 0 [.slice a1 n1 n1, .slice a2 n2 n2] ∧
  HS W h a1 n1 (ns.map (.int .i64)) ∧ HS W h a2 n2 (ss.map .string) ∧ ∀ b o o', a1 = some ⟨b, o, none⟩ → a2 ≠ some ⟨b, o', none⟩
structure HStep (W : AW) (h : Nat) (W1 : AW) : Prop where
  aft : Aft (HB W h) W W1
  sub : ∀ b, HB W1 h b → HB W h b ∨ W.next ≤ b
theorem HStep.refl {W : AW} {h : Nat} (hwf : W.wf) : HStep W h W := ⟨Aft.refl hwf, fun b hb => .inl hb⟩
theorem HStep.trans {A B C : AW} {h : Nat} (x : HStep A h B) (y : HStep B h C) : HStep A h C := by
  refine ⟨⟨y.aft.wf, Nat.le_trans x.aft.next y.aft.next, fun b hb hn => ?_⟩, fun b hb => ?_⟩
  · have hb2 : ¬ HB B h b := fun hB => (x.sub b hB).elim hn (fun h => by omega); rw [y.aft.same b (Nat.lt_of_lt_of_le hb x.aft.next) hb2, x.aft.same b hb hn]
  · rcases y.sub b hb with h1 | h1
    · exact x.sub b h1
    · exact .inr (Nat.le_trans x.aft.next h1)
theorem HH.hb_lt {W : AW} {h : Nat} {ns : List Int} {ss : List ByteArray} (hh : HH W h ns ss) {b : Nat} (hb : HB W h b) : b < W.next := by
  obtain ⟨h0, a1, n1, a2, n2, hg, h1, h2, _⟩ := hh; rcases hb with rfl | ⟨a1', n1', a2', n2', hg', hc⟩
  · exact h0
  · rw [hg] at hg'; simp only [Blk.cells.injEq, List.cons.injEq, Value.slice.injEq, and_true, true_and] at hg'; obtain ⟨⟨rfl, rfl, _⟩, rfl, rfl, _⟩ := hg'; rcases hc with ⟨o, rfl⟩ | ⟨o, rfl⟩
    · rcases h1 with ⟨e, _⟩ | ⟨b', e, _, hlt, _⟩
      · cases e
      · cases e; exact hlt
    · rcases h2 with ⟨e, _⟩ | ⟨b', e, _, hlt, _⟩
      · cases e
      · cases e; exact hlt
theorem HH.keep {W W1 : AW} {h : Nat} {ns : List Int} {ss : List ByteArray} {M : Nat → Prop} (hh : HH W h ns ss) (hA : Aft M W W1) (hM : ∀ b, HB W h b → ¬ M b) : HH W1 h ns ss ∧ (∀ b, HB W1 h b ↔ HB W h b) := by
  obtain ⟨h0, a1, n1, a2, n2, hg, h1, h2, h3⟩ := hh; have hgh : W1.get h = W.get h := hA.same h h0 (hM h (.inl rfl)); have hs : ∀ a n cells, HS W h a n cells → (∀ b o, a = some ⟨b, o, none⟩ → HB W h b) → HS W1 h a n cells := by
    intro a n cells hs hin; rcases hs with hs | ⟨b, rfl, g1, g2, g3, g4, g5⟩
    · exact .inl hs
    · exact .inr ⟨b, rfl, g1, Nat.lt_of_lt_of_le g2 hA.next, g3, (hA.same b g2 (hM b (hin b 0 rfl))).trans g4, g5⟩
  refine ⟨⟨Nat.lt_of_lt_of_le h0 hA.next, a1, n1, a2, n2, hgh.trans hg, hs _ _ _ h1 (fun b o e => .inr ⟨a1, n1, a2, n2, hg, .inl ⟨o, e⟩⟩), hs _ _ _ h2 (fun b o e => .inr ⟨a1, n1, a2, n2, hg, .inr ⟨o, e⟩⟩), h3⟩, fun b => ?_⟩; unfold HB; rw [hgh]
def noS : Sg := fun _ => none
theorem th0 {W : AW} (h : W.wf) : TH noS W := ⟨h, fun b bt hb => by cases hb⟩
section
variable {K : Nat} {M : Nat → Prop} {ro : Option Nat} {sz : Nat} {all : Array Oper} {rest : List Oper} {env : Env} {X : Aux} {W : AW} {acc : List FPr} {Q : Env → Aux → AW → List FPr → Prop}
variable {d : Nat} {ty : TypeId} {pos : String} {af : Array Edge} {gd : Option (Nat × Bool)}
theorem ROd.appendH {t t2 el el2 : TypeId} {s x : Operand} {a1 a2 a3 : Bool} {k1 : TK} {z1 z2 z3 v : Value} {n1 n3 y1 y2 y3 n b2 h : Nat} {a : Option Addr} {cells : List Value}
    (ht : tinfo P t = some ⟨n1, a1, .slice el, z1, y1⟩) (he : tinfo P el = some ⟨1, a2, k1, z2, y2⟩) (ht2 : tinfo P t2 = some ⟨n3, a3, .slice el2, z3, y3⟩)
    (hs1 : aEval env s = .slice a n n) (hx : aEval env x = .slice (some ⟨b2, 0, none⟩) 1 1) (hO : HS W h a n cells) (hb2 : W.get b2 = .cells true 0 [v])
    (hy : 0 < y2) (hy2 : y2 ≤ 65536) (hbig : (n + 1) * y2 ≤ 35184372088832) (hwf : W.wf) (hM : ∀ b o, a = some ⟨b, o, none⟩ → b < K → M b)
    (hw : wantedA all env ⟨some d, .call ⟨.builtin .append, #[s, x], #[t, t2]⟩, ty, pos, af, gd⟩ = true) (hs : d < sz)
    (k : ∀ W1 rd wr, W1.wf → W1.next = W.next + 1 → W1.get W.next = .cells true 1 (cells ++ [v]) → (∀ b, b < W.next → (∀ o, a ≠ some ⟨b, o, none⟩) → W1.get b = W.get b) →
      ROr P O K M ro sz all rest (upd env d (.slice (some ⟨W.next, 0, none⟩) (n + 1) (n + 1))) X W1 (⟨some rd, wr, W.next, W1.next⟩ :: acc) Q) :
    ROr P O K M ro sz all (⟨some d, .call ⟨.builtin .append, #[s, x], #[t, t2]⟩, ty, pos, af, gd⟩ :: rest) env X W acc Q := by
  have hnew : srcCells W 1 (.slice (some ⟨b2, 0, none⟩) 1 1) = some ([v], 1, [b2]) := by simp [srcCells, AW.row, hb2]
  have hop : aop P ro env ⟨some d, .call ⟨.builtin .append, #[s, x], #[t, t2]⟩, ty, pos, af, gd⟩ W = appendA P t (.slice a n n) (.slice (some ⟨b2, 0, none⟩) 1 1) W := by
    simp [-aEval, aop, hs1, hx, ht2]
  have hcond : ¬ (1 = 0 ∨ y2 = 0 ∨ y2 > 65536 ∨ (n + 1) * y2 > 35184372088832) := by omega
  rcases hO with ⟨rfl, rfl, rfl⟩ | ⟨b, rfl, hbh, hlt, hn, hget, hlen⟩
  · refine ROd.gen (r := ⟨.value (.slice (some ⟨W.next, 0, none⟩) 1 1), W.alloc (.cells true 1 [v]), [b2], []⟩) hw (by
      rw [hop]; simp only [appendA, ht, he, hnew]; rw [if_neg hcond, if_neg (by omega)]; simp) (.inl rfl) (by simp) (by simp [putE, hs]) (k _ [b2] [] (wf_allocW hwf _) rfl (if_pos rfl) fun b hb _ => if_neg (by omega))
  · refine ROd.gen (r := ⟨.value (.slice (some ⟨W.next, 0, none⟩) (n + 1) (n + 1)), (W.set b .gone).alloc (.cells true 1 (cells ++ [v])), [b, b2], [b]⟩) hw (by
      rw [hop]; simp only [appendA, ht, he, hnew]; rw [if_neg hcond, if_neg (by omega)]; simp only [hget]; rw [if_pos (by omega), if_neg (by omega), if_pos (by simp)]; have : (cells.drop 0).take (n * 1) = cells := by rw [List.drop_zero, Nat.mul_one, ← hlen, List.take_length]
      rw [this]) (.inl rfl) (by
      intro c hc hlt2; simp only [List.mem_singleton] at hc; subst hc; exact hM c 0 rfl hlt2) (by simp [putE, hs]) (k _ [b, b2] [b] (wf_allocW (wf_setW hwf hlt _) _) rfl (if_pos rfl) fun c hc hne => by
        rw [alloc_get, if_neg (by simp; omega), set_get, if_neg (fun e => by subst e; exact hne 0 rfl)])
theorem ROd.storeX {t : TypeId} {x y : Operand} {a : Bool} {kd : TK} {z v : Value} {n by' b o g : Nat} {l l' : List Value} (ht : tinfo P t = some ⟨n, a, kd, z, by'⟩) (hx : aEval env x = .pointer (some ⟨b, o, none⟩)) (hy : aEval env y = v) (hn : (cellsOf v).length = n) (hnt : noTup v = true)
    (hwf : W.wf) (hlt : b < W.next) (hb : W.get b = .cells true g l) (hle : o + n ≤ l.length) (hl : splice l o (cellsOf v) = l') (hM : b < K → M b) (hw : wantedA all env ⟨none, .store t x y, ty, pos, af, gd⟩ = true)
    (k : ∀ W1, W1.wf → W1.next = W.next → W1.get b = .cells true g l' → (∀ c, c ≠ b → W1.get c = W.get c) → ROr P O K M ro sz all rest env X W1 (⟨some [b], [b], W.next, W1.next⟩ :: acc) Q) :
    ROr P O K M ro sz all (⟨none, .store t x y, ty, pos, af, gd⟩ :: rest) env X W acc Q := by
  subst hn; subst hl; have hput : W.put ⟨b, o, none⟩ (cellsOf v) = some (W.set b (.cells true g (splice l o (cellsOf v)))) := by simp only [AW.put, hb]; rw [if_pos hle]
  exact ROd.gen (r := ⟨.skip, W.set b (.cells true g (splice l o (cellsOf v))), [b], [b]⟩) (v := undef) hw (by simp only [aop, ht, hx, hy, asPtr, hnt, and_self, if_true, hput, Option.map_some]) (.inr ⟨rfl, rfl⟩) (by simpa using hM) rfl (k _ (wf_setW hwf hlt _) rfl (if_pos rfl) fun c hc => if_neg hc)
end
theorem HH_push0 {W W4 : AW} {h : Nat} {ns : List Int} {ss : List ByteArray} {x : Int} {a1 a2 : Option Addr} {n1 n2 c : Nat} (h0 : h < W.next) (hg : W.get h = .cells true 0 [.slice a1 n1 n1, .slice a2 n2 n2]) (h1 : HS W h a1 n1 (ns.map (.int .i64))) (h2 : HS W h a2 n2 (ss.map .string)) (h3 : ∀ b o o', a1 = some ⟨b, o, none⟩ → a2 ≠ some ⟨b, o', none⟩)
    (hwf : W4.wf) (hc : W.next ≤ c) (hc4 : c < W4.next) (hgc : W4.get c = .cells true 1 (ns.map (.int .i64) ++ [.int .i64 x])) (hgh : W4.get h = .cells true 0 [.slice (some ⟨c, 0, none⟩) (n1 + 1) (n1 + 1), .slice a2 n2 n2])
    (hoth : ∀ b, b < W.next → b ≠ h → (∀ o, a1 ≠ some ⟨b, o, none⟩) → W4.get b = W.get b) : HH W4 h (ns ++ [x]) ss ∧ HStep W h W4 := by
  have hlen : (ns.map (Value.int .i64)).length = n1 := by
    rcases h1 with ⟨_, rfl, e⟩ | ⟨_, _, _, _, _, _, e⟩
    · rw [e]; rfl
    · exact e
  refine ⟨⟨by omega, _, _, _, _, hgh, .inr ⟨c, rfl, by omega, hc4, by omega, by simpa using hgc, by simp at hlen; simp [hlen]⟩, ?_, ?_⟩, ⟨hwf, by omega, fun b hb hn => hoth b hb (fun e => hn (.inl e)) fun o e => hn (.inr ⟨_, _, _, _, hg, .inl ⟨o, e⟩⟩)⟩, ?_⟩
  · rcases h2 with h2 | ⟨b, rfl, g1, g2, g3, g4, g5⟩
    · exact .inl h2
    · exact .inr ⟨b, rfl, g1, by omega, g3, (hoth b g2 g1 fun o e => h3 b o 0 e rfl).trans g4, g5⟩
  · intro b o o' e e2; cases e; rcases h2 with ⟨e3, _⟩ | ⟨b', e3, _, g2, _⟩
    · rw [e3] at e2; cases e2
    · rw [e3] at e2; cases e2; omega
  · intro b hb; rcases hb with rfl | ⟨a1', n1', a2', n2', hg', hcs⟩
    · exact .inl (.inl rfl)
    · rw [hgh] at hg'; simp only [Blk.cells.injEq, List.cons.injEq, Value.slice.injEq, and_true, true_and] at hg'; obtain ⟨⟨rfl, rfl, _⟩, rfl, rfl, _⟩ := hg'; rcases hcs with ⟨o, e⟩ | ⟨o, e⟩
      · cases e; exact .inr hc
      · exact .inl (.inr ⟨_, _, _, _, hg, .inr ⟨o, e⟩⟩)
theorem HH_push1 {W W4 : AW} {h : Nat} {ns : List Int} {ss : List ByteArray} {x : ByteArray} {a1 a2 : Option Addr} {n1 n2 c : Nat} (h0 : h < W.next) (hg : W.get h = .cells true 0 [.slice a1 n1 n1, .slice a2 n2 n2]) (h1 : HS W h a1 n1 (ns.map (.int .i64))) (h2 : HS W h a2 n2 (ss.map .string)) (h3 : ∀ b o o', a1 = some ⟨b, o, none⟩ → a2 ≠ some ⟨b, o', none⟩)
    (hwf : W4.wf) (hc : W.next ≤ c) (hc4 : c < W4.next) (hgc : W4.get c = .cells true 1 (ss.map .string ++ [.string x])) (hgh : W4.get h = .cells true 0 [.slice a1 n1 n1, .slice (some ⟨c, 0, none⟩) (n2 + 1) (n2 + 1)])
    (hoth : ∀ b, b < W.next → b ≠ h → (∀ o, a2 ≠ some ⟨b, o, none⟩) → W4.get b = W.get b) : HH W4 h ns (ss ++ [x]) ∧ HStep W h W4 := by
  have hlen : (ss.map Value.string).length = n2 := by
    rcases h2 with ⟨_, rfl, e⟩ | ⟨_, _, _, _, _, _, e⟩
    · rw [e]; rfl
    · exact e
  refine ⟨⟨by omega, _, _, _, _, hgh, ?_, .inr ⟨c, rfl, by omega, hc4, by omega, by simpa using hgc, by simp at hlen; simp [hlen]⟩, ?_⟩, ⟨hwf, by omega, fun b hb hn => hoth b hb (fun e => hn (.inl e)) fun o e => hn (.inr ⟨_, _, _, _, hg, .inr ⟨o, e⟩⟩)⟩, ?_⟩
  · rcases h1 with h1 | ⟨b, rfl, g1, g2, g3, g4, g5⟩
    · exact .inl h1
    · exact .inr ⟨b, rfl, g1, by omega, g3, (hoth b g2 g1 fun o e => h3 b 0 o rfl e).trans g4, g5⟩
  · intro b o o' e e2; cases e2; rcases h1 with ⟨e3, _⟩ | ⟨b', e3, _, g2, _⟩
    · rw [e3] at e; cases e
    · rw [e3] at e; cases e; omega
  · intro b hb; rcases hb with rfl | ⟨a1', n1', a2', n2', hg', hcs⟩
    · exact .inl (.inl rfl)
    · rw [hgh] at hg'; simp only [Blk.cells.injEq, List.cons.injEq, Value.slice.injEq, and_true, true_and] at hg'; obtain ⟨⟨rfl, rfl, _⟩, rfl, rfl, _⟩ := hg'; rcases hcs with ⟨o, e⟩ | ⟨o, e⟩
      · exact .inl (.inr ⟨_, _, _, _, hg, .inl ⟨o, e⟩⟩)
      · cases e; exact .inr hc
def encI : List Value → List Int
  | [] => []
  | .int _ x :: r => x :: encI r
  | .bool b :: r => (if b then 1 else 0) :: encI r
  | _ :: r => encI r
def encS : List Value → List ByteArray
  | [] => []
  | .string s :: r => s :: encS r
  | _ :: r => encS r
def flatI (el : Nat → List Value) (n : Nat) : List Int := (List.range n).flatMap fun i => encI (el i)
def flatS (el : Nat → List Value) (n : Nat) : List ByteArray := (List.range n).flatMap fun i => encS (el i)
theorem flatI_succ (el : Nat → List Value) (n : Nat) : flatI el (n + 1) = flatI el n ++ encI (el n) := by simp [flatI, List.range_succ]
theorem flatS_succ (el : Nat → List Value) (n : Nat) : flatS el (n + 1) = flatS el n ++ encS (el n) := by simp [flatS, List.range_succ]
theorem encI_len (l : List Value) : (encI l).length ≤ l.length := by
  induction l with
  | nil => simp [encI]
  | cons v l ih => cases v <;> simp [encI] <;> omega
theorem encS_len (l : List Value) : (encS l).length ≤ l.length := by
  induction l with
  | nil => simp [encS]
  | cons v l ih => cases v <;> simp [encS] <;> omega
theorem flatI_len {el : Nat → List Value} {s n : Nat} (h : ∀ i, i < n → (el i).length = s) : (flatI el n).length ≤ n * s := by
  induction n with
  | zero => simp [flatI]
  | succ n ih =>
    rw [flatI_succ, List.length_append, Nat.succ_mul]; have h1 := ih fun i hi => h i (by omega); have h2 := encI_len (el n); rw [h n (by omega)] at h2; omega
theorem flatS_len {el : Nat → List Value} {s n : Nat} (h : ∀ i, i < n → (el i).length = s) : (flatS el n).length ≤ n * s := by
  induction n with
  | zero => simp [flatS]
  | succ n ih =>
    rw [flatS_succ, List.length_append, Nat.succ_mul]; have h1 := ih fun i hi => h i (by omega); have h2 := encS_len (el n); rw [h n (by omega)] at h2; omega
structure Kp (W : AW) (h b : Nat) (own : Bool) (g : Nat) (l : List Value) : Prop where
  get : W.get b = .cells own g l
  lt : b < W.next
  nh : ¬ HB W h b
theorem Kp.step {W W1 : AW} {h b g : Nat} {own : Bool} {l : List Value} (k : Kp W h b own g l) (s : HStep W h W1) : Kp W1 h b own g l :=
  ⟨(s.aft.same b k.lt k.nh).trans k.get, Nat.lt_of_lt_of_le k.lt s.aft.next, fun hb => (s.sub b hb).elim k.nh fun h => by have := k.lt; omega⟩
def XS (W : AW) (h s : Nat) (el : Nat → List Value) (a : Option Addr) (n : Nat) : Prop :=
  (a = none ∧ n = 0) ∨ ∃ b o own g l, a = some ⟨b, o, none⟩ ∧ Kp W h b own g l ∧ n ≤ 4294967296 ∧ ∀ i, i < n → o + i * s + s ≤ l.length ∧ (l.drop (o + i * s)).take s = el i
theorem XS.step {W W1 : AW} {h s n : Nat} {el : Nat → List Value} {a : Option Addr} (x : XS W h s el a n) (st : HStep W h W1) : XS W1 h s el a n := by
  rcases x with x | ⟨b, o, own, g, l, h1, h2, h3⟩
  · exact .inl x
  · exact .inr ⟨b, o, own, g, l, h1, h2.step st, h3⟩
theorem XS.le {W : AW} {h s n : Nat} {el : Nat → List Value} {a : Option Addr} (x : XS W h s el a n) : n ≤ 4294967296 := by
  rcases x with ⟨_, rfl⟩ | ⟨_, _, _, _, _, _, _, h, _⟩
  · omega
  · exact h
theorem HH.new {W W1 : AW} {h : Nat} {ns : List Int} {ss : List ByteArray} (hh : HH W h ns ss) (g : Grow W.next noS W noS W1) (hwf : W1.wf) : HH W1 h ns ss ∧ HStep W h W1 ∧ ∀ b, HB W1 h b → HB W h b := by
  have hA : Aft (fun _ => False) W W1 := ⟨hwf, g.next, fun b hb _ => g.frame b hb rfl⟩
  obtain ⟨h1, h2⟩ := hh.keep hA fun _ _ h => h; exact ⟨h1, ⟨⟨hwf, g.next, fun b hb _ => g.frame b hb rfl⟩, fun b hb => .inl ((h2 b).1 hb)⟩, fun b => (h2 b).1⟩
theorem Kp.own {W W1 : AW} {h b : Nat} {l : List Value} {K : Nat} {ns : List Int} {ss : List ByteArray} (hh : HH W h ns ss) (hs : ∀ b, HB W1 h b → HB W h b) (o : Ownd K noS W1 b 0 l) (eb : b = W.next) : Kp W1 h b true 0 l :=
  ⟨o.get, o.lt, fun hb => by have := hh.hb_lt (hs b hb); omega⟩
theorem HS.len {α : Type} {f : α → Value} {W : AW} {h n : Nat} {a : Option Addr} {l : List α} (x : HS W h a n (l.map f)) : n = l.length := by
  rcases x with ⟨_, e, e2⟩ | ⟨_, _, _, _, _, _, e⟩
  · simp at e2; simp [e, e2]
  · simpa using e.symm
theorem HS.at {α : Type} {f : α → Value} {W : AW} {h n i : Nat} {a : Option Addr} {l : List α} (x : HS W h a n (l.map f)) (hi : i < l.length) : ∃ b, a = some ⟨b, 0, none⟩ ∧ b < W.next ∧ W.get b = .cells true 1 (l.map f) ∧ ((l.map f).drop i).take 1 = [f l[i]] := by
  rcases x with ⟨_, _, e2⟩ | ⟨b, rfl, _, h2, _, h4, _⟩
  · simp at e2; simp [e2] at hi
  · refine ⟨b, rfl, h2, h4, ?_⟩; rw [List.drop_eq_getElem_cons (by simpa using hi)]; simp
theorem HB_empty {W : AW} {h b : Nat} (hg : W.get h = .cells true 0 [.slice none 0 0, .slice none 0 0]) (hb : HB W h b) : b = h := by
  rcases hb with rfl | ⟨a1, n1, a2, n2, hg', hc⟩
  · rfl
  · rw [hg] at hg'; simp only [Blk.cells.injEq, List.cons.injEq, Value.slice.injEq, and_true, true_and] at hg'; obtain ⟨⟨e1, _⟩, e2, _⟩ := hg'; rcases hc with ⟨o, e⟩ | ⟨o, e⟩
    · rw [e] at e1; cases e1
    · rw [e] at e2; cases e2
theorem HH_empty {W : AW} {h : Nat} (hlt : h < W.next) (hg : W.get h = .cells true 0 [.slice none 0 0, .slice none 0 0]) : HH W h [] [] :=
  ⟨hlt, none, 0, none, 0, hg, .inl ⟨rfl, rfl, rfl⟩, .inl ⟨rfl, rfl, rfl⟩, fun b o o' e => by cases e⟩
def WB (W : AW) (b m : Nat) : Prop := W.wf ∧ b < W.next ∧ ∃ g l, W.get b = .cells true g l ∧ m ≤ l.length
theorem splice_len {l vs : List Value} {o : Nat} (h : o + vs.length ≤ l.length) : (splice l o vs).length = l.length := by
  unfold Abs.splice; simp; omega
def WS (W : AW) (s : Nat) (a : Option Addr) (n : Nat) : Prop := (a = none ∧ n = 0) ∨ ∃ b o m, a = some ⟨b, o, none⟩ ∧ o + n * s ≤ m ∧ WB W b m
def RS (W W1 : AW) (s : Nat) (el : Nat → List Value) (a : Option Addr) (n : Nat) : Prop := (a = none ∧ n = 0) ∨ ∃ b o g l, a = some ⟨b, o, none⟩ ∧ W.next ≤ b ∧ b < W1.next ∧ W1.get b = .cells true g l ∧ o ≤ l.length ∧ n ≤ 4294967296 ∧ ∀ i, i < n → o + i * s + s ≤ l.length ∧ (l.drop (o + i * s)).take s = el i
def RSl (W : AW) (h lo s : Nat) (el : Nat → List Value) (a : Option Addr) (n : Nat) : Prop := (a = none ∧ n = 0) ∨ ∃ b o g l, a = some ⟨b, o, none⟩ ∧ lo ≤ b ∧ Kp W h b true g l ∧ o ≤ l.length ∧ n ≤ 4294967296 ∧ ∀ i, i < n → o + i * s + s ≤ l.length ∧ (l.drop (o + i * s)).take s = el i
theorem RS.sl {W W1 : AW} {h s n lo : Nat} {el : Nat → List Value} {a : Option Addr} {ns : List Int} {ss : List ByteArray} (r : RS W W1 s el a n) (hh : HH W h ns ss) (hs : ∀ b, HB W1 h b → HB W h b) (hlo : lo ≤ W.next) : RSl W1 h lo s el a n := by
  rcases r with r | ⟨b, o, g, l, h1, h2, h3, h4, h5⟩
  · exact .inl r
  · exact .inr ⟨b, o, g, l, h1, by omega, ⟨h4, h3, fun hb => by have := hh.hb_lt (hs b hb); omega⟩, h5⟩
theorem RSl.step {W W1 : AW} {h s n lo : Nat} {el : Nat → List Value} {a : Option Addr} (r : RSl W h lo s el a n) (st : HStep W h W1) : RSl W1 h lo s el a n := by
  rcases r with r | ⟨b, o, g, l, h1, h2, h3, h4⟩
  · exact .inl r
  · exact .inr ⟨b, o, g, l, h1, h2, h3.step st, h4⟩
theorem RSl.xs {W : AW} {h s n lo : Nat} {el : Nat → List Value} {a : Option Addr} (r : RSl W h lo s el a n) : XS W h s el a n := by
  rcases r with r | ⟨b, o, g, l, h1, h2, h3, _, h4⟩
  · exact .inl r
  · exact .inr ⟨b, o, true, g, l, h1, h3, h4⟩
theorem RSl.ws {W : AW} {h s n lo : Nat} {el : Nat → List Value} {a : Option Addr} (hwf : W.wf) (r : RSl W h lo s el a n) : WS W s a n := by
  rcases r with r | ⟨b, o, g, l, h1, h2, h3, h4, h5, h6⟩
  · exact .inl r
  · refine .inr ⟨b, o, l.length, h1, ?_, hwf, h3.lt, g, l, h3.get, Nat.le_refl _⟩; rcases Nat.eq_zero_or_pos n with rfl | hp
    · omega
    · have := (h6 (n - 1) (by omega)).1; obtain ⟨m, rfl⟩ : ∃ m, n = m + 1 := ⟨n - 1, by omega⟩
      rw [Nat.succ_mul]; simp at this; omega
theorem RSl.blk {W : AW} {h s n lo : Nat} {el : Nat → List Value} {a : Option Addr} (r : RSl W h lo s el a n) {c : Nat} (hc : ∃ o, a = some ⟨c, o, none⟩) : lo ≤ c ∧ ¬ HB W h c := by
  obtain ⟨o, e⟩ := hc; rcases r with ⟨r, _⟩ | ⟨b, o', g, l, h1, h2, h3, _⟩
  · rw [r] at e; cases e
  · rw [h1] at e; cases e; exact ⟨h2, h3.nh⟩
section
variable {K : Nat} {M : Nat → Prop} {ro : Option Nat} {sz : Nat} {all : Array Oper} {rest : List Oper} {env : Env} {X : Aux} {W : AW} {acc : List FPr} {Q : Env → Aux → AW → List FPr → Prop}
variable {d : Nat} {ty ty2 : TypeId} {pos pos2 : String} {af af2 : Array Edge}
theorem ROd.allocS {t : TypeId} {n y : Nat} {a : Bool} {kd : TK} {z v : Value} {yo : Operand} (ht : tinfo P t = some ⟨n, a, kd, z, y⟩) (hwf : W.wf) (hK : K ≤ W.next) (hz : (cellsOf z).length = n) (hy : aEval (upd env d (.pointer (some ⟨W.next, 0, none⟩))) yo = v) (hn : (cellsOf v).length = n) (hnt : noTup v = true) (hs : d < sz)
    (k : ∀ b W1, b = W.next → W1.next = b + 1 → Ownd K noS W1 b 0 (cellsOf v) → TH noS W1 → Grow W.next noS W noS W1 → ROr P O K M ro sz all rest (upd env d (.pointer (some ⟨b, 0, none⟩))) X W1 (⟨some [b], [b], W1.next, W1.next⟩ :: ⟨some [], [], W.next, W1.next⟩ :: acc) Q) :
    ROr P O K M ro sz all (⟨some d, .alloc t, ty, pos, af, none⟩ :: ⟨none, .store t (.tmp d) yo, ty2, pos2, af2, none⟩ :: rest) env X W acc Q := by
  refine ROd.allocX (S := noS) ht (th0 hwf) hK rfl hs fun b W1 eb en o1 hH1 g1 => ?_; subst eb; refine ROd.storeX (l' := cellsOf v) ht (by show upd env d _ d = _; unfold upd; rw [if_pos rfl]) hy hn hnt hH1.wf o1.lt o1.get (by rw [hz]; omega) (by unfold Abs.splice; rw [List.take_zero, List.nil_append, List.drop_eq_nil_of_le (by rw [hz, hn]; omega), List.append_nil]) (fun h => by omega) rfl fun W2 wf2 en2 hg2 hs2 => ?_; have := k W.next W2 rfl (by omega) ⟨hg2, rfl, by omega, hK⟩ (th0 wf2) ⟨Le.refl _, by omega, fun _ _ h => h, fun b hb _ => (hs2 b (by omega)).trans (g1.frame b hb rfl), fun b l hb => by cases hb⟩
  rw [show W1.next = W2.next from en2.symm]; exact this
end
end Go.Abs
