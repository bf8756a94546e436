/- A part of the proof that TopAnewTrack returns true at every input of bulk at most 1048576: typed heaps and the rules of walks. -/
import Derived.Test.YtliohlkclfcigaaAbsVb
set_option linter.unusedVariables false
set_option linter.unusedSimpArgs false
namespace Go.Abs
variable {P : Program} {O : Orc}
def OwnSl (K : Nat) (S : Sg) (W : AW) (e : List VT) (a : Option Addr) (n : Nat) : Prop :=
  (a = none ∧ n = 0) ∨ ∃ b l, a = some ⟨b, 0, none⟩ ∧ 0 < n ∧ 0 < e.length ∧ Ownd K S W b e.length l ∧ VRows S (List.replicate n e).flatten l
theorem OwnSl.nil {K : Nat} {S : Sg} {W : AW} {e : List VT} : OwnSl K S W e none 0 := .inl ⟨rfl, rfl⟩
theorem OwnSl.grow {K n : Nat} {S S' : Sg} {W W' : AW} {e : List VT} {a : Option Addr} (h : OwnSl K S W e a n) (k : Grow W.next S W S' W') : OwnSl K S' W' e a n := by
  rcases h with h | ⟨b, l, h1, h2, h3, h4, h5⟩
  · exact .inl h
  · exact .inr ⟨b, l, h1, h2, h3, h4.grow k, h5.mono k.le⟩
theorem own_ne {K b c g g' : Nat} {S : Sg} {W : AW} {l l' : List Value} (h : Ownd K S W b g l) (h' : Ownd K S W c g' l') (hg : g ≠ g') : b ≠ c := by
  intro e; subst e; have := h.get; rw [h'.get] at this; simp only [Blk.cells.injEq, true_and] at this; exact hg this.1.symm
theorem OwnSl.other {K n c : Nat} {S : Sg} {W W' : AW} {e : List VT} {a : Option Addr} {lc : List Value} (h : OwnSl K S W e a n) (hc : Ownd K S W c 0 lc) (hn : W'.next = W.next) (hg : ∀ x, x ≠ c → W'.get x = W.get x) : OwnSl K S W' e a n := by
  rcases h with h | ⟨b, l, h1, h2, h3, h4, h5⟩
  · exact .inl h
  · exact .inr ⟨b, l, h1, h2, h3, h4.other hn hg (own_ne h4 hc (by omega)), h5⟩
theorem rep_drop {α : Type} {e : List α} : ∀ {n i : Nat}, i < n → ((List.replicate n e).flatten.drop (i * e.length)).take e.length = e
  | 0, _, h => by omega
  | n + 1, 0, _ => by simp [List.replicate_succ]
  | n + 1, i + 1, h => by
    rw [List.replicate_succ, List.flatten_cons, Nat.succ_mul, Nat.add_comm, ← List.drop_drop, List.drop_left]; exact rep_drop (by omega)
theorem rep_len {α : Type} {e : List α} {n : Nat} : (List.replicate n e).flatten.length = n * e.length := by
  induction n with
  | zero => simp
  | succ n ih => rw [List.replicate_succ, List.flatten_cons, List.length_append, ih, Nat.succ_mul, Nat.add_comm]
theorem OwnSl.share {K n : Nat} {S : Sg} {W : AW} {e : List VT} {a : Option Addr} (h : OwnSl K S W e a n) (hH : TH S W) (hn : n ≤ 4294967296) :
    ∃ S', TH S' W ∧ Grow K S W S' W ∧ SlOk S' e a n n ∧ (∀ b l, Ownd K S W b 0 l → Ownd K S' W b 0 l) := by
  rcases h with ⟨rfl, rfl⟩ | ⟨b, l, rfl, h2, h3, h4, h5⟩
  · exact ⟨S, hH, Grow.refl _ _ _, .inl ⟨rfl, rfl, rfl⟩, fun _ _ h => h⟩
  · obtain ⟨S', e1, e2, e3, e4⟩ := h4.share hH h5; refine ⟨S', e3, e4, .inr ⟨b, 0, _, _, rfl, ⟨Nat.le_refl _, hn⟩, e2, .inr rfl, by rw [rep_len]; omega, fun i hi => ?_, n, rfl⟩, fun c lc hc => ownd_sput' hc e1 (own_ne hc h4 (by omega))⟩; rw [Nat.zero_add]; exact rep_drop hi
section
variable {K : Nat} {M : Nat → Prop} {ro : Option Nat} {sz : Nat} {all : Array Oper} {rest : List Oper} {env : Env} {X : Aux} {W : AW} {acc : List FPr} {Q : Env → Aux → AW → List FPr → Prop}
variable {d : Nat} {ty : TypeId} {pos : String} {af : Array Edge} {gd : Option (Nat × Bool)} {S : Sg}
theorem rep_snoc {α : Type} {e : List α} {n : Nat} : (List.replicate (n + 1) e).flatten = (List.replicate n e).flatten ++ e := by
  rw [List.replicate_succ']; simp
theorem ROd.append1 {t t2 el el2 : TypeId} {s x : Operand} {a1 a2 a3 : Bool} {k1 : TK} {z1 z2 z3 : Value} {n1 n2 n3 y1 y2 y3 n b2 : Nat} {a : Option Addr} {e : List VT} {cells : List Value}
    (ht : tinfo P t = some ⟨n1, a1, .slice el, z1, y1⟩) (he : tinfo P el = some ⟨n2, a2, k1, z2, y2⟩) (ht2 : tinfo P t2 = some ⟨n3, a3, .slice el2, z3, y3⟩)
    (hs1 : aEval env s = .slice a n n) (hx : aEval env x = .slice (some ⟨b2, 0, none⟩) 1 1) (hO : OwnSl K S W e a n) (hb2 : Ownd K S W b2 0 cells) (hlen : cells.length = n2) (hel : e.length = n2) (hr : VRows S e cells) (hp : 0 < n2)
    (hy : 0 < y2) (hy2 : y2 ≤ 65536) (hbig : (n + 1) * y2 ≤ 35184372088832) (hH : TH S W) (hK : K ≤ W.next)
    (hw : wantedA all env ⟨some d, .call ⟨.builtin .append, #[s, x], #[t, t2]⟩, ty, pos, af, gd⟩ = true) (hs : d < sz)
    (k : ∀ a' W1 rd wr, OwnSl K S W1 e a' (n + 1) → TH S W1 → Grow K S W S W1 → W.next ≤ W1.next → (∀ b, b < W.next → b ∉ wr → W1.get b = W.get b) → (∀ b ∈ wr, K ≤ b ∧ S b = none) → (∀ b l, Ownd K S W b 0 l → b ∉ wr) →
      (∀ b l, Ownd K S W b 0 l → Ownd K S W1 b 0 l) → (∀ b, b < W.next → (∀ g l, W.get b ≠ .cells true g l) → W1.get b = W.get b) → ROr P O K M ro sz all rest (upd env d (.slice a' (n + 1) (n + 1))) X W1 (⟨some rd, wr, W.next, W1.next⟩ :: acc) Q) :
    ROr P O K M ro sz all (⟨some d, .call ⟨.builtin .append, #[s, x], #[t, t2]⟩, ty, pos, af, gd⟩ :: rest) env X W acc Q := by
  subst hel; have hnew : srcCells W e.length (.slice (some ⟨b2, 0, none⟩) 1 1) = some (cells, 1, [b2]) := by
    simp only [srcCells, AW.row, hb2.get]; rw [if_pos (by omega)]; simp [← hlen]
  have hop : aop P ro env ⟨some d, .call ⟨.builtin .append, #[s, x], #[t, t2]⟩, ty, pos, af, gd⟩ W = appendA P t (.slice a n n) (.slice (some ⟨b2, 0, none⟩) 1 1) W := by
    simp [-aEval, aop, hs1, hx, ht2]
  have hcond : ¬ (e.length = 0 ∨ y2 = 0 ∨ y2 > 65536 ∨ (n + 1) * y2 > 35184372088832) := by omega
  rcases hO with ⟨rfl, rfl⟩ | ⟨b, l, rfl, hn, _, hown, hrows⟩
  · obtain ⟨h1, h2⟩ := grow_alloc0 (K := W.next) hH (Nat.le_refl _) (.cells true e.length cells); refine ROd.gen (r := ⟨.value (.slice (some ⟨W.next, 0, none⟩) 1 1), W.alloc (.cells true e.length cells), [b2], []⟩) hw (by
      rw [hop]; simp only [appendA, ht, he, hnew]; rw [if_neg hcond, if_neg (by omega)]; simp) (.inl rfl) (by simp) (by simp [putE, hs]) (k _ _ [b2] [] (.inr ⟨W.next, cells, rfl, by omega, hp, ⟨if_pos rfl, hH.fresh (Nat.le_refl _), by simp, hK⟩, by simpa using hr⟩) h1 ⟨h2.le, h2.next, fun b hb => h2.new b (by omega), fun b hb => h2.frame b (by omega), h2.ro⟩ (by simp) (fun b hb _ => if_neg (by omega)) (by simp) (by simp) (fun b l hb => hb.grow h2) (fun b hb _ => if_neg (by omega)))
  · have hl : l.length = n * e.length := by rw [hrows.length, rep_len]
    obtain ⟨g1, g2⟩ := grow_set0 (K := K) hH hown.non hown.lt hown.ge .gone; obtain ⟨h1, h2⟩ := grow_alloc0 (K := (W.set b .gone).next) g1 (Nat.le_refl _) (.cells true e.length (l ++ cells)); have hne : ∀ c lc, Ownd K S W c 0 lc → c ≠ b := fun c lc hc => own_ne hc hown (by omega); have hget : ∀ c, c < W.next → c ≠ b → ((W.set b .gone).alloc (.cells true e.length (l ++ cells))).get c = W.get c := by
      intro c hc hcb; rw [alloc_get, if_neg (by simp; omega), set_get, if_neg hcb]
    refine ROd.gen (r := ⟨.value (.slice (some ⟨W.next, 0, none⟩) (n + 1) (n + 1)), (W.set b .gone).alloc (.cells true e.length (l ++ cells)), [b, b2], [b]⟩) hw (by
      rw [hop]; simp only [appendA, ht, he, hnew]; rw [if_neg hcond, if_neg (by omega)]; simp only [hown.get]; rw [if_pos (by omega), if_neg (by omega), if_pos (by simp)]; have : (l.drop 0).take (n * e.length) = l := by rw [List.drop_zero, ← hl, List.take_length]
      rw [this]) (.inl rfl) (by
      intro c hc hlt; simp only [List.mem_singleton] at hc; subst hc; have := hown.ge; omega) (by simp [putE, hs])
      (k _ _ [b, b2] [b] (.inr ⟨W.next, l ++ cells, rfl, by omega, hp, ⟨if_pos rfl, hH.fresh (Nat.le_refl _), by simp, hK⟩, by rw [rep_snoc]; exact hrows.append hr⟩) h1
        ⟨h2.le, h2.next, fun c hc hs => hs, fun c hc hs => hget c (by have := hown.lt; have := hown.ge; omega) (by have := hown.ge; omega), fun c lc hc => hget c (hH.lt hc) (fun e => by subst e; rw [hown.non] at hc; cases hc)⟩ (by simp) (fun c hc hn => hget c hc (by simpa using hn)) (by simp; exact ⟨hown.ge, hown.non⟩) (fun c lc hc => by simpa using hne c lc hc) (fun c lc hc => ⟨(hget c hc.lt (hne c lc hc)).trans hc.get, hc.non, by have := hc.lt; simp; omega, hc.ge⟩) (fun c hc hnc => hget c hc (fun e => by subst e; exact hnc _ _ hown.get)))
end
theorem Ownd.row {K b o n g : Nat} {S : Sg} {W : AW} {l : List Value} (h : Ownd K S W b g l) (hle : o + n ≤ l.length) : W.row ⟨b, o, none⟩ n = some ((l.drop o).take n) := by
  simp only [AW.row, h.get]; rw [if_pos hle]
end Go.Abs
namespace Go.Abs
variable {P : Program} {O : Orc}
def RR (P : Program) (O : Orc) (l : Nat) (args : List Value) (W : AW) (M : Nat → Prop) (Q : Value → AW → Prop) : Prop :=
  ∃ n v W' wr, ev P O n (.round l args W) = some (.call (.returned v) none W' wr) ∧ (∀ b ∈ wr, M b) ∧ Q v W'
structure Gy (N : Nat) (S : Sg) (W : AW) (S' : Sg) (W' : AW) : Prop where
  le : Le S S'
  next : W.next ≤ W'.next
  new : ∀ b, b < N → S b = none → S' b = none
  ro : ∀ b l, S b = some (.ro l) → W'.get b = W.get b
theorem Gy.grow0 {N : Nat} {S S' : Sg} {W W' : AW} (h : Gy N S W S' W') : Grow 0 S W S' W' := ⟨h.le, h.next, fun b hb => by omega, fun b hb => by omega, h.ro⟩
theorem Grow.of_set {N c : Nat} {S : Sg} {W W' : AW} (hn : W'.next = W.next) (hf : ∀ x, x ≠ c → W'.get x = W.get x) (hS : S c = none) (hc : N ≤ c) : Grow N S W S W' :=
  ⟨Le.refl _, by omega, fun _ _ h => h, fun b hb _ => hf b (by omega), fun b l hb => hf b (fun e => by rw [e, hS] at hb; cases hb)⟩
theorem Grow.of_put {N c : Nat} {S S' : Sg} {W : AW} {bt : BT} (e : S' = sput S c bt) (hS : S c = none) (hc : N ≤ c) : Grow N S W S' W := by
  subst e; exact ⟨le_sput hS bt, Nat.le_refl _, fun b hb hs => by rw [sput_ne _ _ (show b ≠ c by omega)]; exact hs, fun _ _ _ => rfl, fun _ _ _ => rfl⟩
theorem wr_back {N cl : Nat} {S0 S : Sg} (hle : Le S0 S) (hnew : ∀ b, b < N → S0 b = none → S b = none) {b : Nat} (hb : b < N) (h : Wr cl S b) : Wr cl S0 b := by
  cases hS : S0 b with
  | none => unfold Wr at h; rw [hnew b hb hS] at h; exact h.elim
  | some bt => unfold Wr at h ⊢; rw [hle b bt hS] at h; rw [hS]; exact h
section
variable {K : Nat} {M : Nat → Prop} {ro : Option Nat} {sz : Nat} {all : Array Oper} {rest : List Oper} {env : Env} {X : Aux} {W : AW} {acc : List FPr} {Q : Env → Aux → AW → List FPr → Prop}
variable {d : Nat} {ty : TypeId} {pos : String} {af : Array Edge} {gd : Option (Nat × Bool)} {S : Sg}
theorem ROd.round {c : Callee} {as : Array Operand} {ats : Array TypeId} {l : Nat} {vs : List Value} {rd : List Nat} {M' : Nat → Prop} {Q' : Value → AW → Prop}
    (h : aop P ro env ⟨some d, .call ⟨c, as, ats⟩, ty, pos, af, gd⟩ W = some ⟨.round l vs, W, rd, []⟩) (hw : wantedA all env ⟨some d, .call ⟨c, as, ats⟩, ty, pos, af, gd⟩ = true) (hs : d < sz)
    (hwf : W.wf) (hc : RR P O l vs W M' Q') (hM : ∀ b, b < K → M' b → M b)
    (k : ∀ v W1 wr, Aft M' W W1 → Q' v W1 → (∀ b ∈ wr, M' b) → (∀ b ∈ wr, b < W1.next) → ROr P O K M ro sz all rest (upd env d v) X W1 (⟨none, wr, W.next, W1.next⟩ :: acc) Q) :
    ROr P O K M ro sz all (⟨some d, .call ⟨c, as, ats⟩, ty, pos, af, gd⟩ :: rest) env X W acc Q := by
  obtain ⟨n1, v, W1, wr, h1, h2, h3⟩ := hc; have hg := ev_good P O n1 _ _ h1 hwf; have ha : Aft M' W W1 := ⟨hg.1, hg.2.next, fun b hb hn => hg.2.same b hb fun hm => hn (h2 b hm)⟩
  refine ROd.cont (n0 := n1) (v := v) (fp := ⟨none, wr, W.next, W1.next⟩) (fun b hb hlt => hM b hlt (h2 b hb)) ⟨(fun hs => by
    obtain ⟨_, _, _, v, g⟩ := silent_quiet hs h; cases g), (fun hs => by
    obtain ⟨_, v, g⟩ := writeless_wr hs h; cases g)⟩ (by simp [putE, hs]) (k v W1 wr ha h3 h2 hg.2.lt) fun n p env' X' W' fps hn he => ?_
  simp only [ev]; rw [if_pos hw, h]; simp only; rw [ev_mono hn h1]; simp only [putE, hs, if_true]; rw [he]
end
section
variable {K : Nat} {M : Nat → Prop} {sz : Nat} {env : Env} {X : Aux} {W : AW} {Q : AExit → Env → Aux → AW → Prop}
theorem RR_intro {l : Nat} {args : List Value} {ps : List Tmp} {asg body : Code} {Q : Value → AW → Prop} (hl : W.get l = .loop .ready none sz env ps asg body) (hlen : args.length = ps.length) (hM : l < K → M l)
    (h : RC P O K M (some l) sz asg (updAll env (ps.zip args)) {} W fun e env1 X1 W1 => e = .normal ∧ W1.get l = .loop .ready none sz env ps asg body ∧
      RC P O K M (some l) sz body env1 X1 (W1.set l (.loop .busy none sz env ps asg body)) fun e env2 X2 W2 => e = .normal ∧ X2.defs = [] ∧ W2.get l = .loop .busy none sz env ps asg body ∧ Q (.bool true) (W2.set l (.loop .ready none sz env ps asg body))) :
    RR P O l args W (fun b => b < K → M b) Q := by
  obtain ⟨n1, e1, env1, X1, W1, wr1, h1, h2, rfl, h3, n2, e2, env2, X2, W2, wr2, h4, h5, rfl, h6, h7, h8⟩ := h; refine ⟨max n1 n2 + 1, .bool true, _, wr1 ++ l :: (wr2 ++ [l]), ?_, ?_, h8⟩
  · simp only [ev, hl]; rw [if_neg (by simp [hlen]), ev_mono (Nat.le_max_left _ _) h1]; simp only [h3]; rw [ev_mono (Nat.le_max_right _ _) h4]; simp [h6, h7, jumpOf]
  · intro b hb hlt; simp only [List.mem_append, List.mem_cons, List.not_mem_nil, or_false] at hb; rcases hb with hb | rfl | hb | rfl
    · exact h2 b hb hlt
    · exact hM hlt
    · exact h5 b hb hlt
    · exact hM hlt
theorem RC_rangeF {f : Operand} {ps : Array Tmp} {asg body : Code} {g : FuncId} {caps : List Value} {My : Nat → Prop} (hf : aEval env f = .func (.func g) #[] ⟨caps⟩) (hwf : W.wf)
    (hc : RK P O g (.func (.yield W.next) #[] #[] :: caps) (W.alloc (.loop .ready none sz env ps.toList asg body)) My fun _ W' => W'.get W.next = .loop .ready none sz env ps.toList asg body ∧
      Q .normal env X (W'.set W.next (.loop .exhausted none sz env ps.toList asg body))) (hM : ∀ b, b < K → My b → M b) (hK : K ≤ W.next) :
    RC P O K M none sz (.rangeFunc f ps asg body) env X W Q := by
  obtain ⟨n, v, W', wr, h1, h2, h3, h4⟩ := hc; refine ⟨n + 1, .normal, env, X, _, wr ++ [W.next], ?_, ?_, h4⟩
  · simp only [ev, roundOk, Bool.true_eq_false, if_false, hf]; rw [show (#[] : Array Value).toList ++ [Value.func (.yield W.next) #[] #[]] ++ caps = .func (.yield W.next) #[] #[] :: caps from rfl, h1]; simp only [h3]; rw [if_neg (by simp)]
  · intro b hb hlt; simp only [List.mem_append, List.mem_singleton] at hb; rcases hb with hb | rfl
    · exact hM b hlt (h2 b hb (by simp; omega))
    · omega
theorem RC_rangeG {f : Operand} {ps : Array Tmp} {asg body : Code} {g : FuncId} {caps : List Value} {My : Nat → Prop} (hf : aEval env f = .func (.func g) #[] ⟨caps⟩) (hwf : W.wf) (hM : ∀ b, b < K → My b → M b) (hK : K ≤ W.next)
    (hc : ∀ R, R = .loop .ready none sz env ps.toList asg body → RK P O g (.func (.yield W.next) #[] #[] :: caps) (W.alloc R) My fun _ W' => W'.get W.next = R ∧ Q .normal env X (W'.set W.next (.loop .exhausted none sz env ps.toList asg body))) :
    RC P O K M none sz (.rangeFunc f ps asg body) env X W Q :=
  RC_rangeF hf hwf (hc _ rfl) hM hK
end
structure Recd (K : Nat) (S : Sg) (W : AW) (l : Nat) (R : Blk) : Prop where
  get : W.get l = R
  non : S l = none
  lt : l < W.next
  ge : K ≤ l
theorem Recd.grow {K l : Nat} {R : Blk} {S S' : Sg} {W W' : AW} (h : Recd K S W l R) (k : Grow W.next S W S' W') : Recd K S' W' l R :=
  ⟨(k.frame l h.lt h.non).trans h.get, k.new l h.lt h.non, Nat.lt_of_lt_of_le h.lt k.next, h.ge⟩
theorem rec_ne {K l b g : Nat} {R : Blk} {S : Sg} {W : AW} {cs : List Value} (h : Recd K S W l R) (hR : ∀ g cs, R ≠ .cells true g cs) (ho : Ownd K S W b g cs) : l ≠ b := by
  intro e; subst e; have := h.get; rw [ho.get] at this; exact hR _ _ this.symm
theorem Recd.other {K l c : Nat} {R : Blk} {S : Sg} {W W' : AW} (h : Recd K S W l R) (hn : W'.next = W.next) (hg : ∀ x, x ≠ c → W'.get x = W.get x) (hc : l ≠ c) : Recd K S W' l R :=
  ⟨(hg l hc).trans h.get, h.non, by rw [hn]; exact h.lt, h.ge⟩
theorem Recd.put {K l c : Nat} {R : Blk} {S S' : Sg} {W : AW} {bt : BT} (h : Recd K S W l R) (e : S' = sput S c bt) (hc : l ≠ c) : Recd K S' W l R :=
  ⟨h.get, by rw [e, sput_ne _ _ hc]; exact h.non, h.lt, h.ge⟩
theorem Recd.set {K l : Nat} {R : Blk} {S : Sg} {W : AW} (h : Recd K S W l R) (hH : TH S W) (R' : Blk) : ∃ W', W' = W.set l R' ∧ W'.next = W.next ∧ Recd K S W' l R' ∧ TH S W' ∧ Grow K S W S W' ∧ ∀ c, c ≠ l → W'.get c = W.get c := by
  obtain ⟨g1, g2⟩ := grow_set0 (K := K) hH h.non h.lt h.ge R'; exact ⟨_, rfl, rfl, ⟨if_pos rfl, h.non, h.lt, h.ge⟩, g1, g2, fun c hc => if_neg hc⟩
theorem rec_alloc {K : Nat} {S : Sg} {W : AW} (hH : TH S W) (hK : K ≤ W.next) (R : Blk) : ∃ W', W' = W.alloc R ∧ W'.next = W.next + 1 ∧ Recd K S W' W.next R ∧ TH S W' ∧ Grow W.next S W S W' := by
  obtain ⟨g1, g2⟩ := grow_alloc0 (K := W.next) hH (Nat.le_refl _) R; exact ⟨_, rfl, rfl, ⟨if_pos rfl, hH.fresh (Nat.le_refl _), by simp, hK⟩, g1, g2⟩
theorem OwnSl.otherR {K n l : Nat} {S : Sg} {W W' : AW} {e : List VT} {a : Option Addr} {R : Blk} (h : OwnSl K S W e a n) (hr : Recd K S W l R) (hR : ∀ g cs, R ≠ .cells true g cs) (hn : W'.next = W.next) (hg : ∀ x, x ≠ l → W'.get x = W.get x) : OwnSl K S W' e a n := by
  rcases h with h | ⟨b, lc, h1, h2, h3, h4, h5⟩
  · exact .inl h
  · exact .inr ⟨b, lc, h1, h2, h3, h4.other hn hg (Ne.symm (rec_ne hr hR h4)), h5⟩
theorem RC_set {K K' : Nat} {M : Nat → Prop} {ro : Option Nat} {sz l : Nat} {c : Code} {env : Env} {X : Aux} {S : Sg} {W : AW} {R R' : Blk} {Q : AExit → Env → Aux → AW → Prop} (h : Recd K' S W l R) (hH : TH S W)
    (k : ∀ W' R2, R2 = R' → W'.next = W.next → Recd K' S W' l R2 → TH S W' → Grow K' S W S W' → (∀ c, c ≠ l → W'.get c = W.get c) → RC P O K M ro sz c env X W' Q) : RC P O K M ro sz c env X (W.set l R') Q := by
  obtain ⟨W', rfl, h1, h2, h3, h4, h5⟩ := h.set hH R'; exact k _ _ rfl h1 h2 h3 h4 h5
theorem set_intro {K l : Nat} {S : Sg} {W : AW} {R R' : Blk} {Q : AW → Prop} (h : Recd K S W l R) (hH : TH S W)
    (k : ∀ W' R2, R2 = R' → W'.next = W.next → Recd K S W' l R2 → TH S W' → Grow K S W S W' → (∀ c, c ≠ l → W'.get c = W.get c) → Q W') : Q (W.set l R') := by
  obtain ⟨W', rfl, h1, h2, h3, h4, h5⟩ := h.set hH R'; exact k _ _ rfl h1 h2 h3 h4 h5
theorem set_introQ {K l : Nat} {S : Sg} {W : AW} {R R' : Blk} {e : AExit} {env : Env} {X : Aux} {Q : AExit → Env → Aux → AW → Prop} (h : Recd K S W l R) (hH : TH S W)
    (k : ∀ W' R2, R2 = R' → W'.next = W.next → Recd K S W' l R2 → TH S W' → Grow K S W S W' → (∀ c, c ≠ l → W'.get c = W.get c) → Q e env X W') : Q e env X (W.set l R') :=
  set_intro (Q := fun W => Q e env X W) h hH k
end Go.Abs
namespace Go.Abs
variable {P : Program} {O : Orc}
section
variable {K : Nat} {M : Nat → Prop} {ro : Option Nat} {sz : Nat} {all : Array Oper} {rest : List Oper} {env : Env} {X : Aux} {W : AW} {acc : List FPr} {Q : Env → Aux → AW → List FPr → Prop}
variable {d : Nat} {ty : TypeId} {pos : String} {af : Array Edge} {gd : Option (Nat × Bool)} {S : Sg}
theorem ROd.indexAddrO {t el : TypeId} {x ix : Operand} {a1 a2 : Bool} {k1 : TK} {z1 z2 : Value} {n1 n2 y1 y2 n c : Nat} {a : Option Addr} {i : Int} {ik : IntKind} {e : List VT} (ht : tinfo P t = some ⟨n1, a1, .slice el, z1, y1⟩) (he : tinfo P el = some ⟨n2, a2, k1, z2, y2⟩)
    (hx : aEval env x = .slice a n c) (hi : aEval env ix = .int ik i) (hO : OwnSl K S W e a n) (hel : e.length = n2) (h0 : 0 ≤ i) (h1 : i < n) (hw : wantedA all env ⟨some d, .indexAddr t x ix, ty, pos, af, gd⟩ = true) (hs : d < sz)
    (k : ∀ b o, a = some ⟨b, 0, none⟩ → o = i.toNat * e.length → ROr P O K M ro sz all rest (upd env d (.pointer (some ⟨b, o, none⟩))) X W (⟨some [], [], W.next, W.next⟩ :: acc) Q) :
    ROr P O K M ro sz all (⟨some d, .indexAddr t x ix, ty, pos, af, gd⟩ :: rest) env X W acc Q := by
  subst hel; rcases hO with ⟨rfl, rfl⟩ | ⟨b, l, rfl, hn, hp, hown, hrows⟩
  · simp at h1; omega
  · have := k b (0 + i.toNat * e.length) rfl (by omega); exact ROd.indexAddrS ht he hx hi h0 h1 hw hs this
theorem own_sub {n i f m : Nat} {e sub : List VT} (hi : i < n) (hs : (e.drop f).take m = sub) (hm : f + m ≤ e.length) : ((List.replicate n e).flatten.drop (i * e.length + f)).take m = sub := by
  rw [← hs]; exact sub_row (rep_drop hi) f m hm
theorem ROd.loadP {t : TypeId} {x : Operand} {kd : TK} {z : Value} {by' b o f n i : Nat} {a : Option Addr} {e : List VT} {τ : VT} (ht : tinfo P t = some ⟨1, false, kd, z, by'⟩) (hx : aEval env x = .pointer (some ⟨b, o + f, none⟩)) (hO : OwnSl K S W e a n) (ha : a = some ⟨b, 0, none⟩) (ho : o = i * e.length) (hi : i < n) (hr : (e.drop f).take 1 = [τ]) (hm : f + 1 ≤ e.length)
    (hw : wantedA all env ⟨some d, .load t x, ty, pos, af, gd⟩ = true) (hs : d < sz)
    (k : ∀ v rd, VOk S τ v → ROr P O K M ro sz all rest (upd env d v) X W (⟨some rd, [], W.next, W.next⟩ :: acc) Q) : ROr P O K M ro sz all (⟨some d, .load t x, ty, pos, af, gd⟩ :: rest) env X W acc Q := by
  rcases hO with ⟨rfl, rfl⟩ | ⟨b', l, rfl, hn, hp, hown, hrows⟩
  · omega
  · cases ha; have h2 := (hrows.drop (i * e.length + f)).take 1; rw [own_sub hi hr hm] at h2; obtain ⟨v, l', hv, hvo, hnil⟩ := h2.inv; have := hnil.nil_inv; subst this; have hlen : i * e.length + f + 1 ≤ l.length := by
      rw [hrows.length, rep_len]; have : (i + 1) * e.length ≤ n * e.length := Nat.mul_le_mul_right _ hi; rw [Nat.succ_mul] at this; omega
    subst ho; exact ROd.val (rd := [b]) (by simp only [aop, ht, hx, asPtr, AW.row, hown.get]; rw [if_pos hlen]; simp only [hv, mkV, Option.bind_some, Bool.false_eq_true, if_false, List.head?_cons, Option.map_some]) hw hs (k v [b] hvo)
theorem ROd.storeP {t : TypeId} {x y : Operand} {kd : TK} {z v : Value} {by' b o f n i : Nat} {a : Option Addr} {e : List VT} {τ : VT} (ht : tinfo P t = some ⟨1, false, kd, z, by'⟩) (hx : aEval env x = .pointer (some ⟨b, o + f, none⟩)) (hy : aEval env y = v) (hn1 : (cellsOf v).length = 1) (hnt : noTup v = true) (hO : OwnSl K S W e a n) (ha : a = some ⟨b, 0, none⟩) (ho : o = i * e.length) (hi : i < n) (hr : (e.drop f).take 1 = [τ]) (hm : f + 1 ≤ e.length) (hv : VRows S [τ] (cellsOf v)) (hH : TH S W)
    (hw : wantedA all env ⟨none, .store t x y, ty, pos, af, gd⟩ = true)
    (k : ∀ W1 wr, W1.next = W.next → TH S W1 → OwnSl K S W1 e a n → Grow K S W S W1 → (∀ b l, Ownd K S W b 0 l → Ownd K S W1 b 0 l) → (∀ b, (∀ g l, W.get b ≠ .cells true g l) → W1.get b = W.get b) → ROr P O K M ro sz all rest env X W1 (⟨some wr, wr, W.next, W1.next⟩ :: acc) Q) :
    ROr P O K M ro sz all (⟨none, .store t x y, ty, pos, af, gd⟩ :: rest) env X W acc Q := by
  rcases hO with ⟨rfl, rfl⟩ | ⟨b', l, rfl, hn, hp, hown, hrows⟩
  · omega
  · cases ha; have hlen : i * e.length + f + 1 ≤ l.length := by
      rw [hrows.length, rep_len]; have : (i + 1) * e.length ≤ n * e.length := Nat.mul_le_mul_right _ hi; rw [Nat.succ_mul] at this; omega
    subst ho; have hput : W.put ⟨b, i * e.length + f, none⟩ (cellsOf v) = some (W.set b (.cells true e.length (splice l (i * e.length + f) (cellsOf v)))) := by simp only [AW.put, hown.get]; rw [hn1, if_pos hlen]
    obtain ⟨g1, g2⟩ := grow_set0 (K := K) hH hown.non hown.lt hown.ge (.cells true e.length (splice l (i * e.length + f) (cellsOf v))); refine ROd.gen (r := ⟨.skip, W.set b (.cells true e.length (splice l (i * e.length + f) (cellsOf v))), [b], [b]⟩) (v := undef) hw (by simp only [aop, ht, hx, hy, asPtr, hnt, hn1, and_self, if_true, hput, Option.map_some]) (.inr ⟨rfl, rfl⟩) (fun c hc hlt => by
      simp only [List.mem_singleton] at hc; subst hc; have := hown.ge; omega) rfl (k _ [b] rfl g1 (.inr ⟨b, _, rfl, hn, hp, ⟨if_pos rfl, hown.non, hown.lt, hown.ge⟩, ?_⟩) g2 (fun c lc hc => ?_) fun c hc => if_neg (fun e => by subst e; exact hc _ _ hown.get))
    · refine VRows.splice hrows ?_ (by rw [hn1]; exact hlen); rw [hn1, own_sub hi hr hm]; exact hv
    · have hne : c ≠ b := own_ne hc hown (by omega); exact hc.other rfl (fun x hx => if_neg hx) hne
def XI (S : Sg) (W : AW) (a : Option Addr) (xs : List Int) : Prop := (a = none ∧ xs = []) ∨ ∃ b, a = some ⟨b, 0, none⟩ ∧ W.get b = .cells true 0 (xs.map (.int .i64)) ∧ S b = none ∧ b < W.next
theorem XI.grow {K : Nat} {S' : Sg} {W' : AW} {a : Option Addr} {xs : List Int} (h : XI S W a xs) (g : Grow K S W S' W') (hK : K = W.next) : XI S' W' a xs := by
  subst hK; rcases h with h | ⟨b, h1, h2, h3, h4⟩
  · exact .inl h
  · exact .inr ⟨b, h1, (g.frame b h4 h3).trans h2, g.new b h4 h3, Nat.lt_of_lt_of_le h4 g.next⟩
theorem ROd.indexAddrX {t el : TypeId} {x ix : Operand} {a1 a2 : Bool} {k1 : TK} {z1 z2 : Value} {n1 y1 y2 n c : Nat} {a : Option Addr} {i : Int} {ik : IntKind} {xs : List Int} (ht : tinfo P t = some ⟨n1, a1, .slice el, z1, y1⟩) (he : tinfo P el = some ⟨1, a2, k1, z2, y2⟩)
    (hx : aEval env x = .slice a n c) (hi : aEval env ix = .int ik i) (hX : XI S W a xs) (hn : n = xs.length) (h0 : 0 ≤ i) (h1 : i < xs.length) (hw : wantedA all env ⟨some d, .indexAddr t x ix, ty, pos, af, gd⟩ = true) (hs : d < sz)
    (k : ∀ b o, W.get b = .cells true 0 (xs.map (.int .i64)) → o = i.toNat → ROr P O K M ro sz all rest (upd env d (.pointer (some ⟨b, o, none⟩))) X W (⟨some [], [], W.next, W.next⟩ :: acc) Q) :
    ROr P O K M ro sz all (⟨some d, .indexAddr t x ix, ty, pos, af, gd⟩ :: rest) env X W acc Q := by
  rcases hX with ⟨rfl, rfl⟩ | ⟨b, rfl, h2, _⟩
  · simp at h1; omega
  · exact ROd.indexAddrS ht he hx hi h0 (by omega) hw hs (k b _ h2 (by omega))
theorem ROd.loadXI {t : TypeId} {x : Operand} {kd : TK} {z : Value} {by' b o : Nat} {xs : List Int} {i : Int} (ht : tinfo P t = some ⟨1, false, kd, z, by'⟩) (hx : aEval env x = .pointer (some ⟨b, o, none⟩)) (hg : W.get b = .cells true 0 (xs.map (.int .i64))) (ho : o = i.toNat) (h0 : 0 ≤ i) (h1 : i < xs.length)
    (hw : wantedA all env ⟨some d, .load t x, ty, pos, af, gd⟩ = true) (hs : d < sz)
    (k : ∀ v, v ∈ xs → xs[i.toNat]? = some v → ROr P O K M ro sz all rest (upd env d (.int .i64 v)) X W (⟨some [b], [], W.next, W.next⟩ :: acc) Q) : ROr P O K M ro sz all (⟨some d, .load t x, ty, pos, af, gd⟩ :: rest) env X W acc Q := by
  subst ho; have hlt : i.toNat < xs.length := by omega
  refine ROd.loadX (v := .int .i64 xs[i.toNat]) ht hx hg (by simp; omega) ?_ hw hs (k _ (List.getElem_mem hlt) (List.getElem?_eq_getElem hlt)); rw [List.drop_eq_getElem_cons (by simpa using hlt)]; simp [mkV]
end
end Go.Abs
