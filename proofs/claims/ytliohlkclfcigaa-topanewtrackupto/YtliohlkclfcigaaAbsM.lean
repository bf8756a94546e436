/- A part of the proof that TopAnewTrack returns true at every input of bulk at most 1048576: answers ahead. -/
import Derived.Test.YtliohlkclfcigaaAbsL
import Derived.Test.YtliohlkclfcigaaAbsI
set_option linter.unusedVariables false
set_option linter.unusedSimpArgs false
namespace Go.Abs
variable {P : Program} {O : Orc}
theorem RK_ans {f : FuncId} {args : List Value} {W W' : AW} {v : Value} {fn : Func} {body : Code} (hfn : P.funcs[f]? = some fn) (hname : (fn.name == "runtime.NumGoroutine") = false) (hb : fn.body = some body) (h : O.run f args W = some (v, W')) :
    RK P O f args W (fun _ => False) (fun v1 W1 => v1 = v ∧ W1 = W') :=
  ⟨1, v, W', [], by simp only [ev, hfn, hname, hb]; simp [h], by simp, rfl, rfl⟩
def orU (A B : Orc) : Orc where
  run f args W := match A.run f args W with
    | some r => some r
    | none => B.run f args W
  good f args W v W' h hwf := by
    split at h
    · rename_i r hr; cases h; exact A.good f args W v W' hr hwf
    · exact B.good f args W v W' h hwf
theorem osim_U {A B : Orc} (hA : OSim P A) (hB : OSim P B) : OSim P (orU A B) := by
  intro f args W v W' h; simp only [orU] at h; split at h
  · rename_i r hr; cases h; exact hA f args W v W' hr
  · exact hB f args W v W' h
theorem orU_left {A B : Orc} {f : FuncId} {args : List Value} {W : AW} {r : Value × AW} (h : A.run f args W = some r) : (orU A B).run f args W = some r := by simp [orU, h]
theorem orU_right {A B : Orc} {f : FuncId} {args : List Value} {W : AW} (h : A.run f args W = none) : (orU A B).run f args W = B.run f args W := by simp [orU, h]
theorem orcM_none {F : FuncId → Bool} {K : Nat} {G : Nat → Blk} {f : FuncId} {args : List Value} {W : AW} (h : F f = false) : (orcM P F K G).run f args W = none := by
  simp only [orcM]; rw [dif_neg]; rintro ⟨h1, _⟩; rw [h] at h1; cases h1
theorem orc_run {F : FuncId → Bool} {K : Nat} {G : Nat → Blk} {f : FuncId} {args : List Value} {M : Nat → Prop} {Q : Value → AW → Prop} (hF : F f = true) (hG0 : ∀ b, K ≤ b → G b = .none)
    (hro : ∀ b, b < K → ∃ g cs, G b = .cells false g cs ∧ ∀ v ∈ cs, Low K v) (hlow : ∀ v ∈ args, Low K v) (h : RK P noO f args ⟨K, G⟩ M Q) (hM : ∀ b, b < K → ¬ M b) (hd : ∀ v W', Q v W' → dataV v = true) :
    ∃ v V, Q v V ∧ V.wf ∧ K ≤ V.next ∧ (∀ b, b < K → V.get b = G b) ∧
      ∀ W : AW, K ≤ W.next → (∀ b, b < K → W.get b = G b) → (scalar v = true → (orcM P F K G).run f args W = some (v, W)) ∧ (scalar v = false → (orcM P F K G).run f args W = some (renV (mv K W.next) v, glue K W V)) := by
  obtain ⟨n, v, V, wr, h1, h2, h3⟩ := h; have hex : ∃ r, IsoRunM P K G f args r := ⟨(v, V), n, wr, h1, fun b hb => Nat.not_lt.1 fun hlt => hM b hlt (h2 b hb hlt), hd v V h3⟩
  have hwf0 : (⟨K, G⟩ : AW).wf := fun b hb => hG0 b hb; have hg := ev_good P noO n _ _ h1 hwf0; refine ⟨v, V, h3, hg.1, hg.2.next, fun b hb => hg.2.same b hb fun hm => hM b hb (h2 b hm hb), fun W hK hG => ?_⟩; have hr : Classical.choose hex = (v, V) := by
    obtain ⟨n2, wr2, e2, _⟩ := Classical.choose_spec hex; have a1 := ev_mono (Nat.le_max_left n n2) h1; have a2 := ev_mono (Nat.le_max_right n n2) e2; rw [a1] at a2; simp only [Option.some.injEq, Res.call.injEq, AOut.returned.injEq] at a2; exact Prod.ext a2.1.symm a2.2.2.1.symm
  have hrun : (orcM P F K G).run f args W = some (if scalar v = true then (v, W) else (renV (mv K W.next) v, glue K W V)) := by
    simp only [orcM]; rw [dif_pos ⟨hF, hK, hG, hro, hG0, hlow, hex⟩]; rw [hr]
  exact ⟨fun h => by rw [hrun, if_pos h], fun h => by rw [hrun, if_neg (by rw [h]; simp)]⟩
def roS (K : Nat) (G : Nat → Blk) : Sg := fun b => if b < K then (match G b with
  | .cells _ _ l => some (.ro l)
  | _ => none) else none
theorem roS_TH {K : Nat} {G : Nat → Blk} (hG0 : ∀ b, K ≤ b → G b = .none) (hro : ∀ b, b < K → ∃ l, G b = .cells false 0 l) : TH (roS K G) ⟨K, G⟩ := by
  refine ⟨fun b hb => hG0 b hb, fun b bt hb => ?_⟩; unfold roS at hb; by_cases hbk : b < K
  · obtain ⟨l, hl⟩ := hro b hbk; rw [if_pos hbk, hl] at hb; cases hb; exact hl
  · rw [if_neg hbk] at hb; cases hb
theorem roS_wr {K : Nat} {G : Nat → Blk} {cl b : Nat} : ¬ Wr cl (roS K G) b := by
  unfold Wr roS; by_cases hbk : b < K
  · rw [if_pos hbk]; cases G b <;> simp
  · rw [if_neg hbk]; simp
theorem roS_get {K : Nat} {G : Nat → Blk} {b : Nat} {l : List Value} {own : Bool} {g : Nat} (hb : b < K) (h : G b = .cells own g l) : roS K G b = some (.ro l) := by
  unfold roS; rw [if_pos hb, h]
def plainVT : VT → Bool
  | .int .. | .bool | .str => true
  | _ => false
theorem plain_ren {S : Sg} {τ : VT} {v : Value} (h : VOk S τ v) (hp : plainVT τ = true) (g : Nat → Nat) : ren0 g v = v ∧ data0 v = true ∧ VOk noS τ v := by
  cases τ <;> simp [plainVT] at hp
  · obtain ⟨n, rfl, h⟩ := h; exact ⟨rfl, rfl, n, rfl, h⟩
  · obtain ⟨b, rfl⟩ := h; exact ⟨rfl, rfl, b, rfl⟩
  · obtain ⟨s, rfl, h⟩ := h; exact ⟨rfl, rfl, s, rfl, h⟩
theorem plain_rows {S : Sg} {g : Nat → Nat} : ∀ {tys : List VT} {l : List Value}, VRows S tys l → tys.all plainVT = true → l.map (ren0 g) = l ∧ l.all data0 = true ∧ VRows noS tys l
  | [], [], _, _ => ⟨rfl, rfl, trivial⟩
  | [], _ :: _, h, _ => h.elim
  | _ :: _, [], h, _ => h.elim
  | τ :: r, v :: l, h, hp => by
    simp only [List.all_cons, Bool.and_eq_true] at hp; obtain ⟨h1, h2, h3⟩ := plain_ren h.1 hp.1 g; obtain ⟨h4, h5, h6⟩ := plain_rows (g := g) h.2 hp.2; exact ⟨by simp [h1, h4], by simp [h2, h5], h3, h6⟩
def elV (V : AW) (a : Option Addr) (s : Nat) (i : Nat) : List Value :=
  match a with
  | none => []
  | some x => match V.get x.block with
    | .cells _ _ l => (l.drop (x.off + i * s)).take s
    | _ => []
theorem rep_all {e : List VT} {m : Nat} (h : e.all plainVT = true) : ((List.replicate m e).flatten).all plainVT = true := by
  induction m with
  | zero => rfl
  | succ m ih => rw [List.replicate_succ, List.flatten_cons, List.all_append, h, ih]; rfl
theorem RS_glue {K : Nat} {S : Sg} {V : AW} {e : List VT} {a : Option Addr} {n c : Nat} (hT : TH S V) (hsl : SlOk S e a n c) (he : e.all plainVT = true) (hV : ∀ b, b < K → ∃ g l, V.get b = .cells false g l) (hKV : K ≤ V.next) :
    (∀ i, i < n → VRows noS e (elV V a e.length i)) ∧ n ≤ 4294967296 ∧ ∀ W : AW, K ≤ W.next → ∃ a', ren0 (mv K W.next) (.slice a n c) = .slice a' n c ∧ RS W (glue K W V) e.length (elV V a e.length) a' n := by
  rcases hsl with ⟨rfl, rfl, rfl⟩ | ⟨b, o, tys, g, rfl, h2, h3, h4, h5, h6, m, h7⟩
  · exact ⟨fun i hi => by omega, by omega, fun W hK => ⟨none, rfl, .inl ⟨rfl, rfl⟩⟩⟩
  · obtain ⟨l, hg, hr⟩ := hT.cells h3; have hall : tys.all plainVT = true := by rw [h7]; exact rep_all he
    have hlen := hr.length; have hrow : ∀ i, i < n → VRows noS e ((l.drop (o + i * e.length)).take e.length) := fun i hi => by
      have := ((plain_rows (g := id) hr hall).2.2.drop (o + i * e.length)).take e.length
      rwa [h6 i (by omega)] at this
    have hel : ∀ i, elV V (some ⟨b, o, none⟩) e.length i = (l.drop (o + i * e.length)).take e.length := fun i => by simp only [elV, hg]
    refine ⟨fun i hi => by rw [hel]; exact hrow i hi, by omega, fun W hK => ?_⟩; have hbK : K ≤ b := Nat.not_lt.1 fun hlt => by
      obtain ⟨g', l', h⟩ := hV b hlt; rw [hg] at h; cases h
    have hbV : b < V.next := hT.lt h3
    have hmv : mv K W.next b = b - K + W.next := if_neg (by omega)
    refine ⟨some ⟨b - K + W.next, o, none⟩, by simp only [ren0, hmv], .inr ⟨b - K + W.next, o, g, l, rfl, by omega, by simp only [glue]; omega, ?_, by have := h5; omega, by omega, fun i hi => ⟨?_, (hel i).symm⟩⟩⟩
    · simp only [glue]; rw [if_neg (by omega), if_pos (by omega), show b - K + W.next - W.next + K = b by omega, hg]; obtain ⟨q1, q2, _⟩ := plain_rows (g := mv K W.next) hr hall; simp only [renB, q2, if_true, q1]
    · have h8 : (i + 1) * e.length ≤ c * e.length := Nat.mul_le_mul_right _ (by omega); rw [Nat.succ_mul] at h8; omega
theorem ren0_int {g : Nat → Nat} {k : IntKind} {n : Int} : ren0 g (.int k n) = .int k n := rfl
theorem ren0_bool {g : Nat → Nat} {b : Bool} : ren0 g (.bool b) = .bool b := rfl
theorem Low.int {K : Nat} {k : IntKind} {n : Int} : Low K (.int k n) := by
  intro φ v' h; cases h; exact .int k n
theorem Low.agg {K : Nat} {cs : List Value} (h : ∀ v ∈ cs, Low K v) : Low K (.agg ⟨cs⟩) := by
  intro φ v' hv; obtain ⟨cs', rfl, h1, h2⟩ := hv.agg_inv; exact VR.mkAgg (LR_low h1 h) h2
end Go.Abs
