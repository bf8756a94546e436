/- No function of package track changes an argument, shares memory with one, or answers otherwise the second time: TopAnewTrack returns true, whatever the input, where what it reads is of bulk at most 1048576. -/
import Derived.Test.YtliohlkclfcigaaRows
import Derived.Test.YtliohlkclfcigaaLaw
import Derived.Test.YtliohlkclfcigaaHyps
import Derived.Test.YtliohlkclfcigaaAwake
import Derived.Test.YtliohlkclfcigaaAbsNb
import Derived.Test.YtliohlkclfcigaaAbsX
import Derived.JoinedCond
set_option linter.unusedVariables false
set_option linter.unusedSimpArgs false
namespace Go.Proofs.Ytliohlkclfcigaa
open Go Go.Abs Go.Proofs Go.ChangeShapes Go.WideShapes Go.ChangeAt Go.RowKit
set_option maxRecDepth 10000
set_option maxHeartbeats 1000000
theorem one_le {H : Type} (d : DataW H) : 1 ≤ Rows.uptoBulk d := by
  cases d with
  | lit l => cases l <;> simp [Rows.uptoBulk]
  | nil => simp [Rows.uptoBulk]
  | ptr d => simp [Rows.uptoBulk]
  | slice es rs => simp [Rows.uptoBulk]
  | agg ps => simp [Rows.uptoBulk]
  | iface t d => simp [Rows.uptoBulk]
  | map es => simp [Rows.uptoBulk]
  | held h => simp [Rows.uptoBulk]
theorem part_le {H : Type} {d : DataW H} {l : List (DataW H)} (h : d ∈ l) : Rows.uptoBulk d ≤ Rows.uptoBulkAll l := by
  induction l with
  | nil => cases h
  | cons x r ih =>
    simp only [Rows.uptoBulkAll]; rcases List.mem_cons.1 h with rfl | e
    · omega
    · have := ih e; omega
theorem length_le {H : Type} (l : List (DataW H)) : l.length ≤ Rows.uptoBulkAll l := by
  induction l with
  | nil => simp [Rows.uptoBulkAll]
  | cons x r ih => have := one_le x; simp only [Rows.uptoBulkAll, List.length_cons]; omega
theorem modest {H : Type} : Abs.Modest (fun d : DataW H => Rows.uptoBulk d ≤ 1048576) := by
  refine ⟨fun l h => ?_, fun es rs h => ?_, fun ps h d hd => ?_⟩
  · simp only [Rows.uptoBulk] at h; omega
  · have h1 := length_le es; have h2 := length_le rs; simp only [Rows.uptoBulk] at h; refine ⟨by omega, fun d hd => ?_⟩; rcases List.mem_append.1 hd with hd | hd
    · have := part_le hd; omega
    · have := part_le hd; omega
  · have := part_le hd; simp only [Rows.uptoBulk] at h; omega
theorem plain31 : plainT Try.prog 8 31 = true := by kernel_rfl
theorem flat31 : flatT Try.prog 8 31 = true := by kernel_rfl
theorem shape31 : shapes Try.prog 8 31 = some [.sc I64, .sc I64, .sc I64, .sl [.sc .str, .sc I64, .sc I64, .sc I64, .sc I64, .sc I64], .sl [.sc I64, .sc I64, .sc I64, .sc I64, .sc I64], .sc I64, .sc I64, .sc I64, .sc I64, .sc I64, .sc I64, .sc I64, .sc I64, .sc I64, .sc I64, .sc I64, .sc I64, .sc I64, .sc I64, .sc I64, .sc I64, .sc I64, .sc I64, .sc I64, .sc I64] := by kernel_rfl
theorem ok : progOk Try.prog = true := by kernel_rfl
theorem mix : Try.prog.follows .mixedOrders = true := by kernel_rfl
theorem own : ownKnob Try.prog.godebug = none := by kernel_rfl
theorem laidOut : laidOutB Try.prog = true := by kernel_rfl
theorem readable : Try.prog.readableRec 31 = true := by kernel_rfl
theorem here : 31 < Try.prog.types.size := of_decide_eq_true (by kernel_rfl)
theorem law_run {K : Nat} {G : Nat → Blk} (hG0 : ∀ b, K ≤ b → G b = .none) (hro : ∀ b, b < K → ∃ l, G b = .cells false 0 l ∧ ∀ v ∈ l, Low K v) {acs : List Value} (hlow : ∀ v ∈ acs, Low K v) (hsh : ShRows G [.sc I64, .sc I64, .sc I64, .sl [.sc .str, .sc I64, .sc I64, .sc I64, .sc I64, .sc I64], .sl [.sc I64, .sc I64, .sc I64, .sc I64, .sc I64], .sc I64, .sc I64, .sc I64, .sc I64, .sc I64, .sc I64, .sc I64, .sc I64, .sc I64, .sc I64, .sc I64, .sc I64, .sc I64, .sc I64, .sc I64, .sc I64, .sc I64, .sc I64, .sc I64, .sc I64] acs) :
    RK Try.prog (orU (orcA Try.prog 43) (orcM Try.prog pkgF K G)) 3 [.agg ⟨acs⟩] ⟨K, G⟩ (fun _ => False) (fun v _ => v = .bool true) := by
  obtain ⟨_, _, rfl, k0, hs0⟩ := hsh.inv; obtain ⟨x0, rfl, x0l, x0u⟩ := k0.int_inv; obtain ⟨_, _, rfl, k1, hs1⟩ := hs0.inv; obtain ⟨x1, rfl, x1l, x1u⟩ := k1.int_inv; obtain ⟨_, _, rfl, k2, hs2⟩ := hs1.inv; obtain ⟨x2, rfl, x2l, x2u⟩ := k2.int_inv; obtain ⟨_, _, rfl, k3, hs3⟩ := hs2.inv; obtain ⟨x3a, x3n, x3c, x3el, rfl, x3o, x3s⟩ := k3.sl_inv hG0; have x3sh : ∀ i, i < x3n → VRows noS [.str, I64, I64, I64, I64, I64] (x3el i) := fun i hi => ShRows.vrows (τs := [.str, I64, I64, I64, I64, I64]) (x3s i (Nat.lt_of_lt_of_le hi x3o.1)); obtain ⟨_, _, rfl, k4, hs4⟩ := hs3.inv; obtain ⟨x4a, x4n, x4c, x4el, rfl, x4o, x4s⟩ := k4.sl_inv hG0; have x4sh : ∀ i, i < x4n → VRows noS [I64, I64, I64, I64, I64] (x4el i) := fun i hi => ShRows.vrows (τs := [I64, I64, I64, I64, I64]) (x4s i (Nat.lt_of_lt_of_le hi x4o.1)); obtain ⟨_, _, rfl, k5, hs5⟩ := hs4.inv; obtain ⟨x5, rfl, x5l, x5u⟩ := k5.int_inv; obtain ⟨_, _, rfl, k6, hs6⟩ := hs5.inv; obtain ⟨x6, rfl, x6l, x6u⟩ := k6.int_inv; obtain ⟨_, _, rfl, k7, hs7⟩ := hs6.inv; obtain ⟨x7, rfl, x7l, x7u⟩ := k7.int_inv; obtain ⟨_, _, rfl, k8, hs8⟩ := hs7.inv; obtain ⟨x8, rfl, x8l, x8u⟩ := k8.int_inv; obtain ⟨_, _, rfl, k9, hs9⟩ := hs8.inv; obtain ⟨x9, rfl, x9l, x9u⟩ := k9.int_inv; obtain ⟨_, _, rfl, k10, hs10⟩ := hs9.inv; obtain ⟨x10, rfl, x10l, x10u⟩ := k10.int_inv; obtain ⟨_, _, rfl, k11, hs11⟩ := hs10.inv; obtain ⟨x11, rfl, x11l, x11u⟩ := k11.int_inv; obtain ⟨_, _, rfl, k12, hs12⟩ := hs11.inv; obtain ⟨x12, rfl, x12l, x12u⟩ := k12.int_inv; obtain ⟨_, _, rfl, k13, hs13⟩ := hs12.inv; obtain ⟨x13, rfl, x13l, x13u⟩ := k13.int_inv; obtain ⟨_, _, rfl, k14, hs14⟩ := hs13.inv; obtain ⟨x14, rfl, x14l, x14u⟩ := k14.int_inv; obtain ⟨_, _, rfl, k15, hs15⟩ := hs14.inv; obtain ⟨x15, rfl, x15l, x15u⟩ := k15.int_inv; obtain ⟨_, _, rfl, k16, hs16⟩ := hs15.inv; obtain ⟨x16, rfl, x16l, x16u⟩ := k16.int_inv; obtain ⟨_, _, rfl, k17, hs17⟩ := hs16.inv; obtain ⟨x17, rfl, x17l, x17u⟩ := k17.int_inv; obtain ⟨_, _, rfl, k18, hs18⟩ := hs17.inv; obtain ⟨x18, rfl, x18l, x18u⟩ := k18.int_inv; obtain ⟨_, _, rfl, k19, hs19⟩ := hs18.inv; obtain ⟨x19, rfl, x19l, x19u⟩ := k19.int_inv; obtain ⟨_, _, rfl, k20, hs20⟩ := hs19.inv; obtain ⟨x20, rfl, x20l, x20u⟩ := k20.int_inv; obtain ⟨_, _, rfl, k21, hs21⟩ := hs20.inv; obtain ⟨x21, rfl, x21l, x21u⟩ := k21.int_inv; obtain ⟨_, _, rfl, k22, hs22⟩ := hs21.inv; obtain ⟨x22, rfl, x22l, x22u⟩ := k22.int_inv; obtain ⟨_, _, rfl, k23, hs23⟩ := hs22.inv; obtain ⟨x23, rfl, x23l, x23u⟩ := k23.int_inv; obtain ⟨_, _, rfl, k24, hs24⟩ := hs23.inv; obtain ⟨x24, rfl, x24l, x24u⟩ := k24.int_inv; obtain rfl := hs24.nil_inv; have x3low : Low K (.slice x3a x3n x3c) := hlow _ (by simp); have x4low : Low K (.slice x4a x4n x4c) := hlow _ (by simp); clear hlow; have hA : ∀ f args W, pkgF f = true → (orcA Try.prog 43).run f args W = none := by
    intro f args W h; refine orcA_none ?_; cases h2 : (f == 43)
    · rfl
    · rw [eq_of_beq h2] at h; cases h
  obtain ⟨u6_0, u6_1, u6_2, hF6⟩ := hf6 hA hG0 hro x0 x1 x2 x3a x3n x3c x3el x4a x4n x4c x4el ⟨x0l, x0u⟩ ⟨x1l, x1u⟩ ⟨x2l, x2u⟩ x3o.ro x3o.1 x3sh x3low x4o.ro x4o.1 x4sh x4low; obtain ⟨u11_0, u11_1, hF11⟩ := hf11 hA hG0 hro x0 x1 x2 x3a x3n x3c x3el x4a x4n x4c x4el x5 ⟨x0l, x0u⟩ ⟨x1l, x1u⟩ ⟨x2l, x2u⟩ ⟨x5l, x5u⟩ x3o.ro x3o.1 x3sh x3low x4o.ro x4o.1 x4sh x4low; obtain ⟨u13_0n, u13_0el, u13_1, u13_0sh, u13_0le, hF13⟩ := hf13 hA hG0 hro x0 x1 x2 x3a x3n x3c x3el x4a x4n x4c x4el x8 ⟨x0l, x0u⟩ ⟨x1l, x1u⟩ ⟨x2l, x2u⟩ ⟨x8l, x8u⟩ x3o.ro x3o.1 x3sh x3low x4o.ro x4o.1 x4sh x4low; obtain ⟨u18_0, u18_1, hF18⟩ := hf18 hA hG0 hro x0 x1 x2 x3a x3n x3c x3el x4a x4n x4c x4el x9 ⟨x0l, x0u⟩ ⟨x1l, x1u⟩ ⟨x2l, x2u⟩ ⟨x9l, x9u⟩ x3o.ro x3o.1 x3sh x3low x4o.ro x4o.1 x4sh x4low; obtain ⟨u20_0, u20_1, u20_2, u20_3, u20_4, u20_5, u20_6, u20_7, u20_8, u20_9, u20_10, u20_11, u20_12, u20_13, hF20⟩ := hf20 hA hG0 hro x0 x1 x2 x3a x3n x3c x3el x4a x4n x4c x4el x7 x8 ⟨x0l, x0u⟩ ⟨x1l, x1u⟩ ⟨x2l, x2u⟩ ⟨x7l, x7u⟩ ⟨x8l, x8u⟩ x3o.ro x3o.1 x3sh x3low x4o.ro x4o.1 x4sh x4low; obtain ⟨u23_0, u23_1, u23_2, u23_3, u23_4, u23_5, u23_6, u23_7, u23_8, u23_9, u23_10, u23_11, u23_12, u23_13, hF23⟩ := hf23 hA hG0 hro x0 x1 x2 x3a x3n x3c x3el x4a x4n x4c x4el x6 x7 x8 ⟨x0l, x0u⟩ ⟨x1l, x1u⟩ ⟨x2l, x2u⟩ ⟨x6l, x6u⟩ ⟨x7l, x7u⟩ ⟨x8l, x8u⟩ x3o.ro x3o.1 x3sh x3low x4o.ro x4o.1 x4sh x4low; obtain ⟨u25_0n, u25_0el, u25_1, u25_2, u25_0sh, u25_0le, hF25⟩ := hf25 hA hG0 hro x0 x1 x2 x3a x3n x3c x3el x4a x4n x4c x4el x7 x8 ⟨x0l, x0u⟩ ⟨x1l, x1u⟩ ⟨x2l, x2u⟩ ⟨x7l, x7u⟩ ⟨x8l, x8u⟩ x3o.ro x3o.1 x3sh x3low x4o.ro x4o.1 x4sh x4low; obtain ⟨u29_0, u29_1, u29_2, u29_3, u29_4, u29_5, u29_6, u29_7, u29_8, u29_9, u29_10, u29_11, u29_12, u29_13, hF29⟩ := hf29 hA hG0 hro x0 x1 x2 x3a x3n x3c x3el x4a x4n x4c x4el x7 x8 ⟨x0l, x0u⟩ ⟨x1l, x1u⟩ ⟨x2l, x2u⟩ ⟨x7l, x7u⟩ ⟨x8l, x8u⟩ x3o.ro x3o.1 x3sh x3low x4o.ro x4o.1 x4sh x4low; obtain ⟨u31_0, u31_1, hF31⟩ := hf31 hA hG0 hro x0 x1 x2 x3a x3n x3c x3el x4a x4n x4c x4el x7 x8 ⟨x0l, x0u⟩ ⟨x1l, x1u⟩ ⟨x2l, x2u⟩ ⟨x7l, x7u⟩ ⟨x8l, x8u⟩ x3o.ro x3o.1 x3sh x3low x4o.ro x4o.1 x4sh x4low; obtain ⟨u33_0, hF33⟩ := hf33 hA hG0 hro x10 x11 x12 x13 x14 x15 x16 x17 x18 x19 x20 x21 x22 ⟨x10l, x10u⟩ ⟨x11l, x11u⟩ ⟨x12l, x12u⟩ ⟨x13l, x13u⟩ ⟨x14l, x14u⟩ ⟨x15l, x15u⟩ ⟨x16l, x16u⟩ ⟨x17l, x17u⟩ ⟨x18l, x18u⟩ ⟨x19l, x19u⟩ ⟨x20l, x20u⟩ ⟨x21l, x21u⟩ ⟨x22l, x22u⟩; obtain ⟨u35_0, u35_1, u35_2, u35_3, u35_4, u35_5, u35_6, u35_7, u35_8, u35_9, u35_10, u35_11, u35_12, u35_13, hF35⟩ := hf35 hA hG0 hro x0 x1 x2 x3a x3n x3c x3el x4a x4n x4c x4el x9 x10 x11 x12 x13 x14 x15 x16 x17 x18 x19 x20 x21 x22 ⟨x0l, x0u⟩ ⟨x1l, x1u⟩ ⟨x2l, x2u⟩ ⟨x9l, x9u⟩ ⟨x10l, x10u⟩ ⟨x11l, x11u⟩ ⟨x12l, x12u⟩ ⟨x13l, x13u⟩ ⟨x14l, x14u⟩ ⟨x15l, x15u⟩ ⟨x16l, x16u⟩ ⟨x17l, x17u⟩ ⟨x18l, x18u⟩ ⟨x19l, x19u⟩ ⟨x20l, x20u⟩ ⟨x21l, x21u⟩ ⟨x22l, x22u⟩ x3o.ro x3o.1 x3sh x3low x4o.ro x4o.1 x4sh x4low; obtain ⟨u37_0n, u37_0el, u37_1, u37_0sh, u37_0le, hF37⟩ := hf37 hA hG0 hro x0 x1 x2 x3a x3n x3c x3el x4a x4n x4c x4el x7 x8 x23 x24 ⟨x0l, x0u⟩ ⟨x1l, x1u⟩ ⟨x2l, x2u⟩ ⟨x7l, x7u⟩ ⟨x8l, x8u⟩ ⟨x23l, x23u⟩ ⟨x24l, x24u⟩ x3o.ro x3o.1 x3sh x3low x4o.ro x4o.1 x4sh x4low; refine law_spec ?_ x0 x1 x2 x3a x3n x3c x4a x4n x4c x5 x6 x7 x8 x9 x10 x11 x12 x13 x14 x15 x16 x17 x18 x19 x20 x21 x22 x23 x24 x3el x4el x3sh x3o.le x4sh x4o.le (fun b hb => hG0 b hb) x3o.xs x4o.xs u6_0 u6_1 u6_2 u11_0 u11_1 u13_0n u13_0el u13_1 u13_0sh u13_0le u18_0 u18_1 u20_0 u20_1 u20_2 u20_3 u20_4 u20_5 u20_6 u20_7 u20_8 u20_9 u20_10 u20_11 u20_12 u20_13 u23_0 u23_1 u23_2 u23_3 u23_4 u23_5 u23_6 u23_7 u23_8 u23_9 u23_10 u23_11 u23_12 u23_13 u25_0n u25_0el u25_1 u25_2 u25_0sh u25_0le u29_0 u29_1 u29_2 u29_3 u29_4 u29_5 u29_6 u29_7 u29_8 u29_9 u29_10 u29_11 u29_12 u29_13 u31_0 u31_1 u33_0 u35_0 u35_1 u35_2 u35_3 u35_4 u35_5 u35_6 u35_7 u35_8 u35_9 u35_10 u35_11 u35_12 u35_13 u37_0n u37_0el u37_1 u37_0sh u37_0le hF6 hF11 hF13 hF18 hF20 hF23 hF25 hF29 hF31 hF33 hF35 hF37 (fun W _ => awake _ W); intro f args W h; have h1 : pkgF f = false ∧ (f == 43) = false := by
    simp [lawF, pkgF] at h ⊢; simp_all
  exact (orU_right (orcA_none h1.2)).trans (orcM_none h1.1)
theorem contract (H : Type) (enc : TypeId × Value → H) (W : World) (base : Nat) (args : Array Value) (ds gs : List (DataW H)) (before : List MemPlace)
    (hval : ∀ (j : Nat) t v, Try.f3.params[j]? = some t → args[j]? = some v → Value.okWide Try.prog W .any base t v)
    (hW : DataW.Whole enc Try.prog Try.f3.params.toList Rows.topAnewTrackSpec.vars false W args.toList ds gs before) (hk : Rows.uptoSmall H (ds ++ gs) = true) :
    Calls Try.prog 3 args W fun e W' => ∃ v, e = .returned v ∧ Rows.topAnewTrackSpec.post enc Try.prog Try.f3 false true false false W args v W' := by
  have hW' := hW; obtain ⟨p, q, hA0, hV, rfl, hfz, hnd⟩ := hW; have hA : DataW.TrodAll enc Try.prog W 0 (fun _ => true) true Try.f3.params.toList args.toList ds p := hA0; rw [Try.params3] at hA hval; obtain ⟨v0, vs0, d0, ds0, p0, q0, hargs, rfl, rfl, h0, r0⟩ := trodAll_cons hA; obtain ⟨rfl, rfl, rfl⟩ := trodAll_nil r0; obtain rfl : args = #[v0] := by cases args; simp_all
  obtain ⟨rfl, rfl⟩ := trodVars_none hV; have hk0 : Rows.uptoBulk d0 ≤ 1048576 := by simpa [Rows.uptoSmall, Rows.uptoBulkAll] using hk
  have hv0 := hval 0 31 v0 rfl rfl; obtain ⟨cs, K, G, φ, acs, rfl, hl, hlr, hone, hlow, hsh⟩ := came_in Try.underlying31 plain31 flat31 shape31 modest hv0 h0 hk0; refine (row_calls (osim_row ok mix) ok mix hl hlr hone (law_run (fun b hb => (hl.top b hb).1) hl.ro hlow hsh)).mono fun e W' ⟨he, hB⟩ => ?_; subst he; simp only [List.append_nil] at hW' h0 ⊢; exact ⟨_, rfl, post_below Try.params3 (by kernel_rfl) Try.underlying4 rfl rfl laidOut readable here hW' h0 hB⟩
set_option maxRecDepth 100000 in
theorem lifted (os : Os) (started : os.Started) (H : Type) (enc : TypeId × Value → H) (F : Stop.Interp) :
    ReturnsInHanded {} Try.checked os 3 .any ((Rows.OpenSpec.upto Rows.topAnewTrackSpec).pre6 enc Try.prog Try.f3 Rows.topAnewTrackUptoRow.domain false) (((Rows.OpenSpec.upto Rows.topAnewTrackSpec).at F).post enc Try.prog Try.f3 false true false false) := by
  refine returnsInHanded_of_cond (C := Try.checked) (s := Rows.OpenSpec.upto Rows.topAnewTrackSpec) (k := Rows.uptoSmall) rfl own started (by kernel_rfl) Try.func3
    (OpenSpec.witness (enc := enc) (C := Try.checked) (s := Rows.OpenSpec.upto Rows.topAnewTrackSpec) (k := Rows.uptoSmall) rfl false ⟨#[], #[.agg #[.int .i64 0, .int .i64 0, .int .i64 0, .slice none 0 0, .slice none 0 0, .int .i64 0, .int .i64 0, .int .i64 0, .int .i64 0, .int .i64 0, .int .i64 0, .int .i64 0, .int .i64 0, .int .i64 0, .int .i64 0, .int .i64 0, .int .i64 0, .int .i64 0, .int .i64 0, .int .i64 0, .int .i64 0, .int .i64 0, .int .i64 0, .int .i64 0, .int .i64 0]], []⟩ 8 (by kernel_rfl) (by kernel_rfl) (by kernel_rfl)
      (x := ([.agg [.agg [.lit (.int .i64 0), .lit (.int .i64 0), .lit (.int .i64 0), .nil, .nil], .lit (.int .i64 0), .lit (.int .i64 0), .lit (.int .i64 0), .lit (.int .i64 0), .lit (.int .i64 0), .agg [.lit (.int .i64 0), .agg [.lit (.int .i64 0), .lit (.int .i64 0)], .agg [.lit (.int .i64 0), .lit (.int .i64 0)], .agg [.lit (.int .i64 0), .lit (.int .i64 0)], .agg [.lit (.int .i64 0), .lit (.int .i64 0)], .agg [.lit (.int .i64 0), .lit (.int .i64 0)], .agg [.lit (.int .i64 0), .lit (.int .i64 0)]], .lit (.int .i64 0), .lit (.int .i64 0)]], [], [])) (by kernel_rfl) rfl (by kernel_rfl)) ?_
  intro W base args ds gs before hval hW _ hk _; exact contract H enc W base args ds gs before hval hW hk
theorem over : Rows.topAnewTrackUptoRow.holds Try.pinned (Rows.OpenSpec.upto Rows.topAnewTrackSpec) :=
  OpenClaim.holds_of_cond 3 Try.f3 rfl rfl rfl rfl rfl rfl rfl ⟨rfl, rfl, rfl, rfl, rfl⟩ rfl rfl rfl rfl rfl (by kernel_rfl) Try.func3 (by kernel_rfl)
    (of_decide_eq_true (by kernel_rfl)) (by unfold Func.isWrapper; first | (rw [if_pos (by decide +kernel)]; kernel_rfl) | (rw [if_neg (by decide +kernel)]; exact ⟨rfl, rfl⟩))
    (fun os started H enc _ F => lifted os started H enc F)
theorem proved : Rows.TopAnewTrackUptoSaid := over
end Go.Proofs.Ytliohlkclfcigaa
