/- A part of the proof that TopAnewTrack returns true at every input of bulk at most 1048576: what came in by its shapes, and the row. -/
import Derived.Test.YtliohlkclfcigaaAbsNa
import Derived.Test.YtliohlkclfcigaaAbsTc
import Derived.WalkKit
import Derived.ProofKit
import Derived.OpenShut
import Derived.WideKeyArgs
set_option linter.unusedVariables false
set_option linter.unusedSimpArgs false
namespace Go.Abs
open Go.ChangeShapes Go.WideShapes Go.ChangeAt Go.RowKit
variable {P : Program} {O : Orc}
theorem osim_noO : OSim P noO := fun _ _ _ _ _ h => by cases h
theorem row_calls (hOS : OSim P O) (hok : progOk P = true) (hmix : P.follows .mixedOrders = true) {f : FuncId} {W : World} {cs : Array Value} {acs : List Value} {K : Nat} {G : Nat → Blk} {φ : Phi} (hl : Laid W W.heap.size K G φ) (hlr : LR φ acs cs.toList) (hone : OneC acs)
    (h : RK P O f [.agg ⟨acs⟩] ⟨K, G⟩ (fun _ => False) (fun v _ => v = .bool true)) : Calls P f #[.agg cs] W fun e w' => e = .returned (.bool true) ∧ Below W.heap.size W w' := by
  obtain ⟨n, v, W', wr, h1, _, rfl⟩ := h; have := calls_of_sim (sim hOS hok hmix) h1 hl.wf (φ := φ) (base := W.heap.size) (H := G) (w := W) (args' := #[.agg cs]) (hl.rel (Nat.le_refl _)) (fun _ _ _ _ => rfl) (fun b hb _ => (hl.top b hb).2) (.cons (VR.mkAgg hlr hone) .nil); refine this.mono fun e w' ⟨φ', v', he, hv, hout⟩ => ?_; cases hv; exact ⟨he, hout.keeps.below⟩
theorem post_below {H : Type} {enc : TypeId × Value → H} {f : Func} {s : ChangeSpec} {apart fresh handsOn again : Bool} {W W' : World} {t tr : TypeId} {v : Value} {d : DataW H} {before : List MemPlace}
    (hp : f.params = #[t]) (hr : f.resultTypes = #[tr]) (hb : P.underlying tr = some .bool) (hvars : s.vars = []) (hfn : s.fn H [d] = ⟨[.lit (.bool true)], [d], []⟩)
    (hl : laidOutB P = true) (hrd : P.readableRec t = true) (hrow : t < P.types.size)
    (hW : DataW.Whole enc P f.params.toList s.vars apart W [v] [d] [] before) (h0 : DataW.Trod enc P W 0 (fun _ => true) true t v d before) (hB : Below W.heap.size W W') :
    s.post enc P f apart fresh handsOn again W #[v] (.bool true) W' := by
  have hold : ∀ p ∈ before, (fun b => decide (b < W.heap.size)) p.block = true := fun p hp => by simpa using hW.lt p hp
  have hlt : ∀ p ∈ before, p.block < W.heap.size := hW.lt; have hres : ∀ (b : Nat) (sp : Nat → Bool) (hd : Bool), DataW.TrodAll enc P W' b sp hd f.resultTypes.toList ((Value.bool true).resultList f.resultTypes.size) (s.fn H [d]).results [] := by
    intro b sp hd; rw [hr, hfn]; exact trodAll_cons_mk (shut_bool hb true) trodAll_mk0
  have hargs : ∀ sp : Nat → Bool, (∀ p ∈ before, sp p.block = true) → DataW.TrodAll enc P W' 0 sp true f.params.toList [v] (s.fn H [d]).args before := by
    intro sp hsp; rw [hp, hfn]; have := trodAll_cons_mk (enc := enc) (P := P) (WideElems.Trod_stays hl hrd hrow h0 (fun x hx => hB.same (hlt x hx)) hsp) trodAll_mk0
    simpa using this
  have hv : ∀ sp : Nat → Bool, DataW.TrodVars enc P W' sp s.vars (s.fn H [d]).vars [] := by
    intro sp; rw [hvars, hfn]; exact rfl
  refine ⟨[d], [], before, [], before, [], hW, hres _ _ _, hargs _ hold, hv _, World.keptBut_mono (fun p hp => ⟨hp, .inr (.inl hp)⟩) (hB.frame _), fun _ => ?_⟩; obtain ⟨_, _, _, _, _, hz, hn⟩ := hW; refine ⟨ok_one hr rfl (okWide_bool_mk hb true), _, _, ([] ++ before) ++ [], ⟨[] ++ before, [], trodAll_append (hargs _ (fun _ _ => rfl)) (hres _ _ _), hv _, rfl, ?_, ?_⟩, ?_⟩
  · intro b off hp; have hb3 : b < W.heap.size := hlt (.cell b off) (by simpa using hp); rw [hB.frozen (p := ⟨b, off, none⟩) hb3]; exact hz b off (by simpa using hp)
  · intro ha
    simpa using hn ha
  · intro p hp _
    simpa using hp
theorem osim_row (hok : progOk P = true) (hmix : P.follows .mixedOrders = true) {fA : FuncId} {F : FuncId → Bool} {K : Nat} {G : Nat → Blk} : OSim P (orU (orcA P fA) (orcM P F K G)) :=
  osim_U (osim_M (sim osim_noO hok hmix) _ _ _) (osim_M (sim osim_noO hok hmix) _ _ _)
theorem ShRows.inv {G : Nat → Blk} {s : Sh} {r : List Sh} {l : List Value} (h : ShRows G (s :: r) l) : ∃ v l', l = v :: l' ∧ ShOk G s v ∧ ShRows G r l' := by
  simp only [ShRows] at h; exact h
theorem ShRows.nil_inv {G : Nat → Blk} {l : List Value} (h : ShRows G [] l) : l = [] := by
  simp only [ShRows] at h; exact h
theorem ShOk.int_inv {G : Nat → Blk} {k : IntKind} {lo hi : Int} {v : Value} (h : ShOk G (.sc (.int k lo hi)) v) : ∃ n, v = .int k n ∧ lo ≤ n ∧ n ≤ hi := by
  simp only [ShOk] at h; exact h
end Go.Abs
