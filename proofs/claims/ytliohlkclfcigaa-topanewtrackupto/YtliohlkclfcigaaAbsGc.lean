/- A part of the proof that TopAnewTrack returns true at every input of bulk at most 1048576: regions in every order that may be drawn. -/
import Derived.Test.YtliohlkclfcigaaAbsGb
set_option linter.unusedVariables false
set_option linter.unusedSimpArgs false
namespace Go.Abs
open Go.RowKit (Below)
variable {P : Program} {O : Orc}
def DInv (φ0 : Phi) (base lb : Nat) (H0 : Nat → Blk) (w0 : World) (sz : Nat) (all : Array Oper) (X : Aux) (q : Nat) (envs : Nat → Env) (Ws : Nat → AW) (fs : Nat → FPr) (E : Nat → Bool) (a : Act) (w : World) : Prop :=
  ∃ φ, Ext φ0 φ w0 (Ws 0).next (Ws q).next ∧ Keeps φ0 base w0 w ∧ Rel φ base (curH H0 Ws fs q E) w ∧
    (∀ b p, φ b = some p → φ0 b = none → ∃ m, m < q ∧ E m = true ∧ (fs m).lo ≤ b ∧ b < (fs m).hi) ∧ TR φ (curE all envs q E) a.tmps ∧ a.tmps.size = sz ∧ DOk φ lb w X.defs a.defers
section draw
variable {N : Nat} {ro : Option Nat} {sz : Nat} {all : Array Oper} {X : Aux} {q : Nat} {envs : Nat → Env} {Ws : Nat → AW} {vs : Nat → Value} {fs : Nat → FPr}
variable {φ0 : Phi} {base lb : Nat} {H0 : Nat → Blk} {w0 : World}
def H0Ok (φ0 : Phi) (H0 : Nat → Blk) (Ws : Nat → AW) (q : Nat) : Prop := ∀ b, b < (Ws q).next → (∀ p, φ0 b = some p → H0 b = (Ws 0).get b) ∧ (φ0 b = none → (Ws 0).next ≤ b → H0 b = (Ws 0).get b)
theorem Draw.ranges (h : Draw P O N ro sz all X q envs Ws vs fs) {i j b : Nat} (hij : i < j) (hj : j < q) (h1 : (fs i).lo ≤ b ∧ b < (fs i).hi) (h2 : (fs j).lo ≤ b ∧ b < (fs j).hi) : False := by
  have e1 := (h.frange (show i < q by omega)).2.2.1; have e2 := (h.frange hj).2.1; have := h.next (j := i + 1) (k := j) hij (by omega)
  omega
theorem Draw.ranges' (h : Draw P O N ro sz all X q envs Ws vs fs) {i j b : Nat} (hi : i < q) (hj : j < q) (h1 : (fs i).lo ≤ b ∧ b < (fs i).hi) (h2 : (fs j).lo ≤ b ∧ b < (fs j).hi) : i = j := by
  rcases Nat.lt_trichotomy i j with g | g | g
  · exact (h.ranges g hj h1 h2).elim
  · exact g
  · exact (h.ranges g hi h2 h1).elim
theorem H0Ok.of {φ : Phi} {E : Nat → Bool} (h : Draw P O N ro sz all X q envs Ws vs fs) (hH : H0Ok φ0 H0 Ws q) (hdom : ∀ b p, φ b = some p → φ0 b = none → ∃ m, m < q ∧ E m = true ∧ (fs m).lo ≤ b ∧ b < (fs m).hi) {b : Nat} {p : PB} (hb : φ b = some p) (hlt : b < (Ws q).next) : H0 b = (Ws 0).get b := by
  cases h0 : φ0 b with
  | some p0 => exact (hH b hlt).1 p0 h0
  | none =>
    obtain ⟨m, h1, _, h2, _⟩ := hdom b p hb h0; refine (hH b hlt).2 h0 ?_; have := (h.frange h1).2.1; have := h.next (j := 0) (k := m) (by omega) (by omega)
    omega
theorem Draw.finds (h : Draw P O N ro sz all X q envs Ws vs fs) {E : Nat → Bool} {i : Nat} (hi : i < q) (hc : Closed all E) (hd : DirectOk all E i) (hE : E i = false)
    (hH : H0Ok φ0 H0 Ws q) {φ : Phi} (hdom : ∀ b p, φ b = some p → φ0 b = none → ∃ m, m < q ∧ E m = true ∧ (fs m).lo ≤ b ∧ b < (fs m).hi) (hle : PLe φ0 φ) (hF : Fresh φ0 (Ws 0).next (Ws q).next) :
    HOk φ (curH H0 Ws fs q E) (Ws i) (fs i).rd (fs i).wr := by
  have hii := h.frange hi; have hqi : (Ws (i + 1)).next ≤ (Ws q).next := h.next hi (Nat.le_refl _)
  have road : ∀ b p, φ b = some p → b < (Ws q).next → (∀ k, k < i → b ∈ (fs k).wr → ordered (Region.before all) k i = true) → (∀ k, i < k → k < q → Tch (fs k) b → ordered (Region.before all) i k = true) →
      (b ∈ (fs i).wr ∨ b < (Ws i).next) → curH H0 Ws fs q E b = (Ws i).get b := by
    intro b p hb hlt c1 c2 hbi; have h0 := H0Ok.of h hH hdom hb hlt; have h1 : curH H0 Ws fs q E b = (fun j => if j = 0 then H0 b else (Ws j).get b) i := by
      unfold curH; refine h.sel (h.heap h0) hi hc hd hE (fun k hk hd' => ?_) (fun k hk hq hd' => .inl (c2 k hk hq (of_decide_eq_true hd'))); rcases (of_decide_eq_true hd' : Tch _ _) with g | g
      · exact .inl (c1 k hk g)
      · right; have hk0 : φ0 b = none := by
          have e1 := (h.frange (show k < q by omega)).2.1; have := h.next (j := 0) (k := k) (by omega) (by omega)
          exact hF b (by omega) hlt
        obtain ⟨m, m1, m2, m3⟩ := hdom b p hb hk0; rw [← h.ranges' m1 (show k < q by omega) m3 g]; exact m2
    rw [h1]; show (if i = 0 then H0 b else (Ws i).get b) = (Ws i).get b; by_cases hz : i = 0
    · subst hz; rw [if_pos rfl, h0]
    · rw [if_neg hz]
  cases hrd : (fs i).rd with
  | none =>
    intro b p hb hlt; have hnext : (Ws i).next ≤ (Ws q).next := h.next (by omega) (Nat.le_refl _)
    refine road b p hb (by omega) (fun k hk hw => ?_) (fun k hk hq ht => ?_) (.inr hlt)
    · rcases h.conf k i hk hi with g | ⟨g, _⟩
      · exact g
      · obtain ⟨_, _, rd, h1, _⟩ := apartWB_spec g b hw; rw [hrd] at h1; cases h1
    · rcases ht with ht | ht
      · rcases h.conf i k hk hq with g | ⟨_, g⟩
        · exact g
        · obtain ⟨_, _, rd, h1, _⟩ := apartWB_spec g b ht; rw [hrd] at h1; cases h1
      · have e1 := (h.frange hq).2.1; have := h.next (j := i) (k := k) (by omega) (by omega)
        omega
  | some rd =>
    intro b p hb hm; have hlt : b < (Ws q).next := by
      rcases hm with hm | hm
      · have := hii.2.2.2 rd hrd b hm; have := h.next (j := i) (k := q) (by omega) (Nat.le_refl _)
        omega
      · have := hii.1.lt b hm; omega
    have hbi : b ∈ (fs i).wr ∨ b < (Ws i).next := by
      rcases hm with hm | hm
      · exact .inr (hii.2.2.2 rd hrd b hm)
      · exact .inl hm
    refine road b p hb hlt (fun k hk hw => ?_) (fun k hk hq ht => ?_) hbi
    · rcases h.conf k i hk hi with g | ⟨g, _⟩
      · exact g
      · obtain ⟨h1, _, rd', h2, h3⟩ := apartWB_spec g b hw; rw [hrd] at h2; cases h2; exact (hm.elim h3 h1).elim
    · rcases ht with ht | ht
      · rcases h.conf i k hk hq with g | ⟨_, g⟩
        · exact g
        · obtain ⟨h1, _, rd', h2, h3⟩ := apartWB_spec g b ht; rw [hrd] at h2; cases h2; exact (hm.elim h3 h1).elim
      · exfalso; have e1 := (h.frange hq).2.1; have e2 := h.next (j := i + 1) (k := k) hk (by omega)
        have e3 := hii.1.next
        rcases hm with hm | hm
        · have := hii.2.2.2 rd hrd b hm; omega
        · have := hii.1.lt b hm; omega
theorem Draw.step (h : Draw P O N ro sz all X q envs Ws vs fs) (hC : ∀ m, m < N → SimCall P O m) (hR : ∀ m, m < N → SimRound P O m) (hok : all.toList.all operOk = true) {E : Nat → Bool} {i : Nat} (hi : i < q) (hc : Closed all E) (hd : DirectOk all E i) (hE : E i = false)
    (hH : H0Ok φ0 H0 Ws q) (hF : Fresh φ0 (Ws 0).next (Ws q).next) {a : Act} {w : World} (hI : DInv φ0 base lb H0 w0 sz all X q envs Ws fs E a w)
    {b : Frame} {k : List Item} {cs : List Frame} {rest : List Nat} (hro : RoR φ0 ro b.roundOf) (hK : KindOk φ0 b.kind cs X.pan) :
    ∃ a' w', DInv φ0 base lb H0 w0 sz all X q envs Ws fs (addE E i) a' w' ∧ Steps P (lone (b.atR a (.inRegion all (i :: rest) :: k)) cs w) (lone (b.atR a' (.inRegion all rest :: k)) cs w') := by
  obtain ⟨φ, h1, h2, h3, h4, h5, h6, h7⟩ := hI; obtain ⟨o, ho, hrun, _⟩ := h.oper hi; have hoo : operOk o = true := List.all_eq_true.1 hok o (List.mem_of_getElem? (by rw [Array.getElem?_toList]; exact ho)); have hii := h.frange hi; have hrun' := OpRun.congr (e' := curE all envs q E) (h.reads hi hc hd hE ho) hrun; have hfind := h.finds hi hc hd hE hH h4 h1.le hF; have hfr : Fresh φ (Ws i).next (Ws (i + 1)).next := by
    intro c hc1 hc2; cases hcφ : φ c with
    | none => rfl
    | some p =>
      exfalso; have e1 := h.next (j := 0) (k := i) (by omega) (by omega)
      have e2 := h.next (j := i + 1) (k := q) hi (Nat.le_refl _)
      obtain ⟨m, m1, m2, m3⟩ := h4 c p hcφ (hF c (by omega) (by omega)); have := h.ranges' m1 hi m3 (by omega); rw [this] at m2; rw [hE] at m2; cases m2
  obtain ⟨φ1, w1, v', cs1, dfs, q1, q2, q3, q4, q5⟩ := op_one hC hR hrun' (h.wfs (by omega)) hoo h3 h5 hfind hfr h7 (hro.mono h1.le) (hK.mono h1.le) ho (rest := rest) (k := k); have hcs : cs1 = cs := by
    rcases q4 with ⟨_, g⟩ | ⟨⟨v, g1⟩, g2, _⟩
    · exact g
    · rw [g1] at g2; cases g2
  subst hcs; have hput := h.puts hi hc hd hE ho; obtain ⟨t1, t2⟩ := TR.put (a := { a with defers := dfs }) (h5.mono q1.ext.le) h6 q2 hput; have hdom' : ∀ c p, φ1 c = some p → φ0 c = none → ∃ m, m < q ∧ addE E i m = true ∧ (fs m).lo ≤ c ∧ c < (fs m).hi := by
    intro c p hcp h0; cases hcφ : φ c with
    | some p' =>
      obtain ⟨m, m1, m2, m3⟩ := h4 c p' hcφ h0; exact ⟨m, m1, by simp [addE, m2], m3⟩
    | none =>
      obtain ⟨g1, g2, _⟩ := q1.ext.new c p hcp hcφ; exact ⟨i, hi, by simp [addE], by omega, by omega⟩
  refine ⟨_, w1, ⟨φ1, ?_, h2.trans h1 q1.keeps, ?_, hdom', t1, t2, by rw [put_defers]; exact q3⟩, q5⟩
  · exact Ext.comp h2.below.size h1 q1.ext (h.next (by omega) (by omega)) (h.next hi (Nat.le_refl _))
  · refine q1.rel.congr fun c p hcp => ?_; by_cases ht : Tch (fs i) c
    · have hlt : c < (Ws (i + 1)).next := by
        rcases ht with ht | ht
        · exact hii.1.lt c ht
        · omega
      have hlq : c < (Ws q).next := Nat.lt_of_lt_of_le hlt (h.next hi (Nat.le_refl _))
      have h0 := H0Ok.of h hH hdom' hcp hlq; have e1 : curH H0 Ws fs q (addE E i) c = (fun j => if j = 0 then H0 c else (Ws j).get c) (i + 1) := by
        unfold curH; exact h.sel' (h.heap h0) hi hc hd hE (fun m hm hd' => .inl (h.clash hm hi (of_decide_eq_true hd') ht)) (fun m hm hq hd' => .inl (h.clash hm hq ht (of_decide_eq_true hd')))
      rw [e1]; show (Ws (i + 1)).get c = _; unfold ovl; rw [if_pos]; rcases ht with ht | ht
      · exact .inr ht
      · left; omega
    · have e1 : curH H0 Ws fs q (addE E i) c = curH H0 Ws fs q E c := by
        unfold curH; exact cur_other (by simpa using ht) q
      rw [e1]; unfold ovl; rw [if_neg]; intro hcc; refine ht ?_; rcases hcc with hcc | hcc
      · right; omega
      · exact .inl hcc
theorem cur_none {α : Type} {f : Nat → α} {touch E : Nat → Bool} : ∀ n, (∀ m, m < n → touch m = false) → cur f touch E n = f 0
  | 0, _ => rfl
  | n + 1, h => by
    simp only [cur]; rw [if_neg (fun hc => by rw [h n (by omega)] at hc; exact absurd hc.2 (by simp))]; exact cur_none n fun m hm => h m (by omega)
theorem Draw.tile (h : Draw P O N ro sz all X q envs Ws vs fs) {b : Nat} (h1 : (Ws 0).next ≤ b) : ∀ j, j ≤ q → b < (Ws j).next → ∃ m, m < j ∧ Tch (fs m) b := by
  intro j
  induction j with
  | zero => intro _ h2; omega
  | succ j ih =>
    intro hj h2; by_cases hb : b < (Ws j).next
    · obtain ⟨m, hm, ht⟩ := ih (by omega) hb; exact ⟨m, by omega, ht⟩
    · have := h.frange (show j < q by omega); exact ⟨j, by omega, .inr ⟨by omega, by omega⟩⟩
theorem Draw.done (h : Draw P O N ro sz all X q envs Ws vs fs) {H : Nat → Blk} (hH0 : ∀ b, ¬ ((Ws 0).next ≤ b ∧ b < (Ws q).next) → H0 b = H b) (hH : H0Ok φ0 H0 Ws q) {E : Nat → Bool} (hE : ∀ j, j < q → E j = true) {a : Act} {w : World} (hI : DInv φ0 base lb H0 w0 sz all X q envs Ws fs E a w)
    {wr : List Nat} (hwr : ∀ b, b ∈ wr ↔ ∃ j, j < q ∧ b ∈ (fs j).wr) :
    ∃ φ, Out φ0 φ base H (Ws 0) (Ws q) wr w0 w ∧ TR φ (envs q) a.tmps ∧ a.tmps.size = sz ∧ DOk φ lb w X.defs a.defers ∧
      (∀ b p, φ b = some p → φ0 b = none → ∃ m, m < q ∧ E m = true ∧ (fs m).lo ≤ b ∧ b < (fs m).hi) := by
  obtain ⟨φ, h1, h2, h3, h4, h5, h6, h7⟩ := hI; refine ⟨φ, ⟨h1, h3.congr fun c p hcp => ?_, h2⟩, ?_, h6, h7, h4⟩
  · by_cases ht : ∃ m, m < q ∧ Tch (fs m) c
    · obtain ⟨m, hm, ht⟩ := ht; have hmq := h.next (j := m + 1) (k := q) hm (Nat.le_refl _)
      have hmm := h.frange hm; have hlq : c < (Ws q).next := by
        rcases ht with ht | ht
        · have := hmm.1.lt c ht; omega
        · omega
      have h0 := H0Ok.of h hH h4 hcp hlq; have e1 : curH H0 Ws fs q E c = (fun j => if j = 0 then H0 c else (Ws j).get c) q := by
        unfold curH; exact cur_read (h.heap h0) (fun k hk _ => hE k hk) (Nat.le_refl _) (fun k hk hq _ => by omega)
      rw [e1]; show _ = if q = 0 then H0 c else (Ws q).get c
      rw [if_neg (by omega)]; unfold ovl; rw [if_pos]; rcases ht with ht | ht
      · exact .inr ((hwr c).2 ⟨m, hm, ht⟩)
      · left; have := h.next (j := 0) (k := m) (by omega) (by omega)
        omega
    · have hnr : ¬ ((Ws 0).next ≤ c ∧ c < (Ws q).next) := fun hc => ht (h.tile hc.1 q (Nat.le_refl _) hc.2); have e1 : curH H0 Ws fs q E c = H0 c := by
        unfold curH; rw [cur_none q fun m hm => by simpa using fun hc => ht ⟨m, hm, hc⟩, if_pos rfl]
      rw [e1, hH0 c hnr]; unfold ovl; rw [if_neg]; intro hc; rcases hc with hc | hc
      · exact hnr hc
      · obtain ⟨m, hm, hcm⟩ := (hwr c).1 hc; exact ht ⟨m, hm, .inl hcm⟩
  · have e1 : curE all envs q E = envs q := by
      funext t; exact cur_read (f := fun j => envs j t) (h.dst t) (fun k hk _ => hE k hk) (Nat.le_refl _) (fun k hk hq _ => by omega)
    rw [e1] at h5; exact h5
end draw
end Go.Abs
namespace Go.Abs
open Go.RowKit (Below)
variable {P : Program} {O : Orc} {φ φ' : Phi} {base : Nat} {H : Nat → Blk} {W W' : AW} {w w' : World}
theorem mem_wrs {fps : List FPr} {b : Nat} : b ∈ wrs fps ↔ ∃ fp ∈ fps, b ∈ fp.wr := by
  unfold wrs; rw [List.mem_flatten]; constructor
  · rintro ⟨l, hl, hb⟩; obtain ⟨fp, h1, rfl⟩ := List.mem_map.1 hl; exact ⟨fp, h1, hb⟩
  · rintro ⟨fp, h1, hb⟩; exact ⟨fp.wr, List.mem_map.2 ⟨fp, h1, rfl⟩, hb⟩
theorem noConfB_spec {ops : Array Oper} {fps : List FPr} (h : noConfB ops fps = true) : ∀ i j x y, i < j → fps[i]? = some x → fps[j]? = some y → ordered (Region.before ops) i j = true ∨ (apartWB x y = true ∧ apartWB y x = true) := by
  intro i j x y hij hx hy; unfold noConfB at h; simp only [List.all_eq_true, List.mem_range] at h; have hj := (List.getElem?_eq_some_iff.1 hy).1; have := h j hj i hij; rw [hx, hy, Bool.or_eq_true] at this
  simpa using this
theorem Out.drew (hr : Rel φ base H w) (n : Nat) : Out φ φ base H W W [] w { w with drawn := n } :=
  ⟨Ext.refl _ _ _ _, by rw [ovl_self]; exact hr.drew n, Keeps.drew _ _ _ _⟩
theorem Out.congr_wr {wr wr' : List Nat} (h : Out φ φ' base H W W' wr w w') (e : ∀ b, b ∈ wr ↔ b ∈ wr') : Out φ φ' base H W W' wr' w w' :=
  ⟨h.ext, by
    have : ovl H W'.get W.next W'.next wr' = ovl H W'.get W.next W'.next wr := by
      funext b; unfold ovl; simp only [e b]
    rw [this]; exact h.rel, h.keeps⟩
theorem AFr.congr_wr {wr wr' : List Nat} (h : AFr W W' wr) (e : ∀ b, b ∈ wr ↔ b ∈ wr') : AFr W W' wr' :=
  ⟨h.next, fun b hb hn => h.same b hb fun hc => hn ((e b).1 hc), fun b hb => h.lt b ((e b).2 hb)⟩
theorem Trace.afr {N : Nat} {ro : Option Nat} {sz : Nat} {all : Array Oper} {X : Aux} {q : Nat} {envs : Nat → Env} {Ws : Nat → AW} {vs : Nat → Value} {fs : Nat → FPr} (hwf : (Ws 0).wf) (h : Trace P O N ro sz all X 0 q envs Ws vs fs) :
    ∀ j, j ≤ q → AFr (Ws 0) (Ws j) (wrs ((List.range j).map fs)) := by
  intro j
  induction j with
  | zero => intro _; exact AFr.refl _
  | succ j ih =>
    intro hj; have h1 := ih (by omega); have h2 := ((Trace.facts hwf h (j + 1) hj).2 j (by omega)).1; refine (h1.trans h2).congr_wr fun b => ?_; rw [List.range_succ, List.map_append, List.mem_append, mem_wrs, mem_wrs]; constructor
    · rintro (⟨fp, g1, g2⟩ | g)
      · exact ⟨fp, List.mem_append_left _ g1, g2⟩
      · exact ⟨fs j, List.mem_append_right _ (by simp), g⟩
    · rintro ⟨fp, g1, g2⟩; rcases List.mem_append.1 g1 with g1 | g1
      · exact .inl ⟨fp, g1, g2⟩
      · simp at g1; subst g1; exact .inr g2
theorem closed_none (ops : Array Oper) : Closed ops (setOf (Array.replicate ops.size false)) := by
  intro j hj; simp [setOf, Array.getD_eq_getD_getElem?, Array.getElem?_replicate] at hj; split at hj <;> simp at hj
theorem setOf_none (n : Nat) : setOf (Array.replicate n false) = fun _ => false := by
  funext k; simp only [setOf, Array.getD_eq_getD_getElem?, Array.getElem?_replicate]; split <;> rfl
theorem cur_empty {α : Type} {f : Nat → α} {touch : Nat → Bool} : ∀ n, cur f touch (fun _ => false) n = f 0
  | 0 => rfl
  | n + 1 => by simp only [cur]; rw [if_neg (by simp)]; exact cur_empty n
theorem region_draw {N : Nat} (hC : ∀ m, m < N → SimCall P O m) (hR : ∀ m, m < N → SimRound P O m) (hmix : P.follows .mixedOrders = true) {ro : Option Nat} {sz : Nat} {all : Array Oper} (hok : all.toList.all operOk = true) (hreg : regionOk all = true)
    {n id : Nat} {env : Env} {X : Aux} {W : AW} {p : Option Value} {env' : Env} {X' : Aux} {W' : AW} {fps : List FPr}
    (hn : n ≤ N) (h : ev P O n (.ops ro sz all all.toList env X W) = some (.ops p env' X' W' fps)) (hconf : noConfB all fps = true) (hpan : p ≠ none → allBefore all (fps.length - 1) = true) (hwf : W.wf)
    {φ : Phi} {base lb : Nat} {H : Nat → Blk} {w : World} {a : Act} {b : Frame} {k : List Item} {cs : List Frame} (hr : Rel φ base H w) (hd : Dom φ H W) (hf : Fresh φ W.next W'.next) (hT : TR φ env a.tmps) (hs : a.tmps.size = sz) (hD : DOk φ lb w X.defs a.defers)
    (hro : RoR φ ro b.roundOf) (hK : KindOk φ b.kind cs X.pan) :
    ∃ φ' w' a', Out φ φ' base H W W' (wrs fps) w w' ∧ TR φ' env' a'.tmps ∧ a'.tmps.size = sz ∧ DOk φ' lb w' X'.defs a'.defers ∧ X' = X ∧
      match p with
      | none => Steps P (lone (b.atR a (.code (.region id all true) :: k)) cs w) (lone (b.atR a' k) cs w')
      | some v => ∃ v' todo, VR φ' v v' ∧ NoCall todo ∧ Steps P (lone (b.atR a (.code (.region id all true) :: k)) cs w) (lone { b.atR a' todo with mode := .panicking [{ v := v', recovered := false }] } cs w') := by
  obtain ⟨hpl, hback, _⟩ := regionOk_spec hreg; obtain ⟨rfl, q, envs, Ws, vs, fs, _, he0, hW0, htr, heq, hfps, hend⟩ := trace_of hpl all.toList n 0 env X W p env' X' W' fps hn (by simp) h hwf; subst hW0; subst he0; have hafr := ev_good P O n _ _ h hwf; have hnext : (Ws q).next ≤ W'.next := by
    rcases hend with ⟨_, _, g, _⟩ | ⟨v, o, fp, _, _, g, _⟩
    · rw [g]; exact Nat.le_refl _
    · have hwq := (Trace.facts hwf htr q (Nat.le_refl _)).1; cases g with
      | panic _ r hr _ _ => exact (aop_good hwq hr).fr.next
      | call _ r hr f args hx m _ _ _ wr he =>
        have g := aop_good hwq hr; have hst := g.still; unfold Still at hst; rw [hx] at hst; have g2 := (ev_good P O m _ _ he (by show r.W.wf; exact g.wf)).2.next
        rw [show (Task.call f args none r.W).W = Ws q from hst.1] at g2; exact g2
      | round _ r hr l args hx m _ _ _ wr he =>
        have g := aop_good hwq hr; have hst := g.still; unfold Still at hst; rw [hx] at hst; have g2 := (ev_good P O m _ _ he (by show r.W.wf; exact g.wf)).2.next
        rw [show (Task.round l args r.W).W = Ws q from hst.1] at g2; exact g2
  have hlen : q ≤ fps.length := by
    rcases hend with ⟨_, _, _, g⟩ | ⟨v, o, fp, _, _, _, g, _⟩ <;> omega
  have hget : ∀ j, j < q → fps[j]? = some (fs j) := by
    intro j hj; have hj' : j < fps.length := by omega
    have g := hfps j fps[j] (List.getElem?_eq_getElem hj') (by omega); rw [List.getElem?_eq_getElem hj', g]; rfl
  have hDr : Draw P O N ro sz all X' q envs Ws vs fs := ⟨htr, hwf, hreg, fun i j hij hj => noConfB_spec hconf i j _ _ hij (hget i (by omega)) (hget j hj)⟩
  have hF : Fresh φ (Ws 0).next (Ws q).next := hf.le hnext
  let H0 : Nat → Blk := fun b => if (Ws 0).next ≤ b ∧ b < (Ws q).next then (Ws 0).get b else H b
  have hH : H0Ok φ H0 Ws q := by
    intro c hc; refine ⟨fun p hp => ?_, fun _ h2 => if_pos ⟨h2, hc⟩⟩; by_cases h2 : (Ws 0).next ≤ c
    · exact if_pos ⟨h2, hc⟩
    · show (if (Ws 0).next ≤ c ∧ c < (Ws q).next then (Ws 0).get c else H c) = (Ws 0).get c; rw [if_neg (by omega)]; exact hd c p hp (by omega)
  have hH0 : ∀ c, ¬ ((Ws 0).next ≤ c ∧ c < (Ws q).next) → H0 c = H c := fun c hc => if_neg hc; have hw1 := Out.drew (W := Ws 0) hr (w.drawn + 1); generalize hw1e : ({ w with drawn := w.drawn + 1 } : World) = w1 at hw1; have hrel1 := hw1.rel; rw [ovl_self] at hrel1; have hlift : ∀ {φ' : Phi} {w' : World}, Out φ φ' base H (Ws 0) W' (wrs fps) w1 w' → Out φ φ' base H (Ws 0) W' (wrs fps) w w' := by
    intro φ' w' hO; have := Out.trans (AFr.refl (Ws 0)) hafr.2 hw1 (by rw [ovl_self]; exact hO); rw [List.nil_append] at this; exact this
  let Done : Machine → Prop := fun m => ∃ v, p = some v ∧ ∃ φ' w' a' v' todo, Out φ φ' base H (Ws 0) W' (wrs fps) w1 w' ∧ VR φ' v v' ∧ NoCall todo ∧ TR φ' env' a'.tmps ∧ a'.tmps.size = sz ∧ DOk φ' lb w' X'.defs a'.defers ∧
    Steps P m (lone { b.atR a' todo with mode := .panicking [{ v := v', recovered := false }] } cs w')
  have hinit : DInv φ base lb H0 w1 sz all X' q envs Ws fs (setOf (Array.replicate all.size false)) a w1 := by
    refine ⟨φ, Ext.refl _ _ _ _, Keeps.refl _ _ _, ?_, (fun c p h1 h2 => absurd h1 (by rw [h2]; simp)), ?_, hs, hD.out hw1⟩
    · rw [setOf_none]; refine hrel1.congr fun c p hc => ?_; unfold curH; rw [cur_empty, if_pos rfl]; refine hH0 c fun hcc => ?_; rw [hF c hcc.1 hcc.2] at hc; cases hc
    · rw [setOf_none]; have : curE all envs q (fun _ => false) = envs 0 := by funext t; exact cur_empty (f := fun j => envs j t) q
      rw [this]; exact hT
  have hqsz : p = none → q = all.size := by
    intro hp; rcases hend with ⟨_, g, _⟩ | ⟨v, _, _, g, _⟩
    · simpa using g
    · rw [hp] at g; cases g
  have hall := draw_run (P := P) (ops := all) (b := b) (k := k) (cs := cs) hback (fun E a w => DInv φ base lb H0 w1 sz all X' q envs Ws fs E a w ∧ ∀ j, q ≤ j → E j = false) Done
    (fun m m' hst ⟨v, hv, φ', w', a', v', todo, g1, g2, g0, g3, g4, g5, g6⟩ => ⟨v, hv, φ', w', a', v', todo, g1, g2, g0, g3, g4, g5, hst.trans g6⟩)
    (by
      intro E a w i hi hE hcl hdir ⟨hI, hqE⟩ rest; by_cases hiq : i < q
      · left; obtain ⟨a', w', g1, g2⟩ := hDr.step hC hR hok hiq hcl hdir hE hH hF hI hro hK (b := b) (k := k) (cs := cs) (rest := rest); refine ⟨a', w', ⟨g1, fun j hj => ?_⟩, g2⟩; simp only [addE, Bool.or_eq_false_iff, beq_eq_false_iff_ne]; exact ⟨hqE j hj, by omega⟩
      · right; rcases hend with ⟨_, g, _⟩ | ⟨v, o, fp, hp, ho, hop, hl, hfp, _⟩
        · simp at g; omega
        · have hab := hpan (by rw [hp]; simp); rw [hl] at hab; simp only [allBefore, Bool.and_eq_true, decide_eq_true_eq, List.all_eq_true, List.mem_range] at hab; obtain ⟨hab1, hab2⟩ := hab; have hiq' : i = q := by omega
          subst hiq'; have hEall : ∀ j, j < i → E j = true := fun j hj => preds_of_direct hcl hdir j (by
            have := hab2 j (by omega); rw [show i + 1 - 0 - 1 = i by omega] at this; exact this)
          obtain ⟨φ1, q1, q2, q3, q4, q5⟩ := hDr.done hH0 hH hEall hI (wr := wrs ((List.range i).map fs)) (fun c => by
            rw [mem_wrs]; constructor
            · rintro ⟨f, k1, k2⟩; obtain ⟨j, hj, rfl⟩ := List.mem_map.1 k1; exact ⟨j, List.mem_range.1 hj, k2⟩
            · rintro ⟨j, hj, k2⟩; exact ⟨fs j, List.mem_map.2 ⟨j, List.mem_range.2 hj, rfl⟩, k2⟩)
          have hwq := (Trace.facts hwf htr i (Nat.le_refl _)).1; have hoo : operOk o = true := List.all_eq_true.1 hok o (List.mem_of_getElem? (by rw [Array.getElem?_toList]; exact ho)); have hafq := Trace.afr hwf htr i (Nat.le_refl _); have hdq := Dom.next hd q1 hafq
          have hfq := Fresh.next hf q1 hafq
          have hlt : ∀ r, fp.rd = some r → ∀ c ∈ r, c < (Ws i).next := by
            cases hop with
            | panic _ r hr2 _ hx => have g := aop_good hwq hr2; intro rd h c hc; cases h; exact g.rd c hc
            | call => intro r h; cases h
            | round => intro r h; cases h
          have hfpaf : AFr (Ws i) W' fp.wr := by
            cases hop with
            | panic _ r hr _ _ => exact (aop_good hwq hr).fr
            | call _ r hr f args hx m _ _ _ wr he =>
              have g := aop_good hwq hr; have hst := g.still; unfold Still at hst; rw [hx] at hst; have g2 := (ev_good P O m _ _ he (by show r.W.wf; exact g.wf)).2; rw [show (Task.call f args none r.W).W = Ws i from hst.1] at g2; exact g2
            | round _ r hr l args hx m _ _ _ wr he =>
              have g := aop_good hwq hr; have hst := g.still; unfold Still at hst; rw [hx] at hst; have g2 := (ev_good P O m _ _ he (by show r.W.wf; exact g.wf)).2; rw [show (Task.round l args r.W).W = Ws i from hst.1] at g2; exact g2
          have hwr : ∀ c ∈ fp.wr, φ1 c ≠ none → c < (Ws i).next := by
            intro c hc hne; rcases Nat.lt_or_ge c (Ws i).next with h' | h'
            · exact h'
            · exact absurd (hfq c h' (hfpaf.lt c hc)) hne
          obtain ⟨φ2, w2, v', todo, s1, s2, s0, s3⟩ := op_pan hC hR hop hwq hoo q1.rel q2 (hHof hdq hlt hwr) hfq (hro.mono q1.ext.le) ho (rest := rest) (k := k) (cs := cs); refine ⟨v, hp, φ2, w2, a, v', todo, ?_, s2, s0, by rw [← heq]; exact q2.mono s1.ext.le, q3, q4.out s1, s3⟩; refine (Out.trans hafq hfpaf q1 s1).congr_wr fun c => ?_; rw [List.mem_append, mem_wrs, mem_wrs]; constructor
          · rintro (⟨f, g1, g2⟩ | g)
            · obtain ⟨j, hj, rfl⟩ := List.mem_map.1 g1; exact ⟨fs j, List.mem_of_getElem? (hget j (List.mem_range.1 hj)), g2⟩
            · exact ⟨fp, List.mem_of_getElem? hfp, g⟩
          · rintro ⟨f, g1, g2⟩; obtain ⟨j, hj⟩ := List.mem_iff_getElem?.1 g1; by_cases hji : j < i
            · rw [hget j hji] at hj; cases hj; exact .inl ⟨fs j, List.mem_map.2 ⟨j, List.mem_range.2 hji, rfl⟩, g2⟩
            · have hjl := (List.getElem?_eq_some_iff.1 hj).1; have : j = i := by omega
              subst this; rw [show j - 0 = j by omega, hj] at hfp; cases hfp; exact .inr g2)
  have hrun := hall all.size (w.tape w.drawn (.order b.fn id)) (Array.replicate all.size false) a w1 (by simp) (by
      refine Nat.le_trans (List.length_filter_le _ _) (by simp)) (closed_none all) ⟨hinit, fun j _ => by rw [setOf_none]⟩
  have hfirst : Steps P (lone (b.atR a (.code (.region id all true) :: k)) cs w) (lone (b.atR a (.inRegion all (Region.linearise.go .any all all.size (w.tape w.drawn (.order b.fn id)) (Array.replicate all.size false) []) :: k)) cs w1) := by
    refine .one ?_; rw [stepR_region_draw, ← hw1e]; simp only [Region.schedule, hmix, Bool.true_or, if_true]; rfl
  rcases hrun with ⟨E, a', w', g1, ⟨g2, g2'⟩, g3⟩ | hdone
  · cases p with
    | some v =>
      exfalso; rcases hend with ⟨g, _⟩ | ⟨v, o, fp, hp, ho, _⟩
      · cases g
      · have := (Array.getElem?_eq_some_iff.1 ho).1; have h1 := g1 q this; rw [g2' q (Nat.le_refl _)] at h1; cases h1
    | none =>
      have hq := hqsz rfl; rcases hend with ⟨_, _, hWq, hl⟩ | ⟨v, _, _, hp, _⟩
      · obtain ⟨φ1, q1, q2, q3, q4, q5⟩ := hDr.done hH0 hH (fun j hj => g1 j (by omega)) g2 (wr := wrs fps) (fun c => by
          rw [mem_wrs]; constructor
          · rintro ⟨f, k1, k2⟩; obtain ⟨j, hj⟩ := List.mem_iff_getElem?.1 k1; have hjl := (List.getElem?_eq_some_iff.1 hj).1; have hjq : j < q := by omega
            rw [hget j hjq] at hj; cases hj; exact ⟨j, hjq, k2⟩
          · rintro ⟨j, hj, k2⟩; exact ⟨fs j, List.mem_of_getElem? (hget j hj), k2⟩)
        rw [hWq] at q1; refine ⟨φ1, w', a', hlift q1, by rw [← heq]; exact q2, q3, q4, rfl, ?_⟩; exact (hfirst.trans g3).trans (.one stepR_region_end)
      · cases hp
  · obtain ⟨v, rfl, φ1, w', a', v', todo, k1, k2, k0, k3, k4, k5, k6⟩ := hdone; exact ⟨φ1, w', a', hlift k1, k3, k4, k5, rfl, v', todo, k2, k0, hfirst.trans k6⟩
end Go.Abs
