/- A part of the proof that TopAnewTrack returns true at every input of bulk at most 1048576: each operation, met by the machine. -/
import Derived.Test.YtliohlkclfcigaaAbsDb
set_option linter.unusedVariables false
set_option linter.unusedSimpArgs false
namespace Go.Abs
open Go.RowKit (Below)
variable {P : Program} {φ : Phi} {base : Nat} {H : Nat → Blk} {W : AW} {w : World}
theorem splice_window (cs vs : List Value) (o k : Nat) (h : o + k + vs.length ≤ cs.length) : ((splice cs (o + k) vs).drop o).take (k + vs.length) = (cs.drop o).take k ++ vs := by
  apply List.ext_getElem?; intro i; by_cases hi : i < k + vs.length
  · rw [List.getElem?_take_of_lt hi, List.getElem?_drop, splice_get _ _ _ h]; by_cases c : i < k
    · rw [if_neg (by omega), List.getElem?_append_left (by simp; omega), List.getElem?_take_of_lt c, List.getElem?_drop]
    · rw [if_pos (by omega), List.getElem?_append_right (by simp; omega)]; congr 1; simp; omega
  · rw [List.getElem?_eq_none (by simp; omega), List.getElem?_eq_none (by simp; omega)]
theorem below_push (hr : Rel φ base H w) (o : Obj) (k : Nat) : Below base w { w with heap := w.heap.push o, drawn := k } := by
  have := hr.size; exact ⟨rfl, rfl, rfl, by simp, fun k hk => by simp only [Array.getElem?_push]; rw [if_neg (by omega)]⟩
theorem take_arr (l : List Value) (z : Array Value) (n : Nat) (h : l.length = n) : (l.toArray ++ z).toList.take n = l := by
  subst h; simp
theorem take_arr2 (l l2 : List Value) (z : Array Value) (n : Nat) (h : (l ++ l2).length = n) : (l.toArray ++ l2.toArray ++ z).toList.take n = l ++ l2 := by
  subst h; have : (l.toArray ++ l2.toArray ++ z).toList = (l ++ l2) ++ z.toList := by simp
  rw [this, List.take_left]
theorem run_old {own : Bool} {g : Nat} {cs : List Value} {p : PB} (ha : Agree φ base w (.cells own g cs) p) {o o' n c size : Nat} (ho : n ≠ 0 → o' = p.off + o) (hle : o + n * size ≤ cs.length) :
    ∃ old', LR φ ((cs.drop o).take (n * size)) old' ∧ (∀ j v', old'[j]? = some v' → w.cell? ⟨p.blk, o' + j, none⟩ = some v') ∧ ∀ k, (Builtin.firstCells size n (.slice (some ⟨p.blk, o', none⟩) n c)).run P { w with drawn := k } = .ok old'.toArray { w with drawn := k } := by
  by_cases h0 : n * size = 0
  · refine ⟨[], by rw [h0]; exact .nil, fun j v' h => by simp at h, fun k => ?_⟩; simp [Builtin.firstCells, loadCells, h0, loadCellsFrom]
  · have hn := ho (by rintro rfl; simp at h0); subst hn; obtain ⟨vs', h1, h2, h3, h4⟩ := get_of_agree ha o (n * size) hle; refine ⟨vs', h1, fun j v' hv => by have := h4 j v' hv; rwa [add_off] at this, fun k => ?_⟩; have : (loadCells ⟨p.blk, p.off + o, none⟩ (n * size)).run P { w with drawn := k } = .ok vs'.toArray { w with drawn := k } := by
      rw [← h2]; exact run_loadCells_list _ _ vs' (fun j v hv => h4 j v hv)
    exact this
theorem sim_append (hr : Rel φ base H w) {t u : TypeId} {s s' x x' : Value} {ts : Array TypeId} {rt : TypeId} {r : OpR} {tu : TI} (htu : tinfo P u = some tu) (hnu : ∀ k, tu.kind ≠ .int k)
    (h0 : ts[0]? = some t) (h1 : ts[1]? = some u) (hs : VR φ s s') (hx : VR φ x x') (h : appendA P t s x W = some r)
    (hH : ∀ b p, φ b = some p → b ∈ r.rd ∨ b ∈ r.wr → H b = W.get b) (hf : ∀ b, W.next ≤ b → b < r.W.next → φ b = none) :
    OpSim P φ base H W w (do pure (.value (← Builtin.append_ ts rt #[s', x']))) r := by
  unfold appendA at h; split at h
  case h_2 => cases h
  rename_i sz ag e z nb ht; split at h
  case h_2 => cases h
  rename_i te bs n c hte; have hE := tinfo_facts hte; obtain ⟨d, hd, _, hu⟩ := (tinfo_facts htu).und; have hcore : ∀ (a' : Option Addr) (c' : Nat), (Builtin.append_ ts rt #[.slice a' n c', x']).run P w = (appendCore e te.size a' n c' x').run P w := fun a' c' =>
    run_append_core (tinfo_slice ht) hE hu (fun k hk => hnu k (by rw [← hd, hk]; rfl)) h0 h1
  split at h
  case h_2 => cases h
  rename_i new m rd hsrc; split at h
  case isTrue => cases h
  rename_i hbad; simp only [not_or, gt_iff_lt, Nat.not_lt] at hbad; obtain ⟨hsz, hby, hby2, hsmall⟩ := hbad; have hrd : ∀ b, b ∈ rd → b ∈ r.rd := by
    intro b hb; split at h
    · split at h
      · split at h
        · cases h; exact hb
        · split at h <;> cases h; exact List.mem_cons_of_mem _ hb
      · cases h; exact hb
    · split at h
      · split at h <;> cases h; exact hb
      · split at h
        · split at h
          · split at h
            · cases h; exact List.mem_cons_of_mem _ hb
            · split at h <;> cases h; exact List.mem_cons_of_mem _ hb
          · cases h
        · cases h
  obtain ⟨hlenk, hnl, hone, new', hnew, hrunk⟩ := run_srcCells (P := P) hr hx hsrc (fun b p hp hb => hH b p hp (.inl (hrd b hb))); have hlen : (Builtin.lenOf x').run P w = .ok m w := hlenk w.drawn; have hrun : (Builtin.firstCells te.size m x').run P w = .ok new'.toArray w := hrunk w.drawn; have hnl' : new'.length = m * te.size := by rw [← hnew.length]; exact hnl
  have hzl : ∀ k, (Builtin.zeroCells te.zero.cells k).size = k * te.size := by
    intro k; have h1 : te.zero.cells.toList.length = te.size := by rw [Value.cells_eq]; exact hE.len
    simp only [Array.length_toList] at h1; simp [Builtin.zeroCells, h1]
  cases hs with
  | nilSlice =>
    simp only at h; split at h
    · rename_i hle; cases h; have hm : m = 0 := by omega
      subst hm; refine OpSim.valrd hr (v' := .slice none 0 0) ?_ .nilSlice; have hc1 := run_core_nil (P := P) (e := e) (n := 0) (c := 0) hlen hle hrun; simp only [Sem.run_bind, hcore, hc1, Result.andThen_ok, Sem.run_pure]
    · rename_i hle; cases h; obtain ⟨cap, hcap, hcr⟩ := run_core_new (P := P) (w := w) hE (a := none) (n := 0) (c := 0) (old' := #[]) hlen (by omega) hby hby2 hsmall (fun k => rfl) hrunk; obtain ⟨φ', q1, q2⟩ := out_newCells (cc := #[] ++ new'.toArray ++ Builtin.zeroCells te.zero.cells (cap - (0 + m))) hr (hf W.next (Nat.le_refl _) (by simp [AW.alloc])) e te.size (vs := new)
        (by rw [show (#[] : Array Value) ++ new'.toArray = new'.toArray by simp, take_arr _ _ _ hnew.length.symm]; exact hnew) (by simp [hnew.length]) hone (w.drawn + 1)
      refine OpSim.mk (φ' := φ') (nx := .value (.slice (some ⟨w.heap.size, 0, none⟩) (0 + m) cap)) ?_ ?_ q2
      · simp only [Sem.run_bind, hcore, hcr, Result.andThen_ok, Sem.run_pure]
      · rw [Nat.zero_add]; refine VR.newSlice q1 (Nat.le_refl _) (by omega) (fun h => absurd h hsz) (fun _ => ?_); simp only [Array.size_append, hzl, List.size_toArray, List.length_nil, hnl']; have h8 : (cap - (0 + m)) * te.size = cap * te.size - m * te.size := by rw [Nat.zero_add, Nat.sub_mul]
        have h9 : m * te.size ≤ cap * te.size := Nat.mul_le_mul_right _ (by omega); rw [h8]; omega
  | slice b o _ _ o' c' p hp hn hc ho hx hg =>
    simp only at h; split at h
    · rename_i hle; split at h
      · rename_i hm; cases h; subst hm; have hnil : new' = [] := by cases new' <;> simp at hnl' ⊢
        subst hnil; refine OpSim.valrd hr (v' := .slice (some ⟨p.blk, o', none⟩) (n + 0) c') ?_ (VR.slice b o _ _ o' c' p hp (by omega) hc (fun hh => ho (by omega)) hx hg); have hc1 := run_core_in (P := P) (e := e) (a := ⟨p.blk, o', none⟩) (n := n) (c := c') (w' := w) (new' := #[]) hlen (by omega) hrun rfl; simp only [Sem.run_bind, hcore, hc1, Result.andThen_ok, Sem.run_pure]
      · rename_i hm; split at h
        case h_2 => cases h
        rename_i W' hput; cases h; have ho' := ho (.inr (by omega)); subst ho'; obtain ⟨w', g1, g2⟩ := run_put (P := P) hr hp (hH b p hp (.inr (by simp))) hnew hone hput; refine OpSim.mk (φ' := φ) (w' := w') (nx := .value (.slice (some ⟨p.blk, p.off + o, none⟩) (n + m) c')) ?_ (VR.slice b o _ _ _ c' p hp hle hc (fun _ => rfl) hx hg) g2; have hadd : (Addr.add ⟨p.blk, p.off + o, none⟩ (n * te.size) : Addr) = ⟨p.blk, p.off + (o + n * te.size), none⟩ := by rw [add_off, Nat.add_assoc]
        have hc1 := run_core_in (P := P) (e := e) (a := ⟨p.blk, p.off + o, none⟩) (n := n) (c := c') (w' := w') (new' := new'.toArray) hlen (by omega) hrun (by rw [hadd]; exact g1); simp only [Sem.run_bind, hcore, hc1, Result.andThen_ok, Sem.run_pure]
    · rename_i hle; split at h
      case h_2 => cases h
      rename_i own g cs hg0; have hg0' : W.get b = .cells own g cs := hg0; split at h
      case isFalse => cases h
      rename_i hbd; have hbd' : o + n * te.size ≤ cs.length := hbd; have hHb : H b = W.get b := by
        refine hH b p hp (.inl ?_); split at h
        · cases h; simp
        · split at h <;> cases h; simp
      have ha := hr.agree b p hp; rw [hHb, hg0'] at ha; have hpg : p.grow = g := ha.1; obtain ⟨old', hold, holdc, holdr⟩ := run_old (P := P) (c := c') ha (n := n) (size := te.size) (o := o) (o' := o') (fun hn0 => ho (.inl hn0)) hbd'; have hol : old'.length = n * te.size := by rw [← hold.length]; simp; omega
      have hone' : OneC ((cs.drop o).take (n * te.size)) := (ha.2.choose_spec.choose_spec.choose_spec.2.2.1.2.2.drop _).take _; have hcells : LR φ ((cs.drop o).take (n * te.size) ++ new) (old' ++ new') := hold.append hnew; have hlen2 : ((cs.drop o).take (n * te.size) ++ new).length = (n + m) * te.size := by rw [List.length_append, hold.length, hol, hnl, Nat.add_mul]
      split at h
      · rename_i hg00; cases h; have hcc := hx (hpg.trans hg00); subst hcc; obtain ⟨cap, hcap, hcr⟩ := run_core_new (P := P) (w := w) hE (a := some ⟨p.blk, o', none⟩) (n := n) (c := c') (old' := old'.toArray) hlen (by omega) hby hby2 hsmall holdr hrunk; obtain ⟨φ', q1, q2⟩ := out_newCells (cc := old'.toArray ++ new'.toArray ++ Builtin.zeroCells te.zero.cells (cap - (n + m))) hr (hf W.next (Nat.le_refl _) (by simp [AW.alloc])) e te.size
          (vs := (cs.drop o).take (n * te.size) ++ new) (by rw [take_arr2 _ _ _ _ hcells.length.symm]; exact hcells) (by rw [hlen2]; simp [hol, hnl', hzl, Nat.add_mul]) (hone'.append hone) (w.drawn + 1)
        refine OpSim.mk (φ' := φ') (nx := .value (.slice (some ⟨w.heap.size, 0, none⟩) (n + m) cap)) ?_ ?_ q2
        · simp only [Sem.run_bind, hcore, hcr, Result.andThen_ok, Sem.run_pure]
        · refine VR.newSlice q1 (Nat.le_refl _) (by omega) (fun h => absurd h hsz) (fun _ => ?_); simp only [Array.size_append, hzl, List.size_toArray, hol, hnl']; have : (cap - (n + m)) * te.size = cap * te.size - (n + m) * te.size := Nat.sub_mul _ _ _; have : (n + m) * te.size ≤ cap * te.size := Nat.mul_le_mul_right _ (by omega); have : (n + m) * te.size = n * te.size + m * te.size := Nat.add_mul _ _ _; omega
      · rename_i hg00; split at h
        case isFalse => cases h
        rename_i hog; obtain ⟨hown, hgs⟩ := hog; subst hown; cases h; have hkill := (Out.kill (W := W) hr b).rel; have hne : W.next ≠ b := fun h => by have := hf W.next (Nat.le_refl _) (by simp [AW.alloc, AW.set]); rw [h, hp] at this; cases this
        by_cases hcn : c' < n + m
        · obtain ⟨cap, hcap, hcr⟩ := run_core_new (P := P) (w := w) hE (a := some ⟨p.blk, o', none⟩) (n := n) (c := c') (old' := old'.toArray) hlen hcn hby hby2 hsmall holdr hrunk; obtain ⟨φ', q1, q2⟩ := out_newCells (cc := old'.toArray ++ new'.toArray ++ Builtin.zeroCells te.zero.cells (cap - (n + m))) (W := W.set b .gone) hkill (hf W.next (Nat.le_refl _) (by simp [AW.alloc, AW.set])) e te.size
            (vs := (cs.drop o).take (n * te.size) ++ new) (by rw [take_arr2 _ _ _ _ hcells.length.symm]; exact hcells) (by rw [hlen2]; simp [hol, hnl', hzl, Nat.add_mul]) (hone'.append hone) (w.drawn + 1)
          refine OpSim.mk (φ' := φ') (nx := .value (.slice (some ⟨w.heap.size, 0, none⟩) (n + m) cap)) ?_ ?_ (Out.kill_then b _ q2)
          · simp only [Sem.run_bind, hcore, hcr, Result.andThen_ok, Sem.run_pure]
          · refine VR.newSlice q1 (Nat.le_refl _) (by omega) (fun h => absurd h hsz) (fun _ => ?_); simp only [Array.size_append, hzl, List.size_toArray, hol, hnl']; have : (cap - (n + m)) * te.size = cap * te.size - (n + m) * te.size := Nat.sub_mul _ _ _; have : (n + m) * te.size ≤ cap * te.size := Nat.mul_le_mul_right _ (by omega); have : (n + m) * te.size = n * te.size + m * te.size := Nat.add_mul _ _ _; omega
        · obtain ⟨_, cc, ty, fr, h1', h2', ⟨h3', h4', h5'⟩, h6'⟩ := ha; obtain ⟨h6', h7'⟩ := h6'.1 rfl; have hgg := hg (by rw [hpg]; exact hg00); rw [hpg, hgs] at hgg; have hmul : (n + m) * te.size ≤ c' * te.size := Nat.mul_le_mul_right _ (by omega); have hadd2 : (n + m) * te.size = n * te.size + m * te.size := Nat.add_mul _ _ _; have hroom : o' + n * te.size + new'.length ≤ cc.size := by omega
          have hstore := run_storeCells (P := P) new' (hnew.oneC hone) w p.blk (o' + n * te.size) 0 cc ty fr h1' (by omega) h6'; simp only [Nat.add_zero] at hstore; have hlt := (Array.getElem?_eq_some_iff.1 h1').1; have hwin : ((arrPut cc (o' + n * te.size) new').toList.drop o').take ((cs.drop o).take (n * te.size) ++ new).length = old' ++ new' := by
            rw [arrPut_toList _ _ _ hroom, hlen2, hadd2, ← hnl', splice_window _ _ _ _ (by simpa using hroom)]; congr 1; apply List.ext_getElem?; intro i; by_cases hi : i < n * te.size
            · obtain ⟨v, hv⟩ : ∃ v, old'[i]? = some v := ⟨_, List.getElem?_eq_getElem (by omega)⟩
              have h7 := holdc i v hv; rw [hv, List.getElem?_take_of_lt hi, List.getElem?_drop, Array.getElem?_toList]
              simpa [World.cell?, h1'] using h7
            · rw [List.getElem?_eq_none (by simp; omega), List.getElem?_eq_none (by omega)]
          obtain ⟨φ', q1, q2⟩ := Out.fresh (W := W.set b .gone) (w' := wset w p.blk (.cells (arrPut cc (o' + n * te.size) new') ty fr)) hkill (hf W.next (Nat.le_refl _) (by simp [AW.alloc, AW.set]))
            (.cells true te.size ((cs.drop o).take (n * te.size) ++ new)) ⟨p.blk, o', te.size, p.csize⟩
            (fun q qp hq hqb => by
              simp only [ovl, AW.set, List.mem_singleton]; by_cases hqb' : q = b
              · subst hqb'; simp [Live]
              · rw [if_neg (by rintro (h | h) <;> first | omega | exact hqb' h)]; exact hr.inj b q p qp hp hq (fun h => hqb' h.symm) hqb.symm (by rw [hHb, hg0']; trivial))
            (fun C hC _ => wset_other hC) (.inr ⟨b, p, hp, rfl⟩) ⟨rfl, rfl, rfl, by simp [wset], fun k hk => wset_other (by show k ≠ p.blk; omega)⟩
            (fun φ' hle hφ' => ⟨rfl, _, ty, fr, wset_get hlt, by rw [arrPut_size]; exact h2', ⟨by rw [hlen2, arrPut_size]; show o' + _ ≤ _; omega, by rw [hwin]; exact hcells.mono hle, hone'.append hone⟩, fun _ => ⟨by rw [arrPut_size]; exact h6', h7'⟩, fun h => by cases h⟩)
          refine OpSim.mk (φ' := φ') (nx := .value (.slice (some ⟨p.blk, o', none⟩) (n + m) c')) ?_ ?_ (Out.kill_then b _ q2)
          · have hst : (storeCells (Addr.add ⟨p.blk, o', none⟩ (n * te.size)) new').run P w = .ok () (wset w p.blk (.cells (arrPut cc (o' + n * te.size) new') ty fr)) := by rw [add_off]; exact hstore
            have hc1 := run_core_in (P := P) (e := e) (a := ⟨p.blk, o', none⟩) (n := n) (c := c') (new' := new'.toArray) hlen (by omega) hrun hst; simp only [Sem.run_bind, hcore, hc1, Result.andThen_ok, Sem.run_pure]
          · have := VR.slice (φ := φ') W.next 0 (n + m) (n + m) o' c' ⟨p.blk, o', te.size, p.csize⟩ q1 (Nat.le_refl _) (by omega) (fun _ => rfl) (fun h => absurd h hsz) (fun _ => by simp; omega)
            exact this
end Go.Abs
namespace Go.Abs
open Go.RowKit (Below)
variable {P : Program} {φ : Phi} {base : Nat} {H : Nat → Blk} {W : AW} {w : World}
theorem noTup_ne {v : Value} (h : noTup v = true) : ∀ cs, v ≠ .tuple cs := by
  intro cs hv; subst hv; cases h
theorem sim_convert (hr : Rel φ base H w) {s d : TypeId} {x x' : Value} (hx : VR φ x x') {ts td : TI} (hs : tinfo P s = some ts) (hd : tinfo P d = some td) :
    (∀ k k' n, td.kind = .int k → x = .int k' n → OpSim P φ base H W w (do pure (.value (← convert s d x'))) (okV W (.int k (k.wrap n)))) ∧
    (∀ v, td.kind = .string → x = .string v → OpSim P φ base H W w (do pure (.value (← convert s d x'))) (okV W (.string v))) ∧
    (∀ el v sz z nb, td.kind = .slice el → x = .string v → tinfo P el = some ⟨sz, false, .int .u8, z, nb⟩ → φ W.next = none →
      OpSim P φ base H W w (do pure (.value (← convert s d x'))) ⟨.value (.slice (some ⟨W.next, 0, none⟩) v.size v.size), W.alloc (.cells true 1 (v.data.toList.map fun b => Value.int .u8 b.toNat)), [], []⟩) ∧
    (∀ el n c te, td.kind = .string → ts.kind = .slice el → x = .slice none n c → tinfo P el = some te → te.kind = .int .u8 → OpSim P φ base H W w (do pure (.value (← convert s d x'))) (okV W (.string .empty))) ∧
    (∀ el a n c te vs bs, td.kind = .string → ts.kind = .slice el → x = .slice (some a) n c → tinfo P el = some te → te.kind = .int .u8 → W.row a n = some vs → vs.mapM byteOf' = some bs → (∀ b p, φ b = some p → b = a.block → H b = W.get b) →
      OpSim P φ base H W w (do pure (.value (← convert s d x'))) ⟨.value (.string ⟨⟨bs⟩⟩), W, [a.block], []⟩) := by
  obtain ⟨ds, hds, _, hrs⟩ := (tinfo_facts hs).und; obtain ⟨dd, hdd, _, hrd⟩ := (tinfo_facts hd).und; refine ⟨fun k k' n hk hxx => ?_, fun v hk hxx => ?_, fun el v sz z nb hk hxx hel hf => ?_, fun el n c te hk hks hxx hel hte => ?_, fun el a n c te vs bs hk hks hxx hel hte hrow hbs hH => ?_⟩
  · subst hxx; rw [hk] at hdd; rw [kind_int hdd] at hrd; cases hx; exact OpSim.val hr (by simp [convert, hrs, hrd, Conv.intToInt]) (.int _ _)
  · subst hxx; rw [hk] at hdd; rw [kind_string hdd] at hrd; cases hx; exact OpSim.val hr (by simp [convert, hrs, hrd]) (.string _)
  · subst hxx; rw [hk] at hdd; rw [kind_slice hdd] at hrd; cases hx; obtain ⟨de, hde, _, hre⟩ := (tinfo_facts hel).und; rw [kind_int hde] at hre; have hq : (Question.appendCap v.size 0 el).forced = false := rfl; obtain ⟨cap, hcap, hcut⟩ : ∃ cap, v.size ≤ cap ∧ (Question.appendCap v.size 0 el).cut (w.tape w.drawn (.appendCap v.size 0 el)) = cap := ⟨_, by simp only [Question.cut]; omega, rfl⟩
    let elems : Array Value := v.data.map fun b => .int .u8 b.toNat; let cc := elems ++ Array.replicate (cap - v.size) (.int .u8 0); have hes : elems.size = v.size := Array.size_map; have hcs : cc.size = cap := by rw [Array.size_append, hes, Array.size_replicate]; omega
    let w' : World := { w with heap := w.heap.push (.cells cc el (cc.size, cc.size + 1)), drawn := w.drawn + 1 }
    obtain ⟨φ', q1, q2⟩ := Out.alloc (w' := w') hr hf (.cells true 1 (v.data.toList.map fun b => Value.int .u8 b.toNat)) ⟨w.heap.size, 0, 1, cap⟩ _ rfl rfl (below_push hr _ _)
      (fun φ' hle _ => ⟨rfl, cc, el, (cc.size, cc.size + 1), by simp [w'], hcs, ⟨by rw [hcs, List.length_map, Array.length_toList]; show 0 + v.size ≤ cap; omega, by
          have : (cc.toList.drop 0).take (v.data.toList.map fun b => Value.int .u8 b.toNat).length = v.data.toList.map fun b => Value.int .u8 b.toNat := by
            simp only [List.drop_zero, cc, Array.toList_append, elems, Array.toList_map]; rw [List.take_left]
          rw [this]; refine LR.of_get rfl fun i a b h1 h2 => ?_; rw [h1] at h2; cases h2; have := List.mem_of_getElem? h1; simp at this; obtain ⟨b, _, rfl⟩ := this; exact .int _ _, fun x hx => by
          simp at hx; obtain ⟨b, _, rfl⟩ := hx; rfl⟩, fun _ => ⟨fun o ho => by simp; omega, hr.size⟩, fun h => by cases h⟩)
    refine OpSim.mk (φ' := φ') (w' := w') (nx := .value (.slice (some ⟨w.heap.size, 0, none⟩) v.size cap)) ?_ (VR.newSlice q1 (Nat.le_refl _) hcap (fun h => by cases h) (fun _ => by omega)) q2; simp only [convert, Sem.run_bind, hrs, hrd, hre, Result.andThen_ok, Conv.stringToBytes, run_choose, hq, Bool.false_eq_true, if_false, hcut, newRow, run_newObj, Sem.run_pure]; simp only [markStringish, Sem.run_bind, run_shape, World.shape?, Array.getElem?_push_size, Result.andThen_ok, run_freeze]; congr 1; simp only [World.freeze, w', cc, elems]; rw [if_neg (by omega)]; congr 1; apply Array.ext_getElem?; intro i; rw [Array.getElem?_modify]; by_cases hi : w.heap.size = i
    · subst hi; simp
    · rw [if_neg hi, Array.getElem?_push, Array.getElem?_push]; rw [if_neg (Ne.symm hi), if_neg (Ne.symm hi)]
  · subst hxx; rw [hk] at hdd; rw [kind_string hdd] at hrd; rw [hks] at hds; rw [kind_slice hds] at hrs; cases hx; obtain ⟨de, hde, _, hre⟩ := (tinfo_facts hel).und; rw [hte] at hde; rw [kind_int hde] at hre; exact OpSim.val hr (by simp [convert, hrs, hrd, hre, Conv.bytesToString]) (.string _)
  · subst hxx; rw [hk] at hdd; rw [kind_string hdd] at hrd; rw [hks] at hds; rw [kind_slice hds] at hrs; obtain ⟨de, hde, _, hre⟩ := (tinfo_facts hel).und; rw [hte] at hde; rw [kind_int hde] at hre; cases hx with
    | slice b o _ _ o' c' p hp hn hc ho hx hg =>
      have hload : ∃ vs', LR φ vs vs' ∧ (loadCells ⟨p.blk, o', none⟩ n).run P w = .ok vs'.toArray w := by
        by_cases h0 : n = 0
        · subst h0; have : vs = [] := by
            unfold AW.row at hrow; split at hrow
            · split at hrow <;> cases hrow; rfl
            · cases hrow
          subst this; exact ⟨[], .nil, rfl⟩
        · have := ho (.inl h0); subst this; obtain ⟨vs', g1, _, _, g4, _⟩ := run_row (P := P) hr hp (hH b p hp rfl) hrow; exact ⟨vs', g1, g4⟩
      obtain ⟨vs', g1, g2⟩ := hload; refine OpSim.valrd hr (v' := .string ⟨⟨bs⟩⟩) ?_ (.string _); have hloop : ∀ (f : Value → ByteArray → Sem (ForInStep ByteArray)), (∀ n s, f (.int .u8 n) s = pure (.yield (s.push (UInt8.ofNat n.toNat)))) → ∀ (l l' : List Value) (bs : List UInt8) (s0 : ByteArray), LR φ l l' → l.mapM byteOf' = some bs →
          (forIn l' s0 f).run P w = .ok ⟨s0.data ++ bs.toArray⟩ w := by
        intro f hf; intro l
        induction l with
        | nil => intro l' bs s0 hl hb; cases hl; simp at hb; subst hb; simp
        | cons v l ih =>
          intro l' bs s0 hl hb; cases hl with
          | cons hv ht =>
            simp only [List.mapM_cons, Option.bind_eq_bind, Option.bind_eq_some_iff, Option.pure_def, Option.some.injEq] at hb; obtain ⟨y, hy, ys, hys, rfl⟩ := hb; cases hv <;> simp [byteOf'] at hy; rename_i k i; cases k <;> simp at hy; subst hy; simp only [List.forIn_cons, Sem.run_bind, hf, Sem.run_pure, Result.andThen_ok]; rw [ih _ ys _ ht hys]; simp [ByteArray.push]
      simp only [convert, Sem.run_bind, hrs, hrd, hre, Result.andThen_ok, Conv.bytesToString, g2]; rw [← Array.forIn_toList]; rw [hloop _ (fun _ _ => rfl) vs vs' bs .empty g1 hbs]; simp
end Go.Abs
namespace Go.Abs
open Go.RowKit (Below)
variable {P : Program} {φ : Phi} {base : Nat} {H : Nat → Blk} {W : AW} {w : World}
theorem wrap_small {n : Int} (h0 : 0 ≤ n) (h : n ≤ 35184372088832) : IntKind.i64.wrap n = n := by
  have e : (2 : Int) ^ 64 = 18446744073709551616 := by decide
  have e2 : (2 : Int) ^ 63 = 9223372036854775808 := by decide
  simp only [IntKind.wrap, IntKind.bits, IntKind.signed, e, Bool.true_and, e2, show 64 - 1 = 63 from rfl]; have : n % 18446744073709551616 = n := Int.emod_eq_of_lt h0 (by omega); rw [this]; rw [if_neg (by simp; omega)]
theorem sim_makeSlice (hr : Rel φ base H w) (hf : φ W.next = none) {t el : TypeId} {sz nb : Nat} {ag : Bool} {z : Value} {te : TI} (ht : tinfo P t = some ⟨sz, ag, .slice el, z, nb⟩) (hte : tinfo P el = some te) {n m : Int}
    (h0 : 0 ≤ n) (h1 : n ≤ m) (h2 : m * te.bytes ≤ 35184372088832) (h3 : m ≤ 35184372088832) :
    OpSim P φ base H W w (do pure (.value (← Instr.makeSlice t (.int .i64 n) (.int .i64 m)))) ⟨.value (.slice (some ⟨W.next, 0, none⟩) n.toNat m.toNat), W.alloc (.cells true 0 (repCells m.toNat (cellsOf te.zero))), [], []⟩ := by
  have hE := tinfo_facts hte; obtain ⟨i, hi1, _, _, hi2⟩ := hE.info; have hrows := zeroRows_toList te.zero te.size hE.len m.toNat; have hz : LR φ (cellsOf te.zero) te.zero.cells.toList := (VR.closed hE.closed).cells; let cc : Array Value := (Array.range (m.toNat * te.size)).map (te.zero.cells[· % te.zero.cells.size]!); have hl : (repCells m.toNat (cellsOf te.zero)).length = cc.size := by
    unfold repCells; rw [flatten_replicate_length, hE.len]; simp [cc]
  obtain ⟨φ', q1, q2⟩ := out_newCells (cc := cc) hr hf el 0 (vs := repCells m.toNat (cellsOf te.zero)) (by rw [hl, ← Array.length_toList, List.take_length]; show LR φ _ cc.toList; rw [hrows]; exact hz.flatten_replicate _) (Nat.le_of_eq hl) (OneC.flatten_replicate (closed_cells_one hE.closed) _) w.drawn; refine OpSim.mk (φ' := φ') (w' := { w with heap := w.heap.push (.cells cc el) }) (nx := .value (.slice (some ⟨w.heap.size, 0, none⟩) n.toNat m.toNat)) ?_ (VR.newSlice q1 (by omega) (Nat.le_refl _) (fun _ => rfl) (fun h => absurd rfl h)) q2; have wn := wrap_small h0 (by omega); have wm := wrap_small (n := m) (by omega) h3; have hb : ¬ ((te.bytes : Int) * m > 2 ^ 48) := by
    rw [Int.mul_comm]; have : (2 : Int) ^ 48 = 281474976710656 := by decide
    omega
  have hzero : m.toNat * te.size = 0 → cc = #[] := by intro h; simp [cc, h]
  simp only [Instr.makeSlice, Sem.run_bind, tinfo_slice ht, Result.andThen_ok, asInt, asIntOf, Sem.run_pure, hi2, hi1, wn, wm]; have g1 : ((decide (m < 0) || decide ((te.bytes : Int) * m > 2 ^ 48) || decide (n < 0) || decide (n > m)) = true) = False := by
    simp only [eq_iff_iff, iff_false, Bool.not_eq_true, Bool.or_eq_false_iff, decide_eq_false_iff_not]; exact ⟨⟨⟨by omega, hb⟩, by omega⟩, by omega⟩
  simp only [g1, if_false, run_askRoom, Result.andThen_ok, hE.size, Sem.run_bind]; by_cases h00 : m.toNat * te.size = 0
  · have : cc = #[] := hzero h00; have e0 : (Array.range 0).map (fun (_ : Nat) => (default : Value)) = #[] := by simp
    simp [h00, newRow, this, e0]
  · simp only [h00, if_false, Sem.run_bind, hE.zero, Result.andThen_ok, Sem.run_pure]; rfl
theorem sim_len (hr : Rel φ base H w) {t : TypeId} {x x' : Value} {ts : Array TypeId} {rt : TypeId} {r : Value × List Nat} (h0 : ts[0]? = some t) (hx : VR φ x x') (h : lenA P t x W = some r)
    (hH : ∀ b p, φ b = some p → b ∈ r.2 → H b = W.get b) : OpSim P φ base H W w (do pure (.value (← Builtin.len_ ts rt #[x']))) ⟨.value r.1, W, r.2, []⟩ := by
  unfold lenA at h; split at h
  case h_1 => cases h
  rename_i ti ht; obtain ⟨d, hd, _, hrun⟩ := (tinfo_facts ht).und; split at h
  · rename_i s hk; cases h; cases hx; rw [hk] at hd; obtain rfl := kind_string hd; exact OpSim.valrd hr (by simp [Builtin.len_, h0, hrun]; rfl) (.int _ _)
  · rename_i e a n c hk; cases h; rw [hk] at hd; obtain rfl := kind_slice hd; cases hx with
    | nilSlice => exact OpSim.valrd hr (by simp [Builtin.len_, h0, hrun]; rfl) (.int _ _)
    | slice => exact OpSim.valrd hr (by simp [Builtin.len_, h0, hrun]; rfl) (.int _ _)
  · rename_i n e hk; cases h; rw [hk] at hd; obtain rfl := kind_array hd; exact OpSim.valrd hr (by simp [Builtin.len_, h0, hrun]; rfl) (.int _ _)
  · rename_i hk; cases h; cases hx; rw [hk] at hd; obtain rfl := kind_map hd; exact OpSim.valrd hr (by simp [Builtin.len_, h0, hrun]; rfl) (.int _ _)
  · rename_i b hk; rw [hk] at hd; obtain rfl := kind_map hd; split at h
    case h_2 => cases h
    rename_i es c hg; cases h; cases hx with
    | map _ p hp =>
      have ha := hr.agree b p hp; rw [hH b p hp (by simp), hg] at ha; obtain ⟨es', h1, h2, _⟩ := ha; refine OpSim.valrd hr (v' := .int .i64 es'.size) (by simp [Builtin.len_, h0, hrun, run_getObj' h1]; rfl) ?_; have := h2.length; rw [this]; simp; exact .int _ _
  · cases h
theorem sim_fold (hr : Rel φ base H w) {f : Value → Value → Option Value} {g : Value → Value → Sem Value} (hfg : ∀ {x x' y y' v}, VR φ x x' → VR φ y y' → f x y = some v → ∃ v', (g x' y').run P w = .ok v' w ∧ VR φ v v') :
    ∀ {l l' : List Value} {x x' v : Value}, VR φ x x' → LR φ l l' → foldA f x l = some v → ∃ v', (l'.foldlM g x').run P w = .ok v' w ∧ VR φ v v'
  | [], _, x, x', v, hx, hl, h => by
    cases hl; simp [foldA] at h; subst h; exact ⟨x', rfl, hx⟩
  | y :: l, _, x, x', v, hx, hl, h => by
    cases hl with
    | cons hy ht =>
      unfold foldA at h; split at h
      case h_2 => cases h
      rename_i z hz; obtain ⟨z', h1, h2⟩ := hfg hx hy hz; obtain ⟨v', h3, h4⟩ := sim_fold hr hfg h2 ht h; exact ⟨v', by simp only [List.foldlM_cons, Sem.run_bind, h1, Result.andThen_ok, h3], h4⟩
theorem sim_max (hr : Rel φ base H w) {x v : Value} {l : List Value} {as : Array Value} {ts : Array TypeId} {rt : TypeId} (h : LR φ (x :: l) as.toList) (hv : foldA max2A x l = some v) :
    OpSim P φ base H W w (do pure (.value (← Builtin.max_ ts rt as))) (okV W v) := by
  generalize hl : as.toList = ll at h; cases h with
  | cons hx ht =>
    obtain ⟨v', h1, h2⟩ := sim_fold (P := P) (g := Builtin.max2) hr (fun {x x' y y' v} hx hy h => by
      cases hx <;> simp [max2A] at h; cases hy <;> simp at h; subst h; exact ⟨_, rfl, .int _ _⟩) hx ht hv
    refine OpSim.val hr (v' := v') ?_ h2; simp only [Builtin.max_, hl, Sem.run_bind, h1, Result.andThen_ok, Sem.run_pure]
theorem sim_min (hr : Rel φ base H w) {x v : Value} {l : List Value} {as : Array Value} {ts : Array TypeId} {rt : TypeId} (h : LR φ (x :: l) as.toList) (hv : foldA min2A x l = some v) :
    OpSim P φ base H W w (do pure (.value (← Builtin.min_ ts rt as))) (okV W v) := by
  generalize hl : as.toList = ll at h; cases h with
  | cons hx ht =>
    obtain ⟨v', h1, h2⟩ := sim_fold (P := P) (g := Builtin.min2) hr (fun {x x' y y' v} hx hy h => by
      cases hx <;> simp [min2A] at h; cases hy <;> simp at h; subst h; exact ⟨_, rfl, .int _ _⟩) hx ht hv
    refine OpSim.val hr (v' := v') ?_ h2; simp only [Builtin.min_, hl, Sem.run_bind, h1, Result.andThen_ok, Sem.run_pure]
theorem VR.fn_inv {f : FuncId} {x y : Array Value} {v' : Value} (h : VR φ (.func (.func f) x y) v') : ∃ x' y', v' = .func (.func f) x' y' ∧ LR φ x.toList x'.toList ∧ LR φ y.toList y'.toList := by
  cases h with
  | fn _ _ x' _ y' hx hy h1 h2 => exact ⟨x', y', rfl, LR.arr hx h1, LR.arr hy h2⟩
theorem run_callFunc {f : FuncId} {fn : Func} {body : Code} (hf : P.funcs[f]? = some fn) (hb : fn.body = some body) (hn : (fn.name == "runtime.NumGoroutine") = false) (args : Array Value) :
    (callFunc f args).run P w = .ok (.enter f args) w := by
  have hn' : ¬ fn.name = "runtime.NumGoroutine" := by simpa using hn
  simp [callFunc, hf, hb, hn']
theorem updAll_TR : ∀ {ps : List Nat} {as as' : List Value} {e : Env} {tmps : Array Value}, TR φ e tmps → LR φ as as' → ps.all (fun t => decide (t < tmps.size)) = true →
    TR φ (updAll e (ps.zip as)) ((ps.zip as').foldl (fun (tm : Array Value) (x : Nat × Value) => tm.setIfInBounds x.1 x.2) tmps) ∧
      ((ps.zip as').foldl (fun (tm : Array Value) (x : Nat × Value) => tm.setIfInBounds x.1 x.2) tmps).size = tmps.size
  | [], as, as', e, tmps, h, hl, _ => by simp [updAll]; exact h
  | p :: ps, _, _, e, tmps, h, .nil, _ => by simp [updAll]; exact h
  | p :: ps, _, _, e, tmps, h, .cons (v := v) (v' := v') hv ht, hp => by
    simp only [List.all_cons, Bool.and_eq_true, decide_eq_true_eq] at hp; obtain ⟨h1, h2⟩ := TR.put (a := { tmps := tmps, defers := [] }) (dst := some p) (sz := tmps.size) h rfl hv (by simp [putE, hp.1]; rfl); have e1 : (Act.put { tmps := tmps, defers := [] } (some p) v').tmps = tmps.setIfInBounds p v' := rfl; rw [e1] at h1 h2; obtain ⟨h3, h4⟩ := updAll_TR (tmps := tmps.setIfInBounds p v') h1 ht (by rw [h2]; exact hp.2); exact ⟨h3, h4.trans h2⟩
theorem sim_call (hr : Rel φ base H w) {f f' : Value} {args : List Value} {args' : Array Value} {r : OpR} (hf : VR φ f f') (ha : LR φ args args'.toList) (h : callA f args W = some r)
    (hH : ∀ b p, φ b = some p → b ∈ r.rd ∨ b ∈ r.wr → H b = W.get b)
    (hcall : ∀ g as, r.x = .enter g as → ∃ fn body, P.funcs[g]? = some fn ∧ fn.body = some body ∧ (fn.name == "runtime.NumGoroutine") = false) :
    OpSim P φ base H W w (do let d ← Deferred.ofValue f' args'; invoke d.target d.args) r := by
  unfold callA at h; split at h
  · rename_i g first cap
    cases h; obtain ⟨x', y', rfl, h1, h2⟩ := hf.fn_inv; obtain ⟨fn, body, g1, g2, g3⟩ := hcall g _ rfl; refine OpSim.mk (φ' := φ) (w' := w) (nx := .enter g (x' ++ args' ++ y')) ?_ ⟨rfl, by simpa using (h1.append (ha.append h2))⟩ (Out.same hr); simp only [Deferred.ofValue, Sem.run_bind, Sem.run_pure, Result.andThen_ok, invoke, run_callFunc g1 g2 g3]
  · rename_i l first cap
    split at h
    case h_2 => cases h
    rename_i st pend sz env ps asg body hg; split at h
    case isFalse => cases h
    rename_i hc; cases h; cases hf with
    | yield _ p hp =>
      have hag := hr.agree l p hp; rw [hH l p hp (by simp), hg] at hag; obtain ⟨rr, q1, q2, q3, q4, q5, q6, q7, q8, _⟩ := hag; have hlen := ha.length; have hps : args'.size = rr.params.size := by
        have := hc.1; rw [← q6] at this; simp at this hlen; omega
      obtain ⟨u1, u2⟩ := updAll_TR (ps := ps) q5 ha (by rw [q4]; exact hc.2); have hfold : ((rr.params.zip args').foldl (fun (tm : Array Value) (x : Tmp × Value) => tm.setIfInBounds x.1 x.2) rr.tmps) = (ps.zip args'.toList).foldl (fun (tm : Array Value) (x : Nat × Value) => tm.setIfInBounds x.1 x.2) rr.tmps := by
        rw [← Array.foldl_toList, Array.toList_zip, q6]
      refine OpSim.mk (φ' := φ) (w' := w) (nx := .round p.blk rr.fn ((rr.params.zip args').foldl (fun (tm : Array Value) (x : Tmp × Value) => tm.setIfInBounds x.1 x.2) rr.tmps) rr.assign rr.body) ?_ ?_ (Out.same hr)
      · simp only [Deferred.ofValue, Sem.run_bind, Sem.run_pure, Result.andThen_ok, invoke, Instr.yield, Instr.getLoop, run_getObj' q1 (by simp)]; rw [show (#[] : Array Value) ++ args' = args' by simp]; rw [if_neg (by omega)]; rfl
      · refine ⟨p, st, pend, sz, env, ps, hp, rfl, ?_, ?_, ?_⟩
        · rw [hg, q7, q8]
        · rw [hfold]; simpa using u1
        · rw [hfold, u2]; exact q4
  · cases h
end Go.Abs
