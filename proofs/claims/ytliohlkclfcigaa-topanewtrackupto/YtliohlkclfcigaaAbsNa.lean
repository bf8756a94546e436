/- A part of the proof that TopAnewTrack returns true at every input of bulk at most 1048576: what came in by its shapes, and the row. -/
import Derived.Test.YtliohlkclfcigaaAbsJ
import Derived.Test.YtliohlkclfcigaaAbsM
set_option linter.unusedVariables false
set_option linter.unusedSimpArgs false
namespace Go.Abs
variable {P : Program} {G : Nat → Blk}
inductive Sh where
  | sc (τ : VT)
  | sl (e : List Sh)
mutual
def ShOk (G : Nat → Blk) : Sh → Value → Prop
  | .sc τ, v => VOk noS τ v
  | .sl e, v => ∃ (a : Option Addr) (n c : Nat) (el : Nat → List Value), v = .slice a n c ∧ n ≤ c ∧ c ≤ 1048576 ∧ (∀ i, i < c → ShRows G e (el i)) ∧ ((a = none ∧ c = 0) ∨ ∃ b l, a = some ⟨b, 0, none⟩ ∧ G b = .cells false 0 l ∧ l.length = c * e.length ∧ ∀ i, i < c → (l.drop (i * e.length)).take e.length = el i)
def ShRows (G : Nat → Blk) : List Sh → List Value → Prop
  | [], l => l = []
  | s :: r, l => ∃ v l', l = v :: l' ∧ ShOk G s v ∧ ShRows G r l'
end
theorem ShRows.append : ∀ {a b : List Sh} {l m : List Value}, ShRows G a l → ShRows G b m → ShRows G (a ++ b) (l ++ m)
  | [], _, _, _, h, k => by
    simp only [ShRows] at h; subst h; exact k
  | s :: r, _, _, _, h, k => by
    simp only [ShRows] at h; obtain ⟨v, l', rfl, h1, h2⟩ := h; simp only [List.cons_append, ShRows]; exact ⟨v, _, rfl, h1, h2.append k⟩
theorem ShRows.vrows : ∀ {τs : List VT} {l : List Value}, ShRows G (τs.map .sc) l → VRows noS τs l
  | [], _, h => by simp only [List.map_nil, ShRows] at h; subst h; trivial
  | τ :: r, _, h => by
    simp only [List.map_cons, ShRows] at h; obtain ⟨v, l', rfl, h1, h2⟩ := h; simp only [ShOk] at h1; exact ⟨h1, h2.vrows⟩
def shapes (P : Program) : Nat → TypeId → Option (List Sh)
  | 0, _ => none
  | n + 1, t => match P.underlying t with
    | some .bool => some [.sc .bool]
    | some (.int k) => some [.sc (.int k k.min k.max)]
    | some .string => some [.sc .str]
    | some (.slice e) => (shapes P n e).map fun r => [.sl r]
    | some (.struct fs) => (fs.toList.mapM fun f => shapes P n f.type).map List.flatten
    | some (.array m e) => (shapes P n e).map fun r => (List.replicate m r).flatten
    | _ => none
theorem mapM_imp {α β : Type} {g g' : α → Option β} : ∀ {L : List α} {xs : List β}, (∀ a ∈ L, ∀ r, g a = some r → g' a = some r) → L.mapM g = some xs → L.mapM g' = some xs
  | [], _, _, h => by simpa using h
  | a :: L, _, hi, h => by
    simp only [List.mapM_cons, Option.bind_eq_bind, Option.bind_eq_some_iff, Option.pure_def, Option.some.injEq] at h ⊢; obtain ⟨y, h1, ys, h2, h3⟩ := h; exact ⟨y, hi a (by simp) y h1, ys, mapM_imp (fun b hb => hi b (by simp [hb])) h2, h3⟩
theorem shapes_mono : ∀ (n m : Nat) (t : TypeId) (r : List Sh), n ≤ m → shapes P n t = some r → shapes P m t = some r := by
  intro n
  induction n with
  | zero => intro m t r _ h; cases h
  | succ n ih =>
    intro m t r hm h; obtain ⟨m, rfl⟩ : ∃ k, m = k + 1 := ⟨m - 1, by omega⟩
    simp only [shapes] at h ⊢; split at h
    · exact h
    · exact h
    · exact h
    · simp only [Option.map_eq_some_iff] at h ⊢; obtain ⟨x, h1, h2⟩ := h; exact ⟨x, ih m _ x (by omega) h1, h2⟩
    · simp only [Option.map_eq_some_iff] at h ⊢; obtain ⟨x, h1, h2⟩ := h; exact ⟨x, mapM_imp (fun f _ y hy => ih m _ y (by omega) hy) h1, h2⟩
    · simp only [Option.map_eq_some_iff] at h ⊢; obtain ⟨x, h1, h2⟩ := h; exact ⟨x, ih m _ x (by omega) h1, h2⟩
    · cases h
theorem plainT_mono : ∀ (n m : Nat) (t : TypeId), n ≤ m → plainT P n t = true → plainT P m t = true := by
  intro n
  induction n with
  | zero => intro m t _ h; cases h
  | succ n ih =>
    intro m t hm h; obtain ⟨m, rfl⟩ : ∃ k, m = k + 1 := ⟨m - 1, by omega⟩
    simp only [plainT] at h ⊢; split at h
    · exact h
    · exact h
    · exact h
    · simp only [Bool.and_eq_true] at h ⊢; exact ⟨h.1, ih m _ (by omega) h.2⟩
    · simp only [Bool.and_eq_true, List.all_eq_true] at h ⊢; exact ⟨h.1, fun f hf => ih m _ (by omega) (h.2 f hf)⟩
    · simp only [Bool.and_eq_true] at h ⊢; exact ⟨h.1, ih m _ (by omega) h.2⟩
    · cases h
theorem mapM_len {α β : Type} {g : α → Option β} : ∀ {L : List α} {xs : List β}, L.mapM g = some xs → xs.length = L.length ∧ ∀ (i : Nat) (a : α) (x : β), L[i]? = some a → xs[i]? = some x → g a = some x
  | [], _, h => by simp at h; subst h; simp
  | a :: L, _, h => by
    simp only [List.mapM_cons, Option.bind_eq_bind, Option.bind_eq_some_iff, Option.pure_def, Option.some.injEq] at h; obtain ⟨y, h1, ys, h2, rfl⟩ := h; obtain ⟨q1, q2⟩ := mapM_len h2; refine ⟨by simp [q1], fun i b x hb hx => ?_⟩; cases i with
    | zero => simp at hb hx; subst hb; subst hx; exact h1
    | succ i => exact q2 i b x (by simpa using hb) (by simpa using hx)
theorem shapes_len : ∀ (n : Nat) (t : TypeId) (r : List Sh), plainT P n t = true → shapes P n t = some r → r.length = P.cellsOf t := by
  intro n
  induction n with
  | zero => intro t r h; cases h
  | succ n ih =>
    intro t r hp h; simp only [plainT] at hp; simp only [shapes] at h; split at h
    · rename_i hu; rw [hu] at hp; simp only [beq_iff_eq] at hp; cases h; simp [hp]
    · rename_i hu; rw [hu] at hp; simp only [beq_iff_eq] at hp; cases h; simp [hp]
    · rename_i hu; rw [hu] at hp; simp only [beq_iff_eq] at hp; cases h; simp [hp]
    · rename_i hu; rw [hu] at hp; simp only [Bool.and_eq_true, beq_iff_eq] at hp; simp only [Option.map_eq_some_iff] at h; obtain ⟨x, _, rfl⟩ := h; simp [hp.1.1]
    · rename_i fs hu; rw [hu] at hp; simp only [Bool.and_eq_true, beq_iff_eq, List.all_eq_true] at hp; simp only [Option.map_eq_some_iff] at h; obtain ⟨xs, h1, rfl⟩ := h; obtain ⟨q1, q2⟩ := mapM_len h1; have := (tiles_pre fs.toList 0 _ xs hp.1 q1 fun i f a hf ha => ih _ _ (hp.2 f (List.mem_of_getElem? hf)) (q2 i f a hf ha)).1; omega
    · rename_i m e hu; rw [hu] at hp; simp only [Bool.and_eq_true, beq_iff_eq] at hp; simp only [Option.map_eq_some_iff] at h; obtain ⟨x, h1, rfl⟩ := h; rw [flatten_length_const (s := P.cellsOf e) _ (fun a ha => by rw [(List.mem_replicate.1 ha).2]; exact ih _ _ hp.2 h1), List.length_replicate]; exact hp.1
    · cases h
theorem ShRows_fields {n : Nat} {part : Field → List Value} : ∀ {L : List Field} {xs : List (List Sh)}, L.mapM (fun f => shapes P n f.type) = some xs → (∀ f ∈ L, ∀ r, shapes P n f.type = some r → ShRows G r (part f)) → ShRows G xs.flatten (L.map part).flatten
  | [], _, h, _ => by simp at h; subst h; simp [ShRows]
  | f :: L, _, h, k => by
    simp only [List.mapM_cons, Option.bind_eq_bind, Option.bind_eq_some_iff, Option.pure_def, Option.some.injEq] at h; obtain ⟨y, h1, ys, h2, rfl⟩ := h; simp only [List.flatten_cons, List.map_cons]; exact (k f (by simp) y h1).append (ShRows_fields h2 fun g hg => k g (by simp [hg]))
theorem ShRows_rep {r : List Sh} {rows : Nat → List Value} : ∀ {m : Nat}, (∀ i, i < m → ShRows G r (rows i)) → ShRows G (List.replicate m r).flatten ((List.range m).map rows).flatten
  | 0, _ => by simp [ShRows]
  | m + 1, h => by
    rw [List.replicate_succ', List.range_succ, List.map_append, List.flatten_append, List.flatten_append]; exact (ShRows_rep fun i hi => h i (by omega)).append (by simpa using h m (by omega))
theorem WT_shapes : ∀ (n : Nat) (t : TypeId) (cs : List Value) (r : List Sh), plainT P n t = true → shapes P n t = some r → WT P G n t cs → ShRows G r cs := by
  intro n
  induction n with
  | zero => intro t cs r h; cases h
  | succ n ih =>
    intro t cs r hp h hw; simp only [plainT] at hp; simp only [shapes] at h; simp only [WT] at hw; split at h
    · rename_i hu; rw [hu] at hw; obtain ⟨b, rfl⟩ := hw; cases h; exact ⟨_, _, rfl, ⟨b, rfl⟩, rfl⟩
    · rename_i k hu; rw [hu] at hw; obtain ⟨i, rfl, hw⟩ := hw; cases h; simp only [Lit.wf, Bool.and_eq_true, decide_eq_true_eq] at hw; exact ⟨_, _, rfl, ⟨i, rfl, hw.1, hw.2⟩, rfl⟩
    · rename_i hu; rw [hu] at hw; obtain ⟨s, rfl, hw⟩ := hw; cases h; exact ⟨_, _, rfl, ⟨s, rfl, by omega⟩, rfl⟩
    · rename_i e hu; rw [hu] at hp hw; simp only [Bool.and_eq_true, beq_iff_eq, decide_eq_true_eq] at hp; simp only [Option.map_eq_some_iff] at h; obtain ⟨x, h1, rfl⟩ := h; have hl := shapes_len n e x hp.2 h1; rcases hw with rfl | ⟨b, len, cap, l, rfl, q1, q2, q3, q4, q5⟩
      · exact ⟨_, _, rfl, ⟨none, 0, 0, fun _ => [], rfl, Nat.le_refl _, by omega, fun i hi => by omega, .inl ⟨rfl, rfl⟩⟩, rfl⟩
      · exact ⟨_, _, rfl, ⟨_, _, _, fun i => (l.drop (i * x.length)).take x.length, rfl, q1, q2, fun i hi => ih e _ x hp.2 h1 (by rw [hl]; exact q5 i hi), .inr ⟨b, l, rfl, q3, by rw [hl]; exact q4, fun i hi => rfl⟩⟩, rfl⟩
    · rename_i fs hu; rw [hu] at hp hw; simp only [Bool.and_eq_true, beq_iff_eq, List.all_eq_true] at hp; simp only [Option.map_eq_some_iff] at h; obtain ⟨xs, h1, rfl⟩ := h; have hfl := (tiles_flat fs.toList 0 _ cs hp.1 hw.1).1; rw [List.drop_zero] at hfl; rw [← hfl]; exact ShRows_fields h1 fun f hf y hy => ih _ _ _ (hp.2 f hf) hy (hw.2 f hf)
    · rename_i m e hu; rw [hu] at hp hw; simp only [Bool.and_eq_true, beq_iff_eq] at hp; simp only [Option.map_eq_some_iff] at h; obtain ⟨x, h1, rfl⟩ := h; have := flatten_rows (s := P.cellsOf e) cs m (by have := hw.1; have := hp.1; omega); rw [List.take_of_length_le (by have := hw.1; have := hp.1; omega)] at this; rw [← this]; exact ShRows_rep fun i hi => ih _ _ _ hp.2 h1 (hw.2 i hi)
    · cases h
def SlIn (K : Nat) (G : Nat → Blk) (s : Nat) (el : Nat → List Value) (a : Option Addr) (n c : Nat) : Prop :=
  n ≤ c ∧ c ≤ 1048576 ∧ ((a = none ∧ c = 0) ∨ ∃ b l, a = some ⟨b, 0, none⟩ ∧ b < K ∧ G b = .cells false 0 l ∧ l.length = c * s ∧ ∀ i, i < c → (l.drop (i * s)).take s = el i)
theorem ShOk.sl_inv {K : Nat} (hG0 : ∀ b, K ≤ b → G b = .none) {e : List Sh} {v : Value} (h : ShOk G (.sl e) v) : ∃ a n c el, v = .slice a n c ∧ SlIn K G e.length el a n c ∧ ∀ i, i < c → ShRows G e (el i) := by
  simp only [ShOk] at h; obtain ⟨a, n, c, el, rfl, h1, h2, h3, h4⟩ := h; refine ⟨a, n, c, el, rfl, ⟨h1, h2, ?_⟩, h3⟩; rcases h4 with h4 | ⟨b, l, q1, q2, q3⟩
  · exact .inl h4
  · exact .inr ⟨b, l, q1, Nat.not_le.1 fun hb => (by rw [hG0 b hb] at q2; cases q2), q2, q3⟩
theorem SlIn.ro {K s n c : Nat} {el : Nat → List Value} {a : Option Addr} (h : SlIn K G s el a n c) : RoSl (roS K G) s el a n := by
  obtain ⟨h1, h2, ⟨rfl, rfl⟩ | ⟨b, l, rfl, q0, q1, _, q3⟩⟩ := h
  · exact .inl ⟨rfl, by omega⟩
  · exact .inr ⟨b, 0, l, rfl, roS_get q0 q1, by omega, fun i hi => by rw [Nat.zero_add]; exact q3 i (by omega)⟩
theorem SlIn.xs {K s n c : Nat} {el : Nat → List Value} {a : Option Addr} (hi : SlIn K G s el a n c) : ∀ (W : AW) (h : Nat), K ≤ W.next → (∀ b, b < K → W.get b = G b) → (∀ b, HB W h b → K ≤ b) → XS W h s el a n := by
  intro W h hK hG hB; obtain ⟨h1, h2, ⟨rfl, rfl⟩ | ⟨b, l, rfl, q0, q1, q2, q3⟩⟩ := hi
  · exact .inl ⟨rfl, by omega⟩
  · refine .inr ⟨b, 0, false, 0, l, rfl, ⟨by rw [hG b q0]; exact q1, by omega, fun hb => by have := hB b hb; omega⟩, by omega, fun i hi => ⟨?_, by rw [Nat.zero_add]; exact q3 i (by omega)⟩⟩; have h3 : (i + 1) * s ≤ c * s := Nat.mul_le_mul_right _ (by omega); rw [Nat.succ_mul] at h3; omega
theorem SlIn.le {K s n c : Nat} {el : Nat → List Value} {a : Option Addr} (h : SlIn K G s el a n c) : n ≤ 1048576 := by
  have := h.1; have := h.2.1; omega
theorem Laid.ro {w : World} {base K : Nat} {φ : Phi} (h : Laid w base K G φ) : ∀ b, b < K → ∃ l, G b = .cells false 0 l ∧ ∀ v ∈ l, Low K v := fun b hb =>
  let ⟨l, _, h1, _, _, _, _, h2, _⟩ := h.blk b hb
  ⟨l, h1, h2⟩
def scalT (P : Program) : Nat → TypeId → Bool
  | 0, _ => false
  | n + 1, t => match P.underlying t with
    | some .bool | some (.int _) | some .string => true
    | some (.struct fs) => fs.toList.all fun f => scalT P n f.type
    | some (.array _ e) => scalT P n e
    | _ => false
def flatT (P : Program) : Nat → TypeId → Bool
  | 0, _ => false
  | n + 1, t => match P.underlying t with
    | some .bool | some (.int _) | some .string => true
    | some (.slice e) => scalT P n e
    | some (.struct fs) => fs.toList.all fun f => flatT P n f.type
    | some (.array _ e) => flatT P n e
    | _ => false
theorem scalT_mono : ∀ (n m : Nat) (t : TypeId), n ≤ m → scalT P n t = true → scalT P m t = true := by
  intro n
  induction n with
  | zero => intro m t _ h; cases h
  | succ n ih =>
    intro m t hm h; obtain ⟨m, rfl⟩ : ∃ k, m = k + 1 := ⟨m - 1, by omega⟩
    simp only [scalT] at h ⊢; split at h
    · rfl
    · rfl
    · rfl
    · simp only [List.all_eq_true] at h ⊢; exact fun f hf => ih m _ (by omega) (h f hf)
    · exact ih m _ (by omega) h
    · cases h
theorem flatT_mono : ∀ (n m : Nat) (t : TypeId), n ≤ m → flatT P n t = true → flatT P m t = true := by
  intro n
  induction n with
  | zero => intro m t _ h; cases h
  | succ n ih =>
    intro m t hm h; obtain ⟨m, rfl⟩ : ∃ k, m = k + 1 := ⟨m - 1, by omega⟩
    simp only [flatT] at h ⊢; split at h
    · rfl
    · rfl
    · rfl
    · exact scalT_mono n m _ (by omega) h
    · simp only [List.all_eq_true] at h ⊢; exact fun f hf => ih m _ (by omega) (h f hf)
    · exact ih m _ (by omega) h
    · cases h
theorem ZK_scal {w : World} : ∀ (n : Nat) (t : TypeId) (cs : List Value), scalT P n t = true → ZK P w n t cs := by
  intro n
  induction n with
  | zero => intro t cs h; cases h
  | succ n ih =>
    intro t cs h; simp only [scalT] at h; simp only [ZK]; split at h
    · rename_i hu; rw [hu]; trivial
    · rename_i hu; rw [hu]; trivial
    · rename_i hu; rw [hu]; trivial
    · rename_i hu; rw [hu]; simp only [List.all_eq_true] at h; exact fun f hf => ih _ _ (h f hf)
    · rename_i hu; rw [hu]; exact fun i _ => ih _ _ h
    · cases h
def There (w : World) (a : Addr) : Prop := a.spot = none ∧ ∃ cc ty fr, w.heap[a.block]? = some (.cells cc ty fr)
theorem ZK_flat {w : World} : ∀ (n : Nat) (t : TypeId) (cs : List Value), flatT P n t = true → (∀ a len cap, Value.slice (some a) len cap ∈ cs → There w a) → ZK P w n t cs := by
  intro n
  induction n with
  | zero => intro t cs h; cases h
  | succ n ih =>
    intro t cs h ht; simp only [flatT] at h; simp only [ZK]; split at h
    · rename_i hu; rw [hu]; trivial
    · rename_i hu; rw [hu]; trivial
    · rename_i hu; rw [hu]; trivial
    · rename_i e hu; rw [hu]; rintro a len cap rfl; exact ⟨fun _ => ht a len cap (by simp), fun i cs' _ _ => ZK_scal n e cs' h⟩
    · rename_i hu; rw [hu]; simp only [List.all_eq_true] at h; exact fun f hf => ih _ _ (h f hf) fun a len cap hm => ht a len cap (List.mem_of_mem_drop (List.mem_of_mem_take hm))
    · rename_i hu; rw [hu]; exact fun i _ => ih _ _ h fun a len cap hm => ht a len cap (List.mem_of_mem_drop (List.mem_of_mem_take hm))
    · cases h
theorem okWide_there {w : World} {r : Reach} {base : Nat} {t : TypeId} {a : Addr} {len cap : Nat} (h : Cell.okWide P w r base t (.slice (some a) len cap)) : There w a := by
  have key : ∀ e, w.has P r base a e cap → There w a := by
    rintro e ⟨_, hs, row, cells, hb, _⟩; refine ⟨hs, ?_⟩; unfold World.shape? at hb; split at hb
    · rename_i c el fr hh; exact ⟨c, el, fr, hh⟩
    · cases hb
  unfold Cell.okWide at h; split at h <;> first | (rename_i h1 h2; cases h2) | skip
  unfold Cell.ok at h; split at h <;> first | (rename_i h1 h2; cases h2; done) | skip
  all_goals first | (rename_i h1 h2; cases h2; exact key _ h.2.2) | (exact h.elim)
theorem came_in {H : Type} {enc : TypeId × Value → H} {sm : DataW H → Prop} {W : World} {base : Nat} {t : TypeId} {v : Value} {d : DataW H} {ps : List MemPlace} {m : Nat} {r : List Sh} {fs : Array Field}
    (ht : P.underlying t = some (.struct fs)) (hp : plainT P m t = true) (hf : flatT P m t = true) (hr : shapes P m t = some r) (hm : Modest sm) (hval : Value.okWide P W .any base t v) (h : DataW.Trod enc P W 0 (fun _ => true) true t v d ps) (hs : sm d) :
    ∃ cs K G φ acs, v = .agg cs ∧ Laid W W.heap.size K G φ ∧ LR φ acs cs.toList ∧ OneC acs ∧ (∀ v ∈ acs, Low K v) ∧ ShRows G r acs := by
  obtain ⟨n, hn⟩ := h; simp only [Value.okWide, ht] at hval; obtain ⟨cs, rfl, _, ts, _, _, hcells⟩ := hval; have hn' := DataW.trod_le (Nat.le_add_right n m) hn; have hp' := plainT_mono m (n + m) t (Nat.le_add_left m n) hp; obtain ⟨K, G, φ, acs, st, hst⟩ := lay hm rfl (n + m) t _ ⟨hp', ZK_flat (n + m) t _ (flatT_mono m _ t (Nat.le_add_left m n) hf) (fun a len cap hmem => by
    obtain ⟨i, hi⟩ := List.mem_iff_getElem?.1 hmem; obtain ⟨u, _, hu⟩ := hcells i _ (by simpa [Value.cells] using hi); exact okWide_there hu), _, hn', hs⟩ 0 _ _ Laid.empty
  exact ⟨cs, K, G, φ, acs, rfl, st.laid, hst.lr, hst.one, hst.low, WT_shapes (n + m) t acs r hp' (shapes_mono m _ t r (Nat.le_add_left m n) hr) hst.wt⟩
end Go.Abs
