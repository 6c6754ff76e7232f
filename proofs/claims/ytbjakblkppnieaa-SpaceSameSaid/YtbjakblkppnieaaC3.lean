/- Contracts: objects, further. -/
import Derived.Test.YtbjakblkppnieaaC2
set_option linter.unusedVariables false
set_option linter.unusedSimpArgs false
namespace Go.Proofs.Ytbjakblkppnieaa
open Go Vc

/-- Short enough for append. -/
abbrev short (n : Nat) : Prop := n ≤ 1048576
theorem clone_Version_spec (sl : Value) (l : List Ver) (w : World) (hl : Rd w 46 4 sl (vrows l)) (hs : short l.length) :
    Sp P 65 [sl] w fun v w' => Ow w' w.heap.size 46 4 v (vrows l) ∧ Gr w w' := by
  obtain ⟨A, c, rfl⟩ := hl.form
  refine vc_slices_Clone_object_Version_object_Version (post fun R hR => ?_)
  unfold VC_slices_Clone_object_Version_object_Version
  rcases A with _ | A
  · have hn : vrows l = [] := by
      rcases Classical.em (vrows l = []) with h | h
      · exact h
      · obtain ⟨_, A, c, hv, _, h3⟩ := hl
        obtain ⟨b, o, hA, _⟩ := h3 h
        injection hv with hv
        rw [hA] at hv
        cases hv
    simp only [go_sem, hn]
    exact hR _ _ ⟨by rw [hn]; exact Ow.nil _ _ _ _, Fr.refl _ _⟩
  · simp only [go_sem]
    refine append_rd (base := w.heap.size) Try.underlying72 inf46 rfl (by omega) (Ow.lit w 46 4 [] [] (by simp) rfl (by simp)) (hl.alloc _) (vrows_one l) (by simp [vrows_len]; unfold short at hs; omega) (by simp [vrows_len]; unfold short at hs; omega) (by simp) ?_
    intro v' w' ho hf _
    refine hR _ _ ⟨by simpa using ho, ?_⟩
    exact ((Fr.refl _ _).alloc _).trans hf (by simp [bl])

theorem getLastD_eq {α : Type} (l : List α) (d : α) (h : l.length ≠ 0) : l.getLastD d = l[l.length - 1]'(by omega) := by
  rw [List.getLastD_eq_getLast?, List.getLast?_eq_getElem?, List.getElem?_eq_getElem (by omega)]
  rfl
theorem object_Last_spec (sl : Value) (l : List Ver) (w : World) (hl : Rd w 46 4 sl (vrows l)) (hr : RightO l) : Sp P 32 [.agg #[sl]] w fun v w' => v = (lastV l).v ∧ Gr w w' := by
  obtain ⟨A, c, rfl⟩ := hl.form
  rw [vrows_len] at hl ⊢
  have hmax : l.length ≤ 9223372036854775807 := by have := hl.2.choose_spec.choose_spec.2.1; rwa [vrows_len] at this
  refine vc_object_Object_Last (post fun R hR => ?_)
  unfold VC_object_Object_Last
  simp only [go_sem]
  by_cases h0 : l.length = 0
  · have hl0 : l = [] := List.eq_nil_of_length_eq_zero h0
    subst hl0
    simp only [go_sem, List.length_nil]
    exact hR _ _ ⟨rfl, ((Fr.refl _ _).alloc _).alloc _⟩
  · have d0 : decide ((l.length : Int) = 0) = false := decide_eq_false (by omega)
    simp only [go_sem, d0]
    have hl2 := (hl.alloc (.cells #[.slice A l.length c] 74)).alloc (.cells Ver.zero.cs.toArray 46)
    refine (object_Right_spec _ l _ hl2 hr).mono ?_
    rintro v w2 ⟨rfl, hg⟩
    have c1 := cell_gr (w' := w2) (b := w.heap.size) (o := 0) (v := .slice A l.length c) (by simp only [go_sem]) hg
    have hw : IntKind.i64.wrap ((l.length : Int) - 1) = ((l.length - 1 : Nat) : Int) := by rw [wrap_i64 _ (by omega) (by omega)]; omega
    simp only [go_sem, c1, hw]
    refine vrd_index (hl2.gr hg) Try.underlying72 sz46 (l.length - 1) (by omega) ?_
    intro b o hb e0 e1 e2 e3
    have B2 : w2.heap[w.heap.size + 1]? = some (.cells Ver.zero.cs.toArray 46) := heap_gr (heap_new_at (by simp only [go_sem])) hg
    simp only [go_sem, e0, e1, e2, e3]
    refine store_box B2 rfl rfl ?_
    simp only [go_sem, cell_of (putB_heap _ (lt_of_heap B2))]
    refine hR _ _ ⟨by rw [lastV, getLastD_eq l _ h0]; rfl, ((((Fr.refl _ _).alloc _).alloc _).gr hg).putB (.inl (by omega)) _⟩

theorem upto_1_spec (A : Option Addr) (c : Nat) (l : List Ver) (n : Int) (b1 b2 : Nat) (w : World) (hl : Rd w 46 4 (.slice A l.length c) (vrows l)) (h1 : w.cell? ⟨b1, 0, none⟩ = some (.slice A l.length c)) (h2 : w.cell? ⟨b2, 0, none⟩ = some (.int .i64 n)) (i : Nat) (hi : i < l.length) :
    Sp P 83 [.int .i64 i, ptr b1 0, ptr b2 0] w fun v w' => v = .bool (decide (n < l[i].at_)) ∧ Gr w w' := by
  refine vc_object_Object_upto_1 (post fun R hR => ?_)
  unfold VC_object_Object_upto_1
  simp only [go_sem, h1]
  refine vrd_index hl Try.underlying72 sz46 i hi ?_
  intro b o hb e0 e1 e2 e3
  simp only [go_sem, e0, h2]
  exact hR _ _ ⟨rfl, (Fr.refl _ _).drew⟩

theorem search_spec (n : Nat) (hn : n ≤ 4611686018427387904) (f : FuncId) (cap : Array Value) (p : Nat → Bool) (w : World)
    (hf : ∀ i w1, i < n → Gr w w1 → Sp P f ([.int .i64 i] ++ cap.toList) w1 fun v w2 => v = .bool (p i) ∧ Gr w1 w2) :
    Sp P 82 [.int .i64 n, .func (.func f) #[] cap] w fun v w' => Gr w w' ∧ ∃ k : Nat, v = .int .i64 k ∧ k ≤ n ∧ (0 < k → p (k - 1) = false) ∧ (k < n → p k = true) := by
  refine vc_sort_Search (post fun R hR => ?_)
  unfold VC_sort_Search
  refine loop2 (fun x y w1 => Gr w w1 ∧ ∃ i j : Nat, x = .int .i64 i ∧ y = .int .i64 j ∧ i ≤ j ∧ j ≤ n ∧ (0 < i → p (i - 1) = false) ∧ (j < n → p j = true)) (fun x y w1 => match x, y with | .int _ i, .int _ j => (j - i).toNat | _, _ => 0) ⟨Fr.refl _ _, 0, n, rfl, rfl, by omega, by omega, by omega, by omega⟩ ?_
  rintro m1 w1 H ⟨hg, i, j, hi, hj, hij, hjn, q1, q2⟩ hH
  rw [hi, hj] at hH ⊢
  simp only [go_sem]
  by_cases hlt : (i : Int) < j
  · have w0 : IntKind.i64.wrap ((i : Int) + j) = ((i + j : Nat) : Int) := by rw [wrap_i64 _ (by omega) (by omega)]; omega
    have w1' : IntKind.u64.wrap ((i + j : Nat) : Int) = ((i + j : Nat) : Int) := wrap_u64 _ (by omega) (by omega)
    have w2' : IntKind.i64.wrap (((i + j : Nat) : Int) / 2) = (((i + j) / 2 : Nat) : Int) := by rw [wrap_i64 _ (by omega) (by omega)]; omega
    simp only [hlt, go_sem, w0, w1', w2', callV_eq]
    refine (hf ((i + j) / 2) w1 (by omega) hg).mono ?_
    rintro v w2 ⟨rfl, hg2⟩
    cases hp : p ((i + j) / 2)
    · have w3 : IntKind.i64.wrap ((((i + j) / 2 : Nat) : Int) + 1) = (((i + j) / 2 + 1 : Nat) : Int) := by rw [wrap_i64 _ (by omega) (by omega)]; omega
      simp only [go_sem, w3]
      exact hH _ _ _ ⟨hg.gr hg2, (i + j) / 2 + 1, j, rfl, rfl, by omega, by omega, fun _ => by simpa using hp, q2⟩ (by simp only; omega)
    · simp only [go_sem]
      exact hH _ _ _ ⟨hg.gr hg2, i, (i + j) / 2, rfl, rfl, by omega, by omega, q1, fun _ => hp⟩ (by simp only; omega)
  · simp only [hlt, go_sem]
    have : i = j := by omega
    subst this
    exact hR _ _ ⟨hg, i, rfl, hjn, q1, q2⟩

theorem upto_spec (sl : Value) (l : List Ver) (n : Int) (w : World) (hl : Rd w 46 4 sl (vrows l)) (hs : short l.length) (hr : RightO l) : Sp P 62 [.agg #[sl], .int .i64 n] w fun v w' => v = .int .i64 (cntV l n) ∧ Gr w w' := by
  obtain ⟨A, c, rfl⟩ := hl.form
  rw [vrows_len] at hl ⊢
  unfold short at hs
  refine vc_object_Object_upto (post fun R hR => ?_)
  unfold VC_object_Object_upto
  simp only [go_sem]
  have hl2 := (hl.alloc (.cells #[.slice A l.length c] 74)).alloc (.cells #[.int .i64 n] 3)
  refine (search_spec l.length (by omega) _ _ (fun i => decide (n < (l.getD i Ver.zero).at_)) _ ?_).mono ?_
  · intro i w1 hi hg
    have := upto_1_spec A c l n w.heap.size (w.heap.size + 1) w1 (hl2.gr hg) (cell_gr (by simp only [go_sem]) hg) (cell_gr (by simp only [go_sem]) hg) i hi
    simpa [List.getD_eq_getElem?_getD, hi] using this
  · rintro v w2 ⟨hg, k, rfl, hk, q1, q2⟩
    refine hR _ _ ⟨?_, (((Fr.refl _ _).alloc _).alloc _).gr hg⟩
    rw [cnt_of hr hk (fun i hi hik => ?_) (fun i hi hik => ?_)]
    · have := q1 (by omega)
      simp only [List.getD_eq_getElem?_getD, List.getElem?_eq_getElem (show k - 1 < l.length by omega), Option.getD_some, decide_eq_false_iff_not] at this
      rcases Nat.lt_or_eq_of_le (show i ≤ k - 1 by omega) with h | h
      · have := hr.lt h (by omega); omega
      · subst h; omega
    · have := q2 (by omega)
      simp only [List.getD_eq_getElem?_getD, List.getElem?_eq_getElem (show k < l.length by omega), Option.getD_some, decide_eq_true_eq] at this
      rcases Nat.lt_or_eq_of_le (show k ≤ i by omega) with h | h
      · have := hr.lt h (by omega); omega
      · subst h; omega
end Go.Proofs.Ytbjakblkppnieaa
