/- Contracts: objects, read, undone, cleaned, put, compared. -/
import Derived.Test.YtbjakblkppnieaaC3
set_option linter.unusedVariables false
set_option linter.unusedSimpArgs false
namespace Go.Proofs.Ytbjakblkppnieaa
open Go Vc

theorem len_max {w : World} {sl : Value} {l : List Ver} (hl : Rd w 46 4 sl (vrows l)) : l.length ≤ 9223372036854775807 := by
  have := hl.2.choose_spec.choose_spec.2.1; rwa [vrows_len] at this
theorem object_Read_spec (sl : Value) (l : List Ver) (n : Int) (w : World) (hl : Rd w 46 4 sl (vrows l)) (hs : short l.length) (hr : RightO l) :
    Sp P 37 [.agg #[sl], .int .i64 n] w fun v w' => v = .tuple #[(readV l n).1.v, .bool (readV l n).2] ∧ Gr w w' := by
  obtain ⟨A, c, rfl⟩ := hl.form
  rw [vrows_len] at hl ⊢
  have hmax := len_max hl
  refine vc_object_Object_Read (post fun R hR => ?_)
  unfold VC_object_Object_Read
  simp only [go_sem]
  have hl2 := (hl.alloc (.cells #[.slice A l.length c] 74)).alloc (.cells Ver.zero.cs.toArray 46)
  refine (object_Right_spec _ l _ hl2 hr).mono ?_
  rintro v w2 ⟨rfl, hg⟩
  have c1 := cell_gr (w' := w2) (b := w.heap.size) (o := 0) (v := .slice A l.length c) (by simp only [go_sem]) hg
  have B2 : w2.heap[w.heap.size + 1]? = some (.cells Ver.zero.cs.toArray 46) := heap_gr (heap_new_at (by simp only [go_sem])) hg
  simp only [go_sem, c1]
  refine (upto_spec _ l n _ (hl2.gr hg) hs hr).mono ?_
  rintro v w3 ⟨rfl, hg3⟩
  have B3 := heap_gr B2 hg3
  have hG : ∀ X, Gr w (putB w3 (w.heap.size + 1) X) := fun X => (((((Fr.refl _ _).alloc _).alloc _).gr hg).gr hg3).putB (.inl (by omega)) _
  by_cases h0 : cntV l n = 0
  · have d0 : decide ((cntV l n : Int) = 0) = true := decide_eq_true (by omega)
    simp only [go_sem, d0]
    refine store_box B3 rfl rfl ?_
    simp only [go_sem, cell_of (putB_heap _ (lt_of_heap B3))]
    exact hR _ _ ⟨by rw [readV_none hr h0]; rfl, hG _⟩
  · have hc := cnt_le l n
    have d0 : decide ((cntV l n : Int) = 0) = false := decide_eq_false (by omega)
    have hw : IntKind.i64.wrap ((cntV l n : Int) - 1) = ((cntV l n - 1 : Nat) : Int) := by rw [wrap_i64 _ (by omega) (by omega)]; omega
    simp only [go_sem, d0, cell_gr c1 hg3, hw]
    refine vrd_index ((hl2.gr hg).gr hg3) Try.underlying72 sz46 (cntV l n - 1) (by omega) ?_
    intro b o hb e0 e1 e2 e3
    simp only [go_sem, e0, e1, e2, e3]
    refine store_box B3 rfl rfl ?_
    simp only [go_sem, cell_of (putB_heap _ (lt_of_heap B3))]
    exact hR _ _ ⟨by rw [readV_some hr h0]; rfl, hG _⟩

theorem object_Dirty_spec (sl : Value) (l : List Ver) (n : Int) (w : World) (hl : Rd w 46 4 sl (vrows l)) (hs : short l.length) (hr : RightO l) :
    Sp P 35 [.agg #[sl], .int .i64 n] w fun v w' => v = .bool (decide (cntV l n < l.length)) ∧ Gr w w' := by
  obtain ⟨A, c, rfl⟩ := hl.form
  rw [vrows_len] at hl ⊢
  refine vc_object_Object_Dirty (post fun R hR => ?_)
  unfold VC_object_Object_Dirty
  simp only [go_sem]
  have hl2 := hl.alloc (.cells #[.slice A l.length c] 74)
  refine (object_Right_spec _ l _ hl2.drew hr).mono ?_
  rintro v w2 ⟨rfl, hg⟩
  have c1 := cell_gr (w' := w2) (b := w.heap.size) (o := 0) (v := .slice A l.length c) (by simp only [go_sem]) hg
  simp only [go_sem, c1]
  refine (upto_spec _ l n _ (hl2.drew.gr hg) hs hr).mono ?_
  rintro v w3 ⟨rfl, hg3⟩
  simp only [go_sem, cell_gr c1 hg3, true_and]
  refine hR _ _ ⟨?_, ((((Fr.refl _ _).alloc _).drew).gr hg).gr hg3⟩
  congr 1
  exact decide_eq_decide.2 (by omega)

/-- A part of a row, from the front. -/
theorem Rd.take {w : World} {e k : Nat} {A : Option Addr} {m c : Nat} {rows : List (List Value)} (h : Rd w e k (.slice A m c) rows) (j c' : Nat) (hj : j ≤ rows.length) : Rd w e k (.slice A j c') (rows.take j) := by
  obtain ⟨h1, A', c2, hv, h2, h3⟩ := h
  injection hv with hA hm hc
  subst hA
  refine ⟨fun r hr => h1 r (List.mem_of_mem_take hr), _, c', by rw [List.length_take, Nat.min_eq_left hj], by rw [List.length_take]; omega, fun hne => ?_⟩
  obtain ⟨b, o, rfl, ht, hcell⟩ := h3 (by rintro rfl; simp at hne)
  refine ⟨b, o, rfl, ht, fun i u hu => hcell i u ?_⟩
  have : rows.flatten = (rows.take j).flatten ++ (rows.drop j).flatten := by rw [← List.flatten_append, List.take_append_drop]
  rw [this, List.getElem?_append_left (List.getElem?_eq_some_iff.1 hu).1]
  exact hu
theorem Rd.drop {w : World} {e k : Nat} {A : Option Addr} {m c : Nat} {rows : List (List Value)} (h : Rd w e k (.slice A m c) rows) (j c' : Nat) (hj : j ≤ rows.length) (hc : c = j → rows.drop j = []) : Rd w e k (.slice (if c = j then A else A.map (·.add (j * k))) (m - j) c') (rows.drop j) := by
  obtain ⟨h1, A', c2, hv, h2, h3⟩ := h
  injection hv with hA hm hc'
  subst hA
  refine ⟨fun r hr => h1 r (List.mem_of_mem_drop hr), _, c', by rw [List.length_drop, hm], by rw [List.length_drop]; omega, fun hne => ?_⟩
  obtain ⟨b, o, rfl, ht, hcell⟩ := h3 (by rintro rfl; simp at hne)
  have hcj : c ≠ j := fun he => hne (hc he)
  refine ⟨b, o + j * k, by simp [hcj, add_plain], ht, fun i u hu => ?_⟩
  have e : rows.flatten = (rows.take j).flatten ++ (rows.drop j).flatten := by rw [← List.flatten_append, List.take_append_drop]
  have hlen : (rows.take j).flatten.length = j * k := by rw [flat_length _ fun r hr => h1 r (List.mem_of_mem_take hr), List.length_take, Nat.min_eq_left hj]
  have := hcell (j * k + i) u (by rw [e, List.getElem?_append_right (by omega), hlen, Nat.add_sub_cancel_left]; exact hu)
  rwa [Nat.add_assoc]

theorem object_Undo_spec (sl : Value) (l : List Ver) (n : Int) (w : World) (hl : Rd w 46 4 sl (vrows l)) (hs : short l.length) (hr : RightO l) (hc : ∀ A m c, sl = .slice A m c → m ≤ c) :
    Sp P 54 [.agg #[sl], .int .i64 n] w fun v w' => ∃ s, v = .agg #[s] ∧ Ow w' w.heap.size 46 4 s (vrows (undoV l n)) ∧ Gr w w' := by
  obtain ⟨A, c, rfl⟩ := hl.form
  rw [vrows_len] at hl ⊢
  have hcl := hc _ _ _ rfl
  rw [vrows_len] at hcl
  refine vc_object_Object_Undo (post fun R hR => ?_)
  unfold VC_object_Object_Undo
  simp only [go_sem]
  have hl2 := (hl.alloc (.cells #[.slice A l.length c] 74)).alloc (.cells #[.slice none 0 0] 74)
  refine (object_Right_spec _ l _ hl2 hr).mono ?_
  rintro v w2 ⟨rfl, hg⟩
  have c1 := cell_gr (w' := w2) (b := w.heap.size) (o := 0) (v := .slice A l.length c) (by simp only [go_sem]) hg
  have B2 : w2.heap[w.heap.size + 1]? = some (.cells #[.slice none 0 0] 74) := heap_gr (heap_new_at (by simp only [go_sem])) hg
  simp only [go_sem, c1]
  refine (upto_spec _ l n _ (hl2.gr hg).drew hs hr).mono ?_
  rintro v w3 ⟨rfl, hg3⟩
  have hcn := cnt_le l n
  simp only [go_sem, cell_gr (w' := w3) (w := w2.drew) c1 hg3, true_and]
  rw [slice_hi Try.underlying72 sz46 A l.length c (cntV l n : Int) (by omega) (by omega)]
  have hl3 : Rd w3 46 4 (.slice A (cntV l n) c) (vrows (undoV l n)) := by
    rw [undo_take l n hr, vrows, List.map_take]
    exact ((hl2.gr hg).drew.gr hg3).take _ _ (by rw [vrows_len]; exact hcn)
  have hlen : (undoV l n).length = cntV l n := rfl
  simp only [go_sem]
  refine (clone_Version_spec _ _ _ hl3 (by unfold short at *; omega)).mono ?_
  rintro v w4 ⟨ho, hg4⟩
  obtain ⟨A', c', rfl⟩ := ho.rd.form
  have B4 := heap_gr (heap_gr (w' := w3) (w := w2.drew) B2 hg3) hg4
  simp only [go_sem]
  refine store_box B4 rfl rfl ?_
  simp only [go_sem, cell_of (putB_heap _ (lt_of_heap B4))]
  have hsz := hg3.size
  have hsz2 := hg.size
  simp only [go_sem] at hsz hsz2
  have hf4 : Fr [w.heap.size + 1] w4 (putB w4 (w.heap.size + 1) (.cells #[.slice A' (vrows (undoV l n)).length c'] 74)) := (Fr.refl _ _).putB (.inr (by simp)) _
  refine hR _ _ ⟨_, rfl, (ho.base (by omega)).fr hf4 (fun b hb => ?_), ((((((Fr.refl _ _).alloc _).alloc _).gr hg).drew.gr hg3).gr hg4).putB (.inl (by omega)) _⟩
  have := (ho.lt b hb).1
  simp only [List.mem_singleton]
  omega
end Go.Proofs.Ytbjakblkppnieaa
