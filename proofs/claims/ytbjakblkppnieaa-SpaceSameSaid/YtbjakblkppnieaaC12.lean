/- Contracts: spaces: Dirty, turn, Undo, Clean, Same. -/
import Derived.Test.YtbjakblkppnieaaC11
set_option linter.unusedVariables false
set_option linter.unusedSimpArgs false
namespace Go.Proofs.Ytbjakblkppnieaa
open Go Vc

theorem space_Dirty_spec (bs bm : Nat) (S : Rows) (N : Nat) (n : Int) (w : World) (h : MS w bs bm S) (hf : Fine S N) (hN : N ≤ 900000) :
    Sp P 13 [ptr bs 0, .int .i64 n] w fun v w' => Rd w' 9 1 v (srows ((S.filter fun p => decide (cntV p.2 n < p.2.length)).map (·.1))) ∧ Gr w w' := by
  refine vc_space_Space_Dirty (post fun R hR => ?_)
  unfold VC_space_Space_Dirty
  refine (space_Keys_spec bs bm S N w h hf hN).mono ?_
  rintro v w1 ⟨hks, hg1⟩
  have h1 := h.gr hg1
  obtain ⟨A, c, rfl⟩ := hks.form
  have hkl : (srows (S.map (·.1))).length = S.length := by rw [srows_len, List.length_map]
  rw [hkl] at hks ⊢
  have hSl := hf.2.1
  simp only [go_sem]
  refine loop2 (fun x y w2 => ∃ k : Nat, y = .int .i64 k ∧ k ≤ S.length ∧ Gr w1 w2 ∧ Ow w2 w1.heap.size 9 1 x (srows (((S.take k).filter fun p => decide (cntV p.2 n < p.2.length)).map (·.1)))) (fun x y w1 => match y with | .int _ k => (S.length - k).toNat | _ => 0) ⟨0, rfl, by omega, Fr.refl _ _, Ow.nil _ _ _ _⟩ ?_
  rintro m1 w2 H ⟨k, hk, hle, hg, ho⟩ hH
  rw [hk] at hH ⊢
  simp only [go_sem]
  by_cases hlt : (k : Int) < S.length
  · have hkS : k < S.length := by omega
    simp only [hlt, go_sem]
    have hen := filter_snoc (fun p : ByteArray × List Ver => decide (cntV p.2 n < p.2.length)) (S.take k) S[k]
    rw [← take_succ hkS] at hen
    refine Join.intro (fun x w3 => Gr w1 w3 ∧ Ow w3 w1.heap.size 9 1 x (srows (((S.take (k + 1)).filter fun p => decide (cntV p.2 n < p.2.length)).map (·.1)))) ?_ ?_
    · intro K hK
      refine srd_index (hks.gr hg) Try.underlying33 sz9 k (by rw [List.length_map]; exact hkS) ?_
      intro b o hb e0
      simp only [List.getElem_map] at e0
      obtain ⟨hh, ys, hom, hS, hy⟩ := h1.gr hg
      obtain ⟨q1, q2, q3, q4, q5⟩ := hf.2.2 _ (List.getElem_mem hkS)
      simp only [go_sem, e0, cell_of hh]
      rw [look_map hom q5]
      have hlk := lookX_l ys S[k].1
      rw [← hS, getS_mem_eq hf.1 (List.getElem_mem hkS)] at hlk
      have hrd := (OX.look hy S[k].1).1
      rw [hlk] at hrd
      refine (object_Dirty_spec _ S[k].2 n _ hrd (by unfold short; omega) q1).mono ?_
      rintro v w3 ⟨rfl, hg3⟩
      have ho2 := ho.gr hg3
      cases hc : decide (cntV S[k].2 n < S[k].2.length)
      · simp only [go_sem]
        refine hK _ _ ⟨hg.gr hg3, ?_⟩
        simp only [hc, Bool.false_eq_true, if_false] at hen
        rw [hen]
        exact ho2
      · simp only [go_sem]
        have hfl : (((S.take k).filter fun p => decide (cntV p.2 n < p.2.length)).map (·.1)).length ≤ 900000 := by
          rw [List.length_map]
          exact Nat.le_trans (List.length_filter_le _ _) (by simp; omega)
        have hsz := (hg.gr hg3).size
        refine append_lit (base := w1.heap.size) Try.underlying33 inf9 rfl (by omega) ho2 [.string S[k].1] rfl (by simp [Value.oneCell']) (by rw [srows_len]; omega) (by rw [srows_len]; omega) hsz rfl ?_
        intro v' w' hv' hf'
        refine hK _ _ ⟨(hg.gr hg3).own hf' fun b hb => (ho2.lt b hb).1, ?_⟩
        simp only [hc, if_true] at hen
        rw [hen, List.map_append, srows_app]
        exact hv'
    · rintro x w3 ⟨hg3, ho3⟩
      rw [wrap_i64 _ (by omega) (by omega)]
      exact hH _ _ _ ⟨k + 1, by simp, by omega, hg3, ho3⟩ (by simp only; omega)
  · simp only [hlt, go_sem]
    have : k = S.length := by omega
    subst this
    rw [List.take_length] at ho
    exact hR _ _ ⟨ho.rd, hg1.gr hg⟩

theorem space_turn_spec (f : List Ver → List Ver) (hf0 : ∀ l, RightO l → (f l).length ≤ l.length) (F : FuncId) (cap : Array Value) (G : World → Prop) (hG : ∀ w w', G w → Gr w w' → G w') (hG2 : ∀ w w' bs bm S, G w → MS w bs bm S → Fr [bm] w w' → G w')
    (hcall : ∀ (s : Value) (l : List Ver) (w1 : World), G w1 → RightO l → l.length ≤ 900000 → Rd w1 46 4 s (vrows l) → (∀ A m c, s = .slice A m c → m ≤ c) → Sp P F ([.agg #[s]] ++ cap.toList) w1 fun v w2 => ∃ s', v = .agg #[s'] ∧ Ow w2 w1.heap.size 46 4 s' (vrows (f l)) ∧ Gr w1 w2)
    (bs bm : Nat) (S : Rows) (N : Nat) (w : World) (h : MS w bs bm S) (hf : Fine S N) (hN : N ≤ 900000) (hw : G w) :
    Sp P 52 [ptr bs 0, .func (.func F) #[] cap] w fun v w' => MS w' bs bm (turnS f S) ∧ Fr [bm] w w' := by
  have hbne := h.ne
  refine vc_space_Space_turn (post fun R hR => ?_)
  unfold VC_space_Space_turn
  refine (space_Keys_spec bs bm S N w h hf hN).mono ?_
  rintro v w1 ⟨hks, hg1⟩
  have h1 := h.gr hg1
  obtain ⟨A, c, rfl⟩ := hks.form
  have hkl : (srows (S.map (·.1))).length = S.length := by rw [srows_len, List.length_map]
  rw [hkl] at hks ⊢
  have hSl := hf.2.1
  simp only [go_sem]
  refine loop1 (fun y w2 => ∃ k : Nat, y = .int .i64 k ∧ k ≤ S.length ∧ Fr [bm] w w2 ∧ MS w2 bs bm (turnS f (S.take k) ++ S.drop k) ∧ Rd w2 9 1 (.slice A S.length c) (srows (S.map (·.1))) ∧ G w2) (fun y w1 => match y with | .int _ k => (S.length - k).toNat | _ => 0) ⟨0, rfl, by omega, Gr.to hg1 _, by simpa [turnS] using h1, hks, hG _ _ hw hg1⟩ ?_
  rintro m1 w2 H ⟨k, hk, hle, hg, hM, hks, hGw⟩ hH
  rw [hk] at hH ⊢
  simp only [go_sem]
  by_cases hlt : (k : Int) < S.length
  · have hkS : k < S.length := by omega
    simp only [hlt, go_sem]
    refine Join.intro0 (fun w3 => Fr [bm] w w3 ∧ MS w3 bs bm (turnS f (S.take (k + 1)) ++ S.drop (k + 1)) ∧ Rd w3 9 1 (.slice A S.length c) (srows (S.map (·.1))) ∧ G w3) ?_ ?_
    · intro K hK
      refine srd_index hks Try.underlying33 sz9 k (by rw [List.length_map]; exact hkS) ?_
      intro b o hb e0
      simp only [List.getElem_map] at e0
      have hM0 := hM
      obtain ⟨hh, ys, hom, hS, hy⟩ := hM
      obtain ⟨q1, q2, q3, q4, q5⟩ := hf.2.2 _ (List.getElem_mem hkS)
      simp only [go_sem, e0, cell_of hh]
      rw [look_map hom q5]
      have hTr := turn_rise (f := f) hf.1 hkS
      have hlk := lookX_l ys S[k].1
      have hmem : S[k] ∈ turnS f (S.take k) ++ S.drop k := List.mem_append.2 (.inr (by rw [List.drop_eq_getElem_cons hkS]; exact List.mem_cons_self))
      rw [← hS, getS_mem_eq hTr hmem] at hlk
      have hrd := (OX.look hy S[k].1)
      rw [OX, hlk] at hrd
      simp only [callV_eq]
      have hyl : ys.length ≤ 900000 := by
        have e := congrArg List.length hS
        have := turn_len f (S.take k)
        rw [List.length_map, List.length_append, List.length_drop] at e
        rw [List.length_take] at this
        omega
      have hst := turn_step (f := f) hf.1 hkS
      refine (hcall _ S[k].2 w2 hGw q1 (by omega) hrd.1 hrd.2).mono ?_
      rintro v w3 ⟨s', rfl, hs', hg3⟩
      obtain ⟨A', c', rfl⟩ := hs'.rd.form
      have hg4 : Gr w2 (w3.alloc (.cells #[.slice A' (vrows (f S[k].2)).length c'] 74)) := hg3.alloc _
      have hM4 := hM0.gr hg4
      have hmap : ∀ e, ∀ b ∈ [bm], ∀ cs fz, (w3.alloc (.cells #[.slice A' (vrows (f S[k].2)).length c'] 74)).heap[b]? ≠ some (.cells cs e fz) := by
        intro e b hb cs fz
        simp only [List.mem_singleton] at hb
        subst hb
        exact hM4.map _ _ _
      have hend : ∀ w5, Fr [bm] (w3.alloc (.cells #[.slice A' (vrows (f S[k].2)).length c'] 74)) w5 → MS w5 bs bm (turnS f (S.take (k + 1)) ++ S.drop (k + 1)) → K w5 := fun w5 hf5 hM5 =>
        hK _ ⟨(hg.gr hg4).trans hf5 (fun b hb => .inl hb), hM5, (hks.gr hg4).fr' hf5 (hmap _), hG2 _ _ _ _ _ (hG _ _ hGw hg4) hM4 hf5⟩
      simp only [go_sem, vrows_len]
      simp only [vrows_len] at hend hmap hM4 hg4
      by_cases h0 : (f S[k].2).length = 0
      · have d0 : decide (((f S[k].2).length : Int) = 0) = true := decide_eq_true (by omega)
        simp only [go_sem, d0, cell_of (heap_gr hh hg4)]
        refine del_map (own_fr hom hg4 (by simp)) q5 ?_ _
        intro w5 ho5 hf5
        refine hend w5 hf5 ⟨heap_fr (heap_gr hh hg4) hf5 (by simpa using hbne), _, ho5, ?_, fun y hy' => ((hy y (List.mem_filter.1 hy').1).fr hg4 (by simp)).fr hf5 (hmap _)⟩
        rw [delX_r, ← hS, ← hst]
        simp [setS, h0]
      · have d0 : decide (((f S[k].2).length : Int) = 0) = false := decide_eq_false (by omega)
        have hgd := hg4.drew
        simp only [go_sem, d0, cell_of (heap_gr hh hg4)]
        refine put_map (own_fr hom hgd (by simp)) (by omega) q5 _ (f S[k].2) ?_
        intro w5 ho5 hf5
        replace hf5 := Fr.to' (Fr.drew (Fr.refl [] (w3.alloc (.cells #[.slice A' (f S[k].2).length c'] 74)))) hf5
        refine hend w5 hf5 ⟨heap_fr (heap_gr hh hg4) hf5 (by simpa using hbne), _, ho5, ?_, fun y hy' => ?_⟩
        · rw [insX_r, delX_r, ← hS, ← hst]
          simp only [setS, h0, decide_false, cond_false]
          rfl
        · rcases mem_insX hy' with rfl | hy'
          · rw [vrows_len] at hs'
            exact ⟨((hs'.alloc _).rd).fr' hf5 (hmap _), hs'.cap⟩
          · exact ((hy y (List.mem_filter.1 hy').1).fr hg4 (by simp)).fr hf5 (hmap _)
    · rintro w3 ⟨hg3, hM3, hk3, hG3⟩
      rw [wrap_i64 _ (by omega) (by omega)]
      exact hH _ _ ⟨k + 1, by simp, by omega, hg3, hM3, hk3, hG3⟩ (by simp only; omega)
  · simp only [hlt, go_sem]
    have : k = S.length := by omega
    subst this
    rw [List.take_length, List.drop_length, List.append_nil] at hM
    exact hR _ _ ⟨hM, hg⟩

theorem space_Undo_1_spec (b : Nat) (n : Int) (s : Value) (l : List Ver) (w : World) (hb : w.cell? ⟨b, 0, none⟩ = some (.int .i64 n)) (hr : RightO l) (hs : l.length ≤ 900000) (hl : Rd w 46 4 s (vrows l)) (hc : ∀ A m c, s = .slice A m c → m ≤ c) :
    Sp P 53 [.agg #[s], ptr b 0] w fun v w' => ∃ s', v = .agg #[s'] ∧ Ow w' w.heap.size 46 4 s' (vrows (undoV l n)) ∧ Gr w w' := by
  obtain ⟨A, c, rfl⟩ := hl.form
  refine vc_space_Space_Undo_1 (post fun R hR => ?_)
  unfold VC_space_Space_Undo_1
  have hl2 := (hl.alloc (.cells #[.slice A (vrows l).length c] 74)).alloc (.cells #[.slice none 0 0] 74)
  simp only [go_sem, cell_alloc (cell_alloc hb _) _]
  refine (object_Undo_spec _ l n _ hl2 (by unfold short; omega) hr hc).mono ?_
  rintro v w3 ⟨s', rfl, ho, hg⟩
  obtain ⟨A', c', rfl⟩ := ho.rd.form
  have B3 : w3.heap[w.heap.size + 1]? = some (.cells #[.slice none 0 0] 74) := heap_gr (heap_new_at (by simp only [go_sem])) hg
  simp only [go_sem]
  refine store_box B3 rfl rfl ?_
  simp only [go_sem, cell_of (putB_heap _ (lt_of_heap B3))]
  refine hR _ _ ⟨_, rfl, (ho.base (by simp only [go_sem]; omega)).fr (M := [w.heap.size + 1]) ((Fr.refl _ _).putB (.inr (by simp)) _) (fun b hb => ?_), ((((Fr.refl _ _).alloc _).alloc _).gr hg).putB (.inl (by omega)) _⟩
  have := (ho.lt b hb).1
  simp only [go_sem] at this
  simp only [List.mem_singleton]
  omega
theorem space_Clean_1_spec (b : Nat) (n : Int) (s : Value) (l : List Ver) (w : World) (hb : w.cell? ⟨b, 0, none⟩ = some (.int .i64 n)) (hr : RightO l) (hs : l.length ≤ 900000) (hl : Rd w 46 4 s (vrows l)) (hc : ∀ A m c, s = .slice A m c → m ≤ c) :
    Sp P 55 [.agg #[s], ptr b 0] w fun v w' => ∃ s', v = .agg #[s'] ∧ Ow w' w.heap.size 46 4 s' (vrows (cleanV l n)) ∧ Gr w w' := by
  obtain ⟨A, c, rfl⟩ := hl.form
  refine vc_space_Space_Clean_1 (post fun R hR => ?_)
  unfold VC_space_Space_Clean_1
  have hl2 := (hl.alloc (.cells #[.slice A (vrows l).length c] 74)).alloc (.cells #[.slice none 0 0] 74)
  simp only [go_sem, cell_alloc (cell_alloc hb _) _]
  refine (object_Clean_spec _ l n _ hl2 (by unfold short; omega) hr hc).mono ?_
  rintro v w3 ⟨s', rfl, ho, hg⟩
  obtain ⟨A', c', rfl⟩ := ho.rd.form
  have B3 : w3.heap[w.heap.size + 1]? = some (.cells #[.slice none 0 0] 74) := heap_gr (heap_new_at (by simp only [go_sem])) hg
  simp only [go_sem]
  refine store_box B3 rfl rfl ?_
  simp only [go_sem, cell_of (putB_heap _ (lt_of_heap B3))]
  refine hR _ _ ⟨_, rfl, (ho.base (by simp only [go_sem]; omega)).fr (M := [w.heap.size + 1]) ((Fr.refl _ _).putB (.inr (by simp)) _) (fun b hb => ?_), ((((Fr.refl _ _).alloc _).alloc _).gr hg).putB (.inl (by omega)) _⟩
  have := (ho.lt b hb).1
  simp only [go_sem] at this
  simp only [List.mem_singleton]
  omega
theorem box_map {w w' : World} {bs bm b o : Nat} {S : Rows} {v : Value} (h : w.cell? ⟨b, o, none⟩ = some v) (hM : MS w bs bm S) (hf : Fr [bm] w w') : w'.cell? ⟨b, o, none⟩ = some v := by
  refine cell_fr h hf ?_
  simp only [List.mem_singleton]
  rintro rfl
  have hm := hM.map
  unfold World.cell? at h
  split at h
  · exact hm _ _ _ ‹_›
  · cases h
theorem space_Undo_spec (bs bm : Nat) (S : Rows) (N : Nat) (n : Int) (w : World) (h : MS w bs bm S) (hf : Fine S N) (hN : N ≤ 900000) :
    Sp P 26 [ptr bs 0, .int .i64 n] w fun v w' => MS w' bs bm (turnS (undoV · n) S) ∧ Fr [bm] w w' := by
  refine vc_space_Space_Undo (post fun R hR => ?_)
  unfold VC_space_Space_Undo
  simp only [go_sem]
  refine (space_turn_spec (undoV · n) (fun l _ => List.length_filter_le _ _) _ _ (fun w1 => w1.cell? ⟨w.heap.size, 0, none⟩ = some (.int .i64 n)) (fun w1 w2 a b => cell_gr a b) (fun w1 w2 bs bm S a b c => box_map a b c) (fun s l w1 a b c d e => space_Undo_1_spec w.heap.size n s l w1 a b c d e) bs bm S N _ (h.gr ((Fr.refl _ _).alloc _)) hf hN (by simp only [go_sem])).mono ?_
  rintro v w2 ⟨hM, hf2⟩
  exact hR _ _ ⟨hM, Fr.to' ((Fr.refl _ _).alloc _) hf2⟩
theorem space_Clean_spec (bs bm : Nat) (S : Rows) (N : Nat) (n : Int) (w : World) (h : MS w bs bm S) (hf : Fine S N) (hN : N ≤ 900000) :
    Sp P 28 [ptr bs 0, .int .i64 n] w fun v w' => MS w' bs bm (turnS (cleanV · n) S) ∧ Fr [bm] w w' := by
  refine vc_space_Space_Clean (post fun R hR => ?_)
  unfold VC_space_Space_Clean
  simp only [go_sem]
  refine (space_turn_spec (cleanV · n) (fun l _ => List.length_filter_le _ _) _ _ (fun w1 => w1.cell? ⟨w.heap.size, 0, none⟩ = some (.int .i64 n)) (fun w1 w2 a b => cell_gr a b) (fun w1 w2 bs bm S a b c => box_map a b c) (fun s l w1 a b c d e => space_Clean_1_spec w.heap.size n s l w1 a b c d e) bs bm S N _ (h.gr ((Fr.refl _ _).alloc _)) hf hN (by simp only [go_sem])).mono ?_
  rintro v w2 ⟨hM, hf2⟩
  exact hR _ _ ⟨hM, Fr.to' ((Fr.refl _ _).alloc _) hf2⟩
end Go.Proofs.Ytbjakblkppnieaa
