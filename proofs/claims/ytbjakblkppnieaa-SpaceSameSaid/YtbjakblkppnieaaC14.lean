/- Contracts: the law's step. -/
import Derived.Test.YtbjakblkppnieaaC13
set_option linter.unusedVariables false
set_option linter.unusedSimpArgs false
namespace Go.Proofs.Ytbjakblkppnieaa
open Go Vc

theorem law10_step_spec (bs bm br : Nat) (S : Rows) (N : Nat) (o : Op10) (w : World) (h : MS w bs bm S) (hR : RS w br S) (hf : Fine S N) (hN : N ≤ 900000) (ha : o.at_ ≤ 9223372036854775807) (hk : o.key.size ≤ 9223372036854775807) (hz : o.val.size ≤ 9223372036854775807) :
    Sp P 8 [ptr bs 0, ptr br 0, .agg #[.int .i64 o.kind, .string o.key, .int .i64 o.at_, .string o.val, .bool o.gone]] w fun v w' =>
      v = .bool true ∧ MS w' bs bm (stepS S o) ∧ RS w' br (stepS S o) ∧ Fr [bm, br] w w' := by
  refine vc_sautoirlaw10_step (post fun R hQ => ?_)
  unfold VC_sautoirlaw10_step
  simp only [go_sem]
  have hcut : ∀ (s : ByteArray) (n : Nat), s.size ≤ 9223372036854775807 → cutS s n = bif decide ((n : Int) < s.size) then s.extract 0 n else s := fun s n hs => by
    unfold cutS
    rw [show decide ((n : Int) < s.size) = decide (n < s.size) from decide_eq_decide.2 (by omega)]
  let X : ByteArray → ByteArray → Array Value := fun k v => #[.int .i64 o.kind, .string k, .int .i64 o.at_, .string v, .bool o.gone]
  have hX : ∀ w' : World, ∀ k v k' v' : ByteArray, w'.heap[w.heap.size]? = some (.cells (X k v) 30) → ∀ u i, (X k v).setIfInBounds i u = X k' v' → (putB w' w.heap.size (.cells ((X k v).setIfInBounds i u) 30)).heap[w.heap.size]? = some (.cells (X k' v') 30) := fun w' k v k' v' hb u i he => by
    rw [he]; exact putB_heap _ (lt_of_heap hb)
  refine Join.intro0 (fun w1 => Gr w w1 ∧ w1.heap[w.heap.size]? = some (.cells (X (cutS o.key 40) o.val) 30)) ?_ ?_
  · intro K hK
    have B : (w.alloc (.cells (X o.key o.val) 30)).heap[w.heap.size]? = some (.cells (X o.key o.val) 30) := heap_new _ _
    have hc := hcut o.key 40 hk
    cases d : decide ((40 : Int) < o.key.size)
    · simp only [go_sem, d]
      refine hK _ ⟨(Fr.refl _ _).alloc _, ?_⟩
      rw [hc, show decide (((40 : Nat) : Int) < o.key.size) = false from d]
      exact B
    · have := of_decide_eq_true d
      simp only [go_sem, d]
      rw [slice_str Try.underlying9 o.key 40 (by omega) (by omega)]
      simp only [go_sem]
      rw [storeL_cons _ _ _ _ _ (.string o.key) (by simp only [go_sem]) (World.frozen?_alloc_new _ _ _ _) rfl]
      simp only [go_sem]
      refine hK _ ⟨(Fr.refl _ _).alloc _, ?_⟩
      rw [hc, show decide (((40 : Nat) : Int) < o.key.size) = true from d]
      exact heap_new _ _
  rintro w1 ⟨hg1, B1⟩
  have c0 : w1.cell? ⟨w.heap.size, 0, none⟩ = some (.int .i64 o.kind) := cell_of B1
  have c1 : w1.cell? ⟨w.heap.size, 1, none⟩ = some (.string (cutS o.key 40)) := cell_of B1
  have c3 : w1.cell? ⟨w.heap.size, 3, none⟩ = some (.string o.val) := cell_of B1
  refine Join.intro0 (fun w2 => Gr w w2 ∧ w2.heap[w.heap.size]? = some (.cells (X (cutS o.key 40) (cutS o.val 70)) 30)) ?_ ?_
  · intro K hK
    have hc := hcut o.val 70 hz
    cases d : decide ((70 : Int) < o.val.size)
    · simp only [go_sem, c3, d]
      refine hK _ ⟨hg1, ?_⟩
      rw [hc, show decide (((70 : Nat) : Int) < o.val.size) = false from d]
      exact B1
    · have := of_decide_eq_true d
      simp only [go_sem, c3, d]
      rw [slice_str Try.underlying9 o.val 70 (by omega) (by omega)]
      simp only [go_sem]
      rw [storeL_cons _ _ _ _ _ (.string o.val) (by simp only [go_sem, c3]) (by simp [World.frozen?, B1]) rfl]
      simp only [go_sem]
      refine hK _ ⟨hg1.setCell (.inl (by omega)) _, ?_⟩
      rw [setCell_putB B1, putB_heap _ (lt_of_heap B1), hc, show decide (((70 : Nat) : Int) < o.val.size) = true from d]
      rfl
  rintro w2 ⟨hg2, B2⟩
  have e0 : w2.cell? ⟨w.heap.size, 0, none⟩ = some (.int .i64 o.kind) := cell_of B2
  have e1 : w2.cell? ⟨w.heap.size, 1, none⟩ = some (.string (cutS o.key 40)) := cell_of B2
  have e2 : w2.cell? ⟨w.heap.size, 2, none⟩ = some (.int .i64 o.at_) := cell_of B2
  have e3 : w2.cell? ⟨w.heap.size, 3, none⟩ = some (.string (cutS o.val 70)) := cell_of B2
  have e4 : w2.cell? ⟨w.heap.size, 4, none⟩ = some (.bool o.gone) := cell_of B2
  have hM2 := h.gr hg2
  have hR2 := hR.gr hg2
  have hks := cut_size o.key 40
  have hvs := cut_size o.val 70
  refine Join.intro0 (fun w3 => MS w3 bs bm (stepS S o) ∧ RS w3 br (stepS S o) ∧ Fr [bm, br] w w3) ?_ ?_
  · intro K hK
    simp only [go_sem, e0]
    refine Join.intro (fun v w3 => v = .bool (decide (o.kind = 0) || (decide (o.kind = 1) || (decide (o.kind = 2) || decide (o.kind = 3)))) ∧ w2 = w3) ?_ ?_
    · intro K4 hK4
      cases d0 : decide (o.kind = 0) <;> cases d1 : decide (o.kind = 1) <;> cases d2 : decide (o.kind = 2) <;> cases d3 : decide (o.kind = 3) <;> simp only [go_sem, d0, d1, d2, d3] <;> exact hK4 _ _ ⟨by rw [d0, d1, d2, d3]; rfl, rfl⟩
    · rintro v w3 ⟨rfl, rfl⟩
      cases hd : decide (o.kind = 0) || (decide (o.kind = 1) || (decide (o.kind = 2) || decide (o.kind = 3)))
      · cases d4 : decide (o.kind = 4)
        · cases d5 : decide (o.kind = 5)
          · have hst : stepS S o = S := by unfold stepS; rw [hd, d4, d5]; rfl
            simp only [go_sem, d4, d5]
            refine hK _ ?_
            rw [hst]
            exact ⟨hM2, hR2, Gr.to hg2 _⟩
          · have hst : stepS S o = turnS (cleanV · o.at_) S := by unfold stepS; rw [hd, d4, d5]; rfl
            simp only [go_sem, d4, d5, e2]
            refine (space_Clean_spec bs bm S N o.at_ _ hM2 hf hN).mono ?_
            rintro v w4 ⟨hM4, hf4⟩
            simp only [go_sem, box_map e2 hM2 hf4]
            have hR4 := hR2.frM hM2 hf4
            refine (ref10_Clean_spec br S o.at_ _ hR4 hf.1 (by have := hf.2.1; omega) (fun p hp => by have := (hf.2.2 p hp).2.1; omega)).mono ?_
            rintro v w5 ⟨hR5, hf5⟩
            refine hK _ ?_
            rw [hst]
            exact ⟨hM4.frR hR4 hf5, hR5, ((Gr.to hg2 [bm, br]).trans hf4 (fun b hb => .inl (by simp at hb; simp [hb]))).trans hf5 (fun b hb => .inl (by simp at hb; simp [hb]))⟩
        · have hst : stepS S o = turnS (undoV · o.at_) S := by unfold stepS; rw [hd, d4]; rfl
          simp only [go_sem, d4, e2]
          refine (space_Undo_spec bs bm S N o.at_ _ hM2 hf hN).mono ?_
          rintro v w4 ⟨hM4, hf4⟩
          simp only [go_sem, box_map e2 hM2 hf4]
          have hR4 := hR2.frM hM2 hf4
          refine (ref10_Undo_spec br S o.at_ _ hR4 hf.1 (by have := hf.2.1; omega) (fun p hp => by have := (hf.2.2 p hp).2.1; omega)).mono ?_
          rintro v w5 ⟨hR5, hf5⟩
          refine hK _ ?_
          rw [hst]
          exact ⟨hM4.frR hR4 hf5, hR5, ((Gr.to hg2 [bm, br]).trans hf4 (fun b hb => .inl (by simp at hb; simp [hb]))).trans hf5 (fun b hb => .inl (by simp at hb; simp [hb]))⟩
      · have hst : stepS S o = putS S (cutS o.key 40) o.at_ (cutS o.val 70) o.gone := by unfold stepS; rw [hd]; rfl
        simp only [go_sem, e1, e2, e3, e4]
        have hgd : Gr w2 w2.drew := (Fr.refl _ _).drew
        refine (space_Put_spec bs bm S N (cutS o.key 40) o.at_ (cutS o.val 70) o.gone _ (hM2.gr hgd) hf hN (by omega) (by omega)).mono ?_
        rintro v w4 ⟨rfl, hM4, hf4⟩
        have hf4' : Fr [bm] w2 w4 := Fr.to' hgd hf4
        simp only [go_sem, box_map e1 hM2 hf4', box_map e2 hM2 hf4', box_map e3 hM2 hf4', box_map e4 hM2 hf4', true_and]
        have hR4 := hR2.frM hM2 hf4'
        obtain ⟨f1, f2, f3⟩ := hf.get (cutS o.key 40)
        refine (ref10_Put_spec br S (cutS o.key 40) o.at_ (cutS o.val 70) o.gone _ hR4 hf.1 (by have := hf.2.1; omega) (by omega) (lastV_le f1).2.2.1 (by omega) (by omega) (by omega)).mono ?_
        rintro v w5 ⟨rfl, hR5, hf5⟩
        simp only [go_sem]
        refine hQ _ _ ⟨rfl, ?_, ?_, ((Gr.to hg2 [bm, br]).trans hf4' (fun b hb => .inl (by simp at hb; simp [hb]))).trans hf5 (fun b hb => .inl (by simp at hb; simp [hb]))⟩
        · rw [hst]
          exact hM4.frR hR4 hf5
        · rw [hst]
          exact hR5
  · rintro w3 ⟨h1, h2, h3⟩
    exact hQ _ _ ⟨rfl, h1, h2, h3⟩
end Go.Proofs.Ytbjakblkppnieaa
