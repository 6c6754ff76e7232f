/- Contracts: the document's spaces: Put, Undo, Clean, Dirty. -/
import Derived.Test.YtbjakblkppnieaaC8
set_option linter.unusedVariables false
set_option linter.unusedSimpArgs false
namespace Go.Proofs.Ytbjakblkppnieaa
open Go Vc

theorem ref10_Put_spec (br : Nat) (S : Rows) (key : ByteArray) (a : Int) (s : ByteArray) (g : Bool) (w : World) (h : RS w br S) (hr : Rise S) (hs : S.length ≤ 1000000) (hl : (getS S key).length ≤ 1000000)
    (hn0 : 0 ≤ (lastV (getS S key)).num) (hn : (lastV (getS S key)).num < 18446744073709551615) (hk : key.size ≤ 9223372036854775807) (hz : s.size ≤ 9223372036854775807) :
    Sp P 25 [ptr br 0, .string key, .int .i64 a, .string s, .bool g] w fun v w' =>
      v = .int .i64 (bif keyOk key && putOk (getS S key) a s g then 0 else 1) ∧ RS w' br (bif keyOk key && putOk (getS S key) a s g then setS S key (putV (getS S key) a s g) else S) ∧ Fr [br] w w' := by
  refine vc_sautoirref10_Space_Put (post fun R hR => ?_)
  unfold VC_sautoirref10_Space_Put
  refine (ref10_Of_spec br S key w h).mono ?_
  rintro v w2 ⟨hv, hg⟩
  have h2 := h.gr hg
  generalize hL : getS S key = L at *
  obtain ⟨A, c, rfl⟩ := hv.form
  rw [vrows_len] at hv ⊢
  have hmax := vrd_max hv
  simp only [go_sem]
  have B0 : (w2.alloc (.cells Ver.zero.cs.toArray 40)).heap[w2.heap.size]? = some (.cells Ver.zero.cs.toArray 40) := heap_new _ _
  refine Join.intro0 (fun w3 => Gr w2 w3 ∧ w3.heap[w2.heap.size]? = some (.cells (lastV L).cs.toArray 40)) ?_ ?_
  · intro K hK
    by_cases h0 : L.length = 0
    · have d0 : decide ((0 : Int) < L.length) = false := decide_eq_false (by omega)
      simp only [go_sem, d0]
      have : L = [] := List.eq_nil_of_length_eq_zero h0
      subst this
      exact hK _ ⟨(Fr.refl _ _).alloc _, B0⟩
    · have d0 : decide ((0 : Int) < L.length) = true := decide_eq_true (by omega)
      have hw : IntKind.i64.wrap ((L.length : Int) - 1) = ((L.length - 1 : Nat) : Int) := by rw [wrap_i64 _ (by omega) (by omega)]; omega
      simp only [go_sem, d0, hw]
      refine vrd_index (hv.alloc (.cells #[.int .i64 0, .int .u64 0, .string ⟨#[]⟩, .bool false] 40)) Try.underlying34 sz40 (L.length - 1) (by omega) ?_
      intro b o hb e0 e1 e2 e3
      simp only [go_sem, e0, e1, e2, e3]
      refine hK _ ⟨(Fr.refl _ _).alloc _, ?_⟩
      rw [lastV_eq h0]
      exact heap_new _ _
  · rintro w3 ⟨hg3, B3⟩
    have h3 := h2.gr hg3
    have hg03 := hg.gr hg3
    have k0 : w3.cell? ⟨w2.heap.size, 0, none⟩ = some (.int .i64 (lastV L).at_) := cell_of B3
    have k1 : w3.cell? ⟨w2.heap.size, 1, none⟩ = some (.int .u64 (lastV L).num) := cell_of B3
    refine (ref08_Right_spec key _ hk).mono ?_
    rintro v w4 ⟨rfl, rfl⟩
    have hbad : (keyOk key && putOk L a s g) = false → R (.int .i64 1) w4 := fun hp => hR _ _ ⟨by rw [hp]; rfl, by rw [hp]; exact h3, Gr.to hg03 _⟩
    cases d0 : keyOk key
    · simp only [go_sem]
      exact hbad (by rw [d0]; rfl)
    cases d1 : decide (a < 1)
    · have d1' : 1 ≤ a := by have := of_decide_eq_false d1; omega
      cases d2 : decide (a ≤ (lastV L).at_)
      · have d2' : (lastV L).at_ < a := by have := of_decide_eq_false d2; omega
        simp only [go_sem, k0, d1, d2]
        refine (ref09_May_spec s g _ hz).mono ?_
        rintro v w5 ⟨rfl, rfl⟩
        cases hm : mayV s g
        · simp only [go_sem]
          exact hbad (by simp [putOk, hm])
        · have hp : (keyOk key && putOk L a s g) = true := by simp [putOk, hm, d1', d2', d0]
          simp only [go_sem]
          have hv5 := (hv.gr hg3)
          have hwn : IntKind.u64.wrap ((lastV L).num + 1) = (lastV L).num + 1 := wrap_u64 _ (by omega) (by omega)
          refine append_rd (base := w5.heap.size) Try.underlying34 inf40 rfl (by omega) (Ow.lit w5 40 4 [] [] (by simp) rfl (by simp)) (hv5.alloc _) (vrows_one L) (by rw [vrows_len]; simp only [List.length_nil]; omega) (by rw [vrows_len]; simp only [List.length_nil]; omega) (by simp only [go_sem]; omega) ?_
          intro y w6 hy hf _
          simp only [List.nil_append] at hy
          have hg6 : Gr w5 w6 := ((Fr.refl _ _).alloc _).trans hf (by simp [bl])
          simp only [go_sem, cell_gr k1 hg6, hwn]
          have hsz6 := hg6.size
          refine append_lit (base := w5.heap.size) Try.underlying34 inf40 rfl (by omega) hy (Ver.cs ⟨a, (lastV L).num + 1, s, g⟩) rfl (by simp [Ver.cs, Value.oneCell']) (by rw [vrows_len]; omega) (by rw [vrows_len]; omega) hsz6 rfl ?_
          intro z w7 hz7 hf7
          have hg7 : Gr w5 w7 := hg6.own hf7 fun b hb => (hy.lt b hb).1
          have hz' : Rd w7 40 4 z (vrows (putV L a s g)) := by
            rw [putV, vrows_app]; exact hz7.rd
          refine (ref10_set_spec br S key z _ w7 (h3.gr hg7) hz' hs).mono ?_
          rintro v w8 ⟨h8, hf8⟩
          refine hR _ _ ⟨by rw [hp]; rfl, ?_, ((hg03.gr hg7).to' hf8)⟩
          rw [hp]
          rw [refset_eq hr] at h8
          exact h8
      · have hp : putOk L a s g = false := by
          have := of_decide_eq_true d2
          have : decide ((lastV L).at_ < a) = false := decide_eq_false (by omega)
          simp [putOk, this]
        simp only [go_sem, k0, d1, d2]
        exact hbad (by rw [hp]; simp)
    · have hp : putOk L a s g = false := by
        have := of_decide_eq_true d1
        have : decide (1 ≤ a) = false := decide_eq_false (by omega)
        simp [putOk, this]
      simp only [go_sem, d1]
      exact hbad (by rw [hp]; simp)

theorem ref10_Dirty_spec (br : Nat) (S : Rows) (n : Int) (w : World) (h : RS w br S) (hs : S.length ≤ 1000000) (hl : ∀ p ∈ S, p.2.length ≤ 1000000) :
    Sp P 14 [ptr br 0, .int .i64 n] w fun v w' =>
      Rd w' 9 1 v (srows ((S.filter fun p => decide (cntV p.2 n < p.2.length)).map (·.1))) ∧ Gr w w' := by
  obtain ⟨Rv, xs, hh, rfl, hr, hx⟩ := h
  rw [List.length_map] at hs
  obtain ⟨A, c, rfl⟩ := hr.form
  rw [List.length_map] at hr hh
  refine vc_sautoirref10_Space_Dirty (post fun R hR => ?_)
  unfold VC_sautoirref10_Space_Dirty
  simp only [go_sem, cell_of hh]
  refine loop2 (fun x y w1 => ∃ k : Nat, y = .int .i64 k ∧ k ≤ xs.length ∧ Gr w w1 ∧ Ow w1 w.heap.size 9 1 x (srows ((((xs.take k).map XR.r).filter fun p => decide (cntV p.2 n < p.2.length)).map (·.1)))) (fun x y w1 => match y with | .int _ k => (xs.length - k).toNat | _ => 0) ⟨0, rfl, by omega, Fr.refl _ _, Ow.nil _ _ _ _⟩ ?_
  rintro m1 w1 H ⟨k, hk, hle, hg, ho⟩ hH
  rw [hk] at hH ⊢
  simp only [go_sem]
  by_cases hlt : (k : Int) < xs.length
  · have hkl : k < xs.length := by omega
    simp only [hlt, go_sem]
    have hen := filter_snoc (fun p : ByteArray × List Ver => decide (cntV p.2 n < p.2.length)) ((xs.take k).map XR.r) (XR.r xs[k])
    have htk : (xs.take (k + 1)).map XR.r = (xs.take k).map XR.r ++ [XR.r xs[k]] := by rw [take_succ hkl, List.map_append]; rfl
    rw [← htk] at hen
    refine Join.intro (fun x w2 => Gr w w2 ∧ Ow w2 w.heap.size 9 1 x (srows ((((xs.take (k + 1)).map XR.r).filter fun p => decide (cntV p.2 n < p.2.length)).map (·.1)))) ?_ ?_
    · intro K hK
      refine xrd_index (hr.gr hg) k hkl ?_
      intro b o hb e0 e1
      have hxk := hx _ (List.getElem_mem hkl)
      obtain ⟨A', c', hs'⟩ := hxk.form
      rw [hs'] at e1 hxk
      simp only [go_sem, e0, e1]
      have hlk := hl _ (List.mem_map.2 ⟨_, List.getElem_mem hkl, rfl⟩)
      have hg1 : Gr w1 ((w1.alloc (.cells #[.string xs[k].k, .slice A' (vrows xs[k].l).length c'] 36)).drew) := ((Fr.refl _ _).alloc _).drew
      refine (ref09_Undo_spec _ xs[k].l n _ ((hxk.gr hg).gr hg1) hlk).mono ?_
      rintro v w2 ⟨hv, hg2⟩
      obtain ⟨A3, c3, rfl⟩ := hv.rd.form
      have q0 := cell_gr (w' := w2) (b := w1.heap.size) (o := 0) (v := .string xs[k].k) (by simp only [go_sem]) hg2
      have q1 := cell_gr (w' := w2) (b := w1.heap.size) (o := 1) (v := .slice A' (vrows xs[k].l).length c') (by simp only [go_sem]) hg2
      have hg12 : Gr w1 w2 := hg1.gr hg2
      have ho2 := ho.gr hg12
      simp only [go_sem, q0, q1, true_and, vrows_len]
      have hd : decide (((undoV xs[k].l n).length : Int) < (xs[k].l.length : Int)) = decide (cntV xs[k].l n < xs[k].l.length) := decide_eq_decide.2 (by unfold cntV; omega)
      rw [hd]
      cases hc : decide (cntV xs[k].l n < xs[k].l.length)
      · simp only [go_sem]
        refine hK _ _ ⟨hg.gr hg12, ?_⟩
        have hc2 : decide (cntV (XR.r xs[k]).2 n < (XR.r xs[k]).2.length) = false := hc
        simp only [hc2, Bool.false_eq_true, if_false] at hen
        rw [hen]
        exact ho2
      · simp only [go_sem]
        have hfl : ((((xs.take k).map XR.r).filter fun p => decide (cntV p.2 n < p.2.length)).map (·.1)).length ≤ 1000000 := by
          rw [List.length_map]
          exact Nat.le_trans (List.length_filter_le _ _) (by simp; omega)
        have hsz := (hg.gr hg12).size
        refine append_lit (base := w.heap.size) Try.underlying33 inf9 rfl (by omega) ho2 [.string xs[k].k] rfl (by simp [Value.oneCell']) (by rw [srows_len]; omega) (by rw [srows_len]; omega) hsz rfl ?_
        intro v' w' hv' hf'
        refine hK _ _ ⟨(hg.gr hg12).own hf' fun b hb => (ho2.lt b hb).1, ?_⟩
        have hc2 : decide (cntV (XR.r xs[k]).2 n < (XR.r xs[k]).2.length) = true := hc
        simp only [hc2, if_true] at hen
        rw [hen, List.map_append, srows_app]
        exact hv'
    · rintro x w2 ⟨hg2, ho2⟩
      rw [wrap_i64 _ (by omega) (by omega)]
      exact hH _ _ _ ⟨k + 1, by simp, by omega, hg2, ho2⟩ (by simp only; omega)
  · simp only [hlt, go_sem]
    have : k = xs.length := by omega
    subst this
    rw [List.take_length] at ho
    exact hR _ _ ⟨ho.rd, hg⟩
theorem turn_rise {f : List Ver → List Ver} {S : Rows} (h : Rise S) {k : Nat} (hk : k < S.length) : Rise (turnS f (S.take k) ++ S.drop k) := by
  have h1 : Rise (S.take k ++ S.drop k) := by rw [List.take_append_drop]; exact h
  have h2 := List.pairwise_append.1 h1
  refine List.pairwise_append.2 ⟨Rise.turn h2.1, h2.2.1, fun a ha b hb => ?_⟩
  obtain ⟨r, hr, rfl, _⟩ := mem_turn ha
  exact h2.2.2 r hr b hb
theorem _root_.Go.Proofs.Ytbjakblkppnieaa.Rd.frS {w w' : World} {e k : Nat} {v : Value} {rows : List (List Value)} {br : Nat} {S : Rows} (h : Rd w e k v rows) (hS : RS w br S) (hne : 28 ≠ e) (hf : Fr [br] w w') : Rd w' e k v rows :=
  h.fr' hf fun b hb cs fz hc => by
    simp only [List.mem_singleton] at hb
    subst hb
    obtain ⟨Rv, xs, hh, _⟩ := hS
    rw [hh] at hc
    injection hc with hc
    injection hc with h1 h2
    exact hne h2

theorem ref10_Undo_spec (br : Nat) (S : Rows) (n : Int) (w : World) (h : RS w br S) (hr : Rise S) (hs : S.length ≤ 1000000) (hl : ∀ p ∈ S, p.2.length ≤ 1000000) :
    Sp P 27 [ptr br 0, .int .i64 n] w fun v w' => RS w' br (turnS (undoV · n) S) ∧ Fr [br] w w' := by
  have h0 := h
  obtain ⟨Rv, xs, hh, rfl, hrd, hx⟩ := h
  rw [List.length_map] at hs
  obtain ⟨A, c, rfl⟩ := hrd.form
  have hone : ∀ x ∈ xs, x.s.oneCell' = true := fun x hx' => by obtain ⟨A, c, hs⟩ := (hx x hx').form; rw [hs]; rfl
  refine vc_sautoirref10_Space_Undo (post fun R hR => ?_)
  unfold VC_sautoirref10_Space_Undo
  simp only [go_sem, cell_of (heap_old hh _)]
  refine append_rd (base := w.heap.size) Try.underlying26 inf36 rfl (by omega) (Ow.lit w 36 2 [] [] (by simp) rfl (by simp)) (hrd.alloc _) (xcs_one hone) (by rw [List.length_map]; simp only [List.length_nil]; omega) (by rw [List.length_map]; simp only [List.length_nil]; omega) (by simp only [go_sem]; omega) ?_
  intro y w2 hy hf _
  simp only [List.nil_append] at hy
  have hg2 : Gr w w2 := ((Fr.refl _ _).alloc _).trans hf (by simp [bl])
  have hyr := hy.rd
  obtain ⟨A2, c2, rfl⟩ := hyr.form
  rw [List.length_map] at hyr ⊢
  simp only [go_sem]
  refine loop1 (fun v w1 => ∃ k : Nat, v = .int .i64 k ∧ k ≤ xs.length ∧ Fr [br] w w1 ∧ RS w1 br (turnS (undoV · n) ((xs.map XR.r).take k) ++ (xs.map XR.r).drop k) ∧ Rd w1 36 2 (.slice A2 xs.length c2) (xs.map xcs) ∧ ∀ x ∈ xs, Rd w1 40 4 x.s (vrows x.l)) (fun v w1 => match v with | .int _ k => (xs.length - k).toNat | _ => 0) ⟨0, rfl, by omega, Gr.to hg2 _, by simpa [turnS] using h0.gr hg2, hyr, fun x hx' => (hx x hx').gr hg2⟩ ?_
  rintro m1 w1 H ⟨k, hk, hle, hg, hS, hyr, hx⟩ hH
  rw [hk] at hH ⊢
  simp only [go_sem]
  by_cases hlt : (k : Int) < xs.length
  · have hkl : k < xs.length := by omega
    simp only [hlt, go_sem]
    refine xrd_index hyr k hkl ?_
    intro b o hb e0 e1
    have hxk := hx _ (List.getElem_mem hkl)
    obtain ⟨A', c', hs'⟩ := hxk.form
    rw [hs'] at e1 hxk
    simp only [go_sem, e0, e1]
    have hlk := hl _ (List.mem_map.2 ⟨_, List.getElem_mem hkl, rfl⟩)
    have hg1 : Gr w1 ((w1.alloc (.cells #[.string xs[k].k, .slice A' (vrows xs[k].l).length c'] 36)).drew) := ((Fr.refl _ _).alloc _).drew
    refine (ref09_Undo_spec _ xs[k].l n _ (hxk.gr hg1) hlk).mono ?_
    rintro v w3 ⟨hv, hg3⟩
    have q0 := cell_gr (w' := w3) (b := w1.heap.size) (o := 0) (v := .string xs[k].k) (by simp only [go_sem]) hg3
    have hg13 : Gr w1 w3 := hg1.gr hg3
    simp only [go_sem, q0, true_and]
    have hkS : k < (xs.map XR.r).length := by rw [List.length_map]; exact hkl
    refine (ref10_set_spec br _ xs[k].k v (undoV xs[k].l n) w3 (hS.gr hg13) hv.rd (by have := turn_len (undoV · n) ((xs.map XR.r).take k); rw [List.length_append, List.length_drop]; rw [List.length_take, List.length_map] at this; rw [List.length_map]; omega)).mono ?_
    rintro v w4 ⟨h4, hf4⟩
    rw [refset_eq (turn_rise hr hkS)] at h4
    have hst := turn_step (f := (undoV · n)) hr hkS
    have hxe : (xs.map XR.r)[k] = (xs[k].k, xs[k].l) := by simp [XR.r]
    rw [hxe] at hst
    simp only at hst
    rw [hst] at h4
    rw [wrap_i64 _ (by omega) (by omega)]
    have hS3 := hS.gr hg13
    exact hH _ _ ⟨k + 1, by simp, by omega, (hg.gr hg13).trans hf4 (fun b hb => .inl hb), h4, (hyr.gr hg13).frS hS3 (by omega) hf4, fun x hx' => ((hx x hx').gr hg13).frS hS3 (by omega) hf4⟩ (by simp only; omega)
  · simp only [hlt, go_sem]
    have : k = xs.length := by omega
    subst this
    refine hR _ _ ⟨?_, hg⟩
    have e : (xs.map XR.r).length = xs.length := List.length_map _
    rw [← e, List.take_length, List.drop_length, List.append_nil] at hS
    exact hS

theorem ref10_Clean_spec (br : Nat) (S : Rows) (n : Int) (w : World) (h : RS w br S) (hr : Rise S) (hs : S.length ≤ 1000000) (hl : ∀ p ∈ S, p.2.length ≤ 1000000) :
    Sp P 29 [ptr br 0, .int .i64 n] w fun v w' => RS w' br (turnS (cleanV · n) S) ∧ Fr [br] w w' := by
  have h0 := h
  obtain ⟨Rv, xs, hh, rfl, hrd, hx⟩ := h
  rw [List.length_map] at hs
  obtain ⟨A, c, rfl⟩ := hrd.form
  have hone : ∀ x ∈ xs, x.s.oneCell' = true := fun x hx' => by obtain ⟨A, c, hs⟩ := (hx x hx').form; rw [hs]; rfl
  refine vc_sautoirref10_Space_Clean (post fun R hR => ?_)
  unfold VC_sautoirref10_Space_Clean
  simp only [go_sem, cell_of (heap_old hh _)]
  refine append_rd (base := w.heap.size) Try.underlying26 inf36 rfl (by omega) (Ow.lit w 36 2 [] [] (by simp) rfl (by simp)) (hrd.alloc _) (xcs_one hone) (by rw [List.length_map]; simp only [List.length_nil]; omega) (by rw [List.length_map]; simp only [List.length_nil]; omega) (by simp only [go_sem]; omega) ?_
  intro y w2 hy hf _
  simp only [List.nil_append] at hy
  have hg2 : Gr w w2 := ((Fr.refl _ _).alloc _).trans hf (by simp [bl])
  have hyr := hy.rd
  obtain ⟨A2, c2, rfl⟩ := hyr.form
  rw [List.length_map] at hyr ⊢
  simp only [go_sem]
  refine loop1 (fun v w1 => ∃ k : Nat, v = .int .i64 k ∧ k ≤ xs.length ∧ Fr [br] w w1 ∧ RS w1 br (turnS (cleanV · n) ((xs.map XR.r).take k) ++ (xs.map XR.r).drop k) ∧ Rd w1 36 2 (.slice A2 xs.length c2) (xs.map xcs) ∧ ∀ x ∈ xs, Rd w1 40 4 x.s (vrows x.l)) (fun v w1 => match v with | .int _ k => (xs.length - k).toNat | _ => 0) ⟨0, rfl, by omega, Gr.to hg2 _, by simpa [turnS] using h0.gr hg2, hyr, fun x hx' => (hx x hx').gr hg2⟩ ?_
  rintro m1 w1 H ⟨k, hk, hle, hg, hS, hyr, hx⟩ hH
  rw [hk] at hH ⊢
  simp only [go_sem]
  by_cases hlt : (k : Int) < xs.length
  · have hkl : k < xs.length := by omega
    simp only [hlt, go_sem]
    refine xrd_index hyr k hkl ?_
    intro b o hb e0 e1
    have hxk := hx _ (List.getElem_mem hkl)
    obtain ⟨A', c', hs'⟩ := hxk.form
    rw [hs'] at e1 hxk
    simp only [go_sem, e0, e1]
    have hlk := hl _ (List.mem_map.2 ⟨_, List.getElem_mem hkl, rfl⟩)
    have hg1 : Gr w1 ((w1.alloc (.cells #[.string xs[k].k, .slice A' (vrows xs[k].l).length c'] 36)).drew) := ((Fr.refl _ _).alloc _).drew
    refine (ref09_Clean_spec _ xs[k].l n _ (hxk.gr hg1) hlk).mono ?_
    rintro v w3 ⟨hv, hg3⟩
    have q0 := cell_gr (w' := w3) (b := w1.heap.size) (o := 0) (v := .string xs[k].k) (by simp only [go_sem]) hg3
    have hg13 : Gr w1 w3 := hg1.gr hg3
    simp only [go_sem, q0, true_and]
    have hkS : k < (xs.map XR.r).length := by rw [List.length_map]; exact hkl
    refine (ref10_set_spec br _ xs[k].k v (cleanV xs[k].l n) w3 (hS.gr hg13) hv.rd (by have := turn_len (cleanV · n) ((xs.map XR.r).take k); rw [List.length_append, List.length_drop]; rw [List.length_take, List.length_map] at this; rw [List.length_map]; omega)).mono ?_
    rintro v w4 ⟨h4, hf4⟩
    rw [refset_eq (turn_rise hr hkS)] at h4
    have hst := turn_step (f := (cleanV · n)) hr hkS
    have hxe : (xs.map XR.r)[k] = (xs[k].k, xs[k].l) := by simp [XR.r]
    rw [hxe] at hst
    simp only at hst
    rw [hst] at h4
    rw [wrap_i64 _ (by omega) (by omega)]
    have hS3 := hS.gr hg13
    exact hH _ _ ⟨k + 1, by simp, by omega, (hg.gr hg13).trans hf4 (fun b hb => .inl hb), h4, (hyr.gr hg13).frS hS3 (by omega) hf4, fun x hx' => ((hx x hx').gr hg13).frS hS3 (by omega) hf4⟩ (by simp only; omega)
  · simp only [hlt, go_sem]
    have : k = xs.length := by omega
    subst this
    refine hR _ _ ⟨?_, hg⟩
    have e : (xs.map XR.r).length = xs.length := List.length_map _
    rw [← e, List.take_length, List.drop_length, List.append_nil] at hS
    exact hS
end Go.Proofs.Ytbjakblkppnieaa
