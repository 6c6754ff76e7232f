/- The law SpaceSame. -/
import Derived.Test.YtbjakblkppnieaaC15
set_option linter.unusedVariables false
set_option linter.unusedSimpArgs false
namespace Go.Proofs.Ytbjakblkppnieaa
open Go Vc

theorem space_Keys_nil_spec (w : World) : Sp P 12 [.pointer none] w fun v w' => v = .slice none 0 0 ∧ w' = w := by
  refine vc_space_Space_Keys (post fun R hR => ?_)
  unfold VC_space_Space_Keys
  simp only [go_sem]
  exact hR _ _ ⟨rfl, rfl⟩
theorem rows_ext {S T : Rows} (hl : S.length = T.length) (h : ∀ i (a : i < S.length) (b : i < T.length), S[i].1 = T[i].1 ∧ S[i].2 = T[i].2) : S = T :=
  List.ext_getElem hl fun i a b => Prod.ext (h i a b).1 (h i a b).2
theorem space_Same_spec (b1 m1 b2 m2 : Nat) (S T : Rows) (N : Nat) (w : World) (h1 : MS w b1 m1 S) (h2 : MS w b2 m2 T) (f1 : Fine S N) (f2 : Fine T N) (hN : N ≤ 900000) :
    Sp P 19 [ptr b1 0, ptr b2 0] w fun v w' => v = .bool (decide (S = T)) ∧ Gr w w' := by
  refine vc_space_Same (post fun R hR => ?_)
  unfold VC_space_Same
  refine (space_Keys_spec b1 m1 S N w h1 f1 hN).mono ?_
  rintro v1 w1 ⟨hv1, hg1⟩
  refine (space_Keys_spec b2 m2 T N w1 (h2.gr hg1) f2 hN).mono ?_
  rintro v2 w2 ⟨hv2, hg2⟩
  refine (equal_string_spec v1 v2 _ _ w2 (hv1.gr hg2) hv2).mono ?_
  rintro v w3 ⟨rfl, hg3⟩
  have hg03 := (hg1.gr hg2).gr hg3
  by_cases hk : S.map (·.1) = T.map (·.1)
  · have hlen : S.length = T.length := by have := congrArg List.length hk; simpa using this
    have hv3 := (hv1.gr hg2).gr hg3
    obtain ⟨A, c, rfl⟩ := hv3.form
    have hkl : (srows (S.map (·.1))).length = S.length := by rw [srows_len, List.length_map]
    rw [hkl] at hv3 ⊢
    have hSl := f1.2.1
    simp only [hk, go_sem]
    refine loop1 (fun y w4 => ∃ k : Nat, y = .int .i64 k ∧ k ≤ S.length ∧ Gr w3 w4 ∧ ∀ i (a : i < S.length) (b : i < T.length), i < k → S[i].2 = T[i].2) (fun y w1 => match y with | .int _ k => (S.length - k).toNat | _ => 0) ⟨0, rfl, by omega, Fr.refl _ _, by omega⟩ ?_
    rintro mm w4 H ⟨k, hkk, hle, hg, ha⟩ hH
    rw [hkk] at hH ⊢
    simp only [go_sem]
    by_cases hlt : (k : Int) < S.length
    · have hkS : k < S.length := by omega
      have hkT : k < T.length := by omega
      simp only [hlt, go_sem]
      refine srd_index (hv3.gr hg) Try.underlying33 sz9 k (by rw [List.length_map]; exact hkS) ?_
      intro b o hb e0
      simp only [List.getElem_map] at e0
      obtain ⟨hh1, ys1, ho1, hS1, hy1⟩ := (h1.gr hg03).gr hg
      obtain ⟨hh2, ys2, ho2, hS2, hy2⟩ := (h2.gr hg03).gr hg
      obtain ⟨q1, q2, q3, q4, q5⟩ := f1.2.2 _ (List.getElem_mem hkS)
      have hkey : T[k].1 = S[k].1 := by
        have : (S.map (·.1))[k]? = (T.map (·.1))[k]? := by rw [hk]
        simp only [List.getElem?_map, List.getElem?_eq_getElem hkS, List.getElem?_eq_getElem hkT, Option.map_some, Option.some.injEq] at this
        exact this.symm
      simp only [go_sem, e0, cell_of hh1, cell_of hh2]
      rw [look_map ho1.drew q5]
      try simp only [go_sem, cell_of hh2]
      rw [look_map ho2.drew q5]
      have hl1 := lookX_l ys1 S[k].1
      rw [← hS1, getS_mem_eq f1.1 (List.getElem_mem hkS)] at hl1
      have hl2 := lookX_l ys2 S[k].1
      rw [← hS2, ← hkey, getS_mem_eq f2.1 (List.getElem_mem hkT)] at hl2
      have r1 := (OX.look hy1 S[k].1).1
      have r2 := (OX.look hy2 S[k].1).1
      rw [hl1] at r1
      rw [← hkey] at r2
      rw [hl2] at r2
      rw [← hkey] at r1 ⊢
      refine (object_Same_spec _ _ S[k].2 T[k].2 _ r1.drew r2.drew).mono ?_
      rintro v w5 ⟨rfl, hg5⟩
      have hg45 : Gr w4 w5 := (Fr.refl [] w4).drew.gr hg5
      by_cases he : S[k].2 = T[k].2
      · simp only [he, go_sem]
        rw [wrap_i64 _ (by omega) (by omega)]
        refine hH _ _ ⟨k + 1, by simp, by omega, hg.gr hg45, fun i a b hi => ?_⟩ (by simp only; omega)
        rcases Nat.lt_or_eq_of_le (show i ≤ k by omega) with h | rfl
        · exact ha i a b h
        · exact he
      · simp only [he, go_sem]
        refine hR _ _ ⟨?_, (hg03.gr hg).gr hg45⟩
        have : ¬ S = T := by rintro rfl; exact he rfl
        simp [this]
    · simp only [hlt, go_sem]
      refine hR _ _ ⟨?_, hg03.gr hg⟩
      have : S = T := rows_ext hlen fun i a b => ⟨by
        have : (S.map (·.1))[i]? = (T.map (·.1))[i]? := by rw [hk]
        simpa only [List.getElem?_map, List.getElem?_eq_getElem a, List.getElem?_eq_getElem b, Option.map_some, Option.some.injEq] using this, ha i a b (by omega)⟩
      simp [this]
  · simp only [hk, go_sem]
    refine hR _ _ ⟨?_, hg03⟩
    have : ¬ S = T := by rintro rfl; exact hk rfl
    simp [this]
theorem space_Same_nil_spec (b2 m2 : Nat) (w : World) (h2 : MS w b2 m2 []) :
    Sp P 19 [.pointer none, ptr b2 0] w fun v w' => v = .bool true ∧ Gr w w' := by
  refine vc_space_Same (post fun R hR => ?_)
  unfold VC_space_Same
  refine (space_Keys_nil_spec w).mono ?_
  rintro v1 w1 ⟨rfl, rfl⟩
  refine (space_Keys_spec b2 m2 [] 0 w1 h2 (Fine.nil 0) (by omega)).mono ?_
  rintro v2 w2 ⟨hv2, hg2⟩
  refine (equal_string_spec (.slice none 0 0) v2 [] _ w2 (Rd.nil _ _ _ _ _) hv2).mono ?_
  rintro v w3 ⟨rfl, hg3⟩
  have e0 : decide (([] : List ByteArray) = List.map (·.1) ([] : Rows)) = true := rfl
  simp only [e0, go_sem]
  refine loop1 (fun y w4 => y = .int .i64 0 ∧ Gr w1 w4) (fun _ _ => 0) ⟨rfl, hg2.gr hg3⟩ ?_
  rintro mm w4 H ⟨hkk, hg⟩ hH
  rw [hkk]
  have e1 : decide ((0 : Int) < 0) = false := rfl
  simp only [go_sem, e1]
  exact hR _ _ ⟨rfl, hg⟩
theorem MS.other {w w' : World} {bs bm bs' bm' br' : Nat} {S S' S2 : Rows} (h : MS w bs bm S) (h' : MS w bs' bm' S') (hr' : RS w br' S2) (hne : bm ≠ bm') (hf : Fr [bm', br'] w w') : MS w' bs bm S := by
  have hm := h.map
  have hm' := h'.map
  obtain ⟨Rv, xs, hh, _⟩ := hr'
  refine h.fr hf ?_ ?_ ?_
  · simp only [List.mem_cons, List.not_mem_nil, or_false, not_or]
    refine ⟨?_, ?_⟩
    · rintro rfl
      exact hm' _ _ _ h.1
    · rintro rfl
      have := h.1
      rw [hh] at this
      injection this with this
      injection this with h1 h2
      exact absurd h2 (by decide)
  · simp only [List.mem_cons, List.not_mem_nil, or_false, not_or]
    refine ⟨hne, ?_⟩
    rintro rfl
    exact hm _ _ _ hh
  · intro b hb cs fz hc
    simp only [List.mem_cons, List.not_mem_nil, or_false] at hb
    rcases hb with rfl | rfl
    · exact hm' _ _ _ hc
    · rw [hh] at hc
      injection hc with hc
      injection hc with h1 h2
      exact absurd h2 (by decide)
theorem RS.other {w w' : World} {br bs' bm' br' : Nat} {S S' S2 : Rows} (h : RS w br S) (h' : MS w bs' bm' S') (hr' : RS w br' S2) (hne : br ≠ br') (hf : Fr [bm', br'] w w') : RS w' br S := by
  have hm' := h'.map
  obtain ⟨Rv, xs, hh, _⟩ := hr'
  have hnt : ∀ e, e ≠ 28 → ∀ b ∈ [bm', br'], ∀ cs fz, w.heap[b]? ≠ some (.cells cs e fz) := by
    intro e he b hb cs fz hc
    simp only [List.mem_cons, List.not_mem_nil, or_false] at hb
    rcases hb with rfl | rfl
    · exact hm' _ _ _ hc
    · rw [hh] at hc
      injection hc with hc
      injection hc with h1 h2
      exact he h2.symm
  refine h.fr hf ?_ (hnt _ (by decide)) (hnt _ (by decide))
  simp only [List.mem_cons, List.not_mem_nil, or_false, not_or]
  refine ⟨?_, hne⟩
  rintro rfl
  obtain ⟨Rv2, xs2, hh2, _⟩ := h
  exact hm' _ _ _ hh2
/-- The first rounds of a list of operations on one of two spaces. -/
theorem spaceSame_walk (ea : TypeId) (s1 : Value) (l : List Op10) (eb : TypeId) (s2 : Value) (m : List Op10) (w : World) (hl : Rd w ea 5 s1 (orows l)) (hinl : ∀ x ∈ l, OpIn x) (hm : Rd w eb 5 s2 (orows m)) (hinm : ∀ x ∈ m, OpIn x) :
    Sp P 5 [s1, s2] w fun v w' => v = .bool true ∧ Gr w w' := by
  obtain ⟨A, c, rfl⟩ := hl.form
  obtain ⟨A2, c2, rfl⟩ := hm.form
  have hll : (orows l).length = l.length := by simp [orows]
  have hmm : (orows m).length = m.length := by simp [orows]
  rw [hll] at hl ⊢
  rw [hmm] at hm ⊢
  have hmax : l.length ≤ 9223372036854775807 := by have := hl.2.choose_spec.choose_spec.2.1; rwa [hll] at this
  have hmax2 : m.length ≤ 9223372036854775807 := by have := hm.2.choose_spec.choose_spec.2.1; rwa [hmm] at this
  refine vc_sautoirlaw10_SpaceSame (post fun R hR => ?_)
  unfold VC_sautoirlaw10_SpaceSame
  refine (space_New_spec _).mono ?_
  rintro v w1 ⟨rfl, hM1, hg1⟩
  have hlt1 := hM1.lt
  simp only [go_sem]
  have hR1 := RS.new w1
  have hM2 := hM1.gr ((Fr.refl _ _).alloc (.cells #[.slice none 0 0] 28))
  refine (space_New_spec _).mono ?_
  rintro v w3 ⟨rfl, hT1, hg3⟩
  have hltT := hT1.lt
  have hsz3 := hg3.size
  simp only [go_sem] at hT1 hltT hsz3 ⊢
  have hQ1 := RS.new w3
  have hgq : Gr w3 (w3.alloc (.cells #[.slice none 0 0] 28)) := (Fr.refl _ _).alloc _
  have hg0 : Gr w (w3.alloc (.cells #[.slice none 0 0] 28)) := ((hg1.alloc _).gr hg3).gr hgq
  refine loop1 (fun y w5 => ∃ (k : Nat) (S : Rows) (N : Nat), y = .int .i64 k ∧ k ≤ l.length ∧ N ≤ 12 ∧ N ≤ k ∧ Gr w w5 ∧ MS w5 (w.heap.size + 1) w.heap.size S ∧ RS w5 w1.heap.size S ∧ Fine S N ∧ MS w5 (w1.heap.size + 1 + 1) (w1.heap.size + 1) [] ∧ RS w5 w3.heap.size []) (fun y w1 => match y with | .int _ k => (l.length - k).toNat | _ => 0)
    ⟨0, [], 0, rfl, by omega, by omega, by omega, hg0, (hM2.gr hg3).gr hgq, (hR1.gr hg3).gr hgq, Fine.nil 0, hT1.gr hgq, hQ1⟩ ?_
  rintro m1 w5 H ⟨k, S, N, hkk, hle, hN, hNk, hg, hM, hRS, hF, hT, hQ⟩ hH
  rw [hkk] at hH ⊢
  simp only [go_sem]
  by_cases hlt : (k : Int) < l.length
  · have hkl : k < l.length := by omega
    simp only [hlt, go_sem]
    refine Join.intro0 (fun w6 => ∃ (S : Rows) (N : Nat), N ≤ 12 ∧ N ≤ k + 1 ∧ Gr w w6 ∧ MS w6 (w.heap.size + 1) w.heap.size S ∧ RS w6 w1.heap.size S ∧ Fine S N ∧ MS w6 (w1.heap.size + 1 + 1) (w1.heap.size + 1) [] ∧ RS w6 w3.heap.size []) ?_ ?_
    · intro K hK
      refine ord_index (hl.gr hg) k hkl ?_
      intro b o' hb e0 e1 e2 e3 e4
      simp only [go_sem, e0, e1, e2, e3, e4]
      have hga : Gr w5 (w5.alloc (.cells l[k].cs.toArray 30)) := (Fr.refl _ _).alloc _
      by_cases h15 : (k : Int) < 12
      · simp only [h15, go_sem]
        have hok := hinl _ (List.getElem_mem hkl)
        refine (law10_step_spec _ _ _ S N l[k] _ (hM.gr hga) (hRS.gr hga) hF (by omega) hok.1 hok.2.1 hok.2.2).mono ?_
        rintro v w6 ⟨rfl, hM4, hR4, hf4⟩
        exact hK _ ⟨_, N + 1, by omega, by omega, (hg.gr hga).trans hf4 (fun b hb => .inr (by simp at hb; omega)), hM4, hR4, hF.step (by omega) _ hok.1, (hT.gr hga).other (hM.gr hga) (hRS.gr hga) (by omega) hf4, (hQ.gr hga).other (hM.gr hga) (hRS.gr hga) (by omega) hf4⟩
      · simp only [h15, go_sem]
        exact hK _ ⟨S, N, hN, by omega, hg.gr hga, hM.gr hga, hRS.gr hga, hF, hT.gr hga, hQ.gr hga⟩
    · rintro w6 ⟨S3, N3, a1, a2, a3, a4, a5, a6, a7, a8⟩
      rw [wrap_i64 _ (by omega) (by omega)]
      exact hH _ _ ⟨k + 1, S3, N3, by simp, by omega, a1, a2, a3, a4, a5, a6, a7, a8⟩ (by simp only; omega)
  · simp only [hlt, go_sem]
    clear hH hlt
    refine loop1 (fun y w6 => ∃ (k : Nat) (T : Rows) (N2 : Nat), y = .int .i64 k ∧ k ≤ m.length ∧ N2 ≤ 12 ∧ N2 ≤ k ∧ Gr w w6 ∧ MS w6 (w.heap.size + 1) w.heap.size S ∧ RS w6 w1.heap.size S ∧ Fine T N2 ∧ MS w6 (w1.heap.size + 1 + 1) (w1.heap.size + 1) T ∧ RS w6 w3.heap.size T) (fun y w1 => match y with | .int _ k => (m.length - k).toNat | _ => 0)
      ⟨0, [], 0, rfl, by omega, by omega, by omega, hg, hM, hRS, Fine.nil 0, hT, hQ⟩ ?_
    clear hg hM hRS hT hQ
    rintro m3 w5 H ⟨k2, T, N2, hkk2, hle2, hN2, hNk2, hg, hM, hRS, hF2, hT, hQ⟩ hH
    rw [hkk2] at hH ⊢
    simp only [go_sem]
    by_cases hlt : (k2 : Int) < m.length
    · have hkl : k2 < m.length := by omega
      simp only [hlt, go_sem]
      refine Join.intro0 (fun w6 => ∃ (T : Rows) (N2 : Nat), N2 ≤ 12 ∧ N2 ≤ k2 + 1 ∧ Gr w w6 ∧ MS w6 (w.heap.size + 1) w.heap.size S ∧ RS w6 w1.heap.size S ∧ Fine T N2 ∧ MS w6 (w1.heap.size + 1 + 1) (w1.heap.size + 1) T ∧ RS w6 w3.heap.size T) ?_ ?_
      · intro K hK
        refine ord_index (hm.gr hg) k2 hkl ?_
        intro b o' hb e0 e1 e2 e3 e4
        simp only [go_sem, e0, e1, e2, e3, e4]
        have hga : Gr w5 (w5.alloc (.cells m[k2].cs.toArray 30)) := (Fr.refl _ _).alloc _
        by_cases h15 : (k2 : Int) < 12
        · simp only [h15, go_sem]
          have hok := hinm _ (List.getElem_mem hkl)
          refine (law10_step_spec _ _ _ T N2 m[k2] _ (hT.gr hga) (hQ.gr hga) hF2 (by omega) hok.1 hok.2.1 hok.2.2).mono ?_
          rintro v w6 ⟨rfl, hM4, hR4, hf4⟩
          have hs1 := hg1.size
          exact hK _ ⟨_, N2 + 1, by omega, by omega, (hg.gr hga).trans hf4 (fun b hb => .inr (by simp at hb; omega)), (hM.gr hga).other (hT.gr hga) (hQ.gr hga) (by omega) hf4, (hRS.gr hga).other (hT.gr hga) (hQ.gr hga) (by omega) hf4, hF2.step (by omega) _ hok.1, hM4, hR4⟩
        · simp only [h15, go_sem]
          exact hK _ ⟨T, N2, hN2, by omega, hg.gr hga, hM.gr hga, hRS.gr hga, hF2, hT.gr hga, hQ.gr hga⟩
      · rintro w6 ⟨S3, N3, a1, a2, a3, a4, a5, a6, a7, a8⟩
        rw [wrap_i64 _ (by omega) (by omega)]
        exact hH _ _ ⟨k2 + 1, S3, N3, by simp, by omega, a1, a2, a3, a4, a5, a6, a7, a8⟩ (by simp only; omega)
    · simp only [hlt, go_sem]
      clear hH hlt
      have hRS0 := hRS
      have hQ0 := hQ
      obtain ⟨Rv, xs, hhr, hSx, hrr, hxr⟩ := hRS
      obtain ⟨Qv, ys, hhq, hTy, hrq, hyq⟩ := hQ
      obtain ⟨A5, c5, rfl⟩ := hrr.form
      obtain ⟨A6, c6, rfl⟩ := hrq.form
      rw [List.length_map] at hrr hhr hrq hhq
      have hxl : xs.length ≤ 12 := by have := hF.2.1; rw [hSx, List.length_map] at this; omega
      have hyl : ys.length ≤ 12 := by have := hF2.2.1; rw [hTy, List.length_map] at this; omega
      simp only [go_sem, cell_of hhr, cell_of hhq]
      have hd0 : decide ((xs.length : Int) = ys.length) = decide (xs.length = ys.length) := decide_eq_decide.2 (by omega)
      rw [hd0]
      have hgd : Gr w5 w5.drew := (Fr.refl _ _).drew
      refine loop2 (fun x y w6 => ∃ j : Nat, y = .int .i64 j ∧ j ≤ xs.length ∧ Gr w5 w6 ∧ x = .bool (decide (xs.length = ys.length) && decide ((xs.take j).map XR.r = (ys.take j).map XR.r))) (fun x y w1 => match y with | .int _ j => (xs.length - j).toNat | _ => 0) ⟨0, rfl, by omega, hgd, by simp⟩ ?_
      rintro m5 w6 H5 ⟨j, hj, hjl, hg6, hx⟩ hH
      rw [hj] at hH
      rw [hj, hx]
      simp only [go_sem]
      by_cases hlt : (j : Int) < xs.length
      · have hjx : j < xs.length := by omega
        simp only [hlt, go_sem]
        refine xrd_index (hrr.gr hg6) j hjx ?_
        intro b3 o3 hb3 f0 f1
        have hxj := hxr _ (List.getElem_mem hjx)
        obtain ⟨A3, c3, hs3⟩ := hxj.form
        rw [hs3] at f1 hxj
        simp only [go_sem, f0, f1]
        have hga : Gr w6 ((w6.alloc (.cells #[.string xs[j].k, .slice A3 (vrows xs[j].l).length c3] 36)).drew) := ((Fr.refl _ _).alloc _).drew
        have hnext : ∀ (b : Bool) (w7 : World), Gr w6 w7 → b = (decide (xs.length = ys.length) && decide ((xs.take (j + 1)).map XR.r = (ys.take (j + 1)).map XR.r)) → H5 [.bool b, .int .i64 (IntKind.i64.wrap (j + 1))] w7 := fun b w7 h7 hb => by
          rw [wrap_i64 _ (by omega) (by omega)]
          exact hH _ _ _ ⟨j + 1, by simp, by omega, hg6.gr h7, by rw [hb]⟩ (by simp only; omega)
        cases hwb : decide (xs.length = ys.length) && decide ((xs.take j).map XR.r = (ys.take j).map XR.r)
        · simp only [go_sem]
          refine hnext false _ hga ?_
          by_cases hll : xs.length = ys.length
          · have hjy : j < ys.length := by omega
            simp only [hll, decide_true, Bool.true_and] at hwb ⊢
            have hne := of_decide_eq_false hwb
            refine (decide_eq_false fun he => hne ?_).symm
            rw [take_succ hjx, take_succ hjy, List.map_append, List.map_append] at he
            exact (List.append_inj he (by simp; omega)).1
          · simp [hll]
        · rw [Bool.and_eq_true] at hwb
          have hll : xs.length = ys.length := of_decide_eq_true hwb.1
          have hpre := of_decide_eq_true hwb.2
          have hjy : j < ys.length := by omega
          have hw7 : ∀ b : Bool, (b = true ↔ XR.r xs[j] = XR.r ys[j]) → b = (decide (xs.length = ys.length) && decide ((xs.take (j + 1)).map XR.r = (ys.take (j + 1)).map XR.r)) := fun b hb => by
            rw [hwb.1, Bool.true_and, take_succ hjx, take_succ hjy, List.map_append, List.map_append, hpre]
            cases b
            · refine (decide_eq_false fun he => ?_).symm
              have := (List.append_inj he rfl).2
              simp only [List.map_cons, List.map_nil, List.cons.injEq, and_true] at this
              exact absurd (hb.2 this) (by simp)
            · have := hb.1 rfl
              simp [this]
          have hyj := hyq _ (List.getElem_mem hjy)
          obtain ⟨A7, c7, hs7⟩ := hyj.form
          rw [hs7] at hyj
          have hg56 : Gr w5 (w6.alloc (.cells #[.string xs[j].k, .slice A3 (vrows xs[j].l).length c3] 36)) := hg6.alloc _
          simp only [go_sem, cell_of (heap_gr hhq hg56)]
          refine xrd_index (hrq.gr hg56) j hjy ?_
          intro b4 o4 hb4 r0 r1
          rw [hs7] at r1
          simp only [go_sem, r0]
          by_cases hke : xs[j].k = ys[j].k
          · have dk : decide (xs[j].k = ys[j].k) = true := decide_eq_true hke
            simp only [dk, go_sem, cell_of (heap_gr hhq hg56)]
            refine xrd_index (hrq.gr hg56) j hjy ?_
            intro b5 o5 hb5 t0 t1
            rw [hs7] at t1
            simp only [go_sem, t1]
            refine (ref09_Same_spec _ _ xs[j].l ys[j].l _ ((hxj.gr hg6).gr hga) ((hyj.gr hg6).gr hga)).mono ?_
            rintro v w8 ⟨rfl, hg8⟩
            try simp only [go_sem]
            refine hnext _ _ (hga.gr hg8) (hw7 _ ⟨fun h => Prod.ext hke (of_decide_eq_true h), fun h => decide_eq_true (congrArg Prod.snd h)⟩)
          · simp only [hke, go_sem]
            exact hnext false _ hga (hw7 false ⟨fun h => absurd h (by simp), fun h => absurd (congrArg Prod.fst h) hke⟩)
      · simp only [hlt, go_sem]
        have hjj : j = xs.length := by omega
        subst hjj
        have hwant : (decide (xs.length = ys.length) && decide ((xs.take xs.length).map XR.r = (ys.take xs.length).map XR.r)) = decide (S = T) := by
          rw [hSx, hTy, List.take_length]
          by_cases hll : xs.length = ys.length
          · rw [hll, List.take_length]; simp
          · have : ¬ xs.map XR.r = ys.map XR.r := fun h => hll (by simpa using congrArg List.length h)
            simp [hll, this]
        rw [hwant]
        have fS : Fine S 12 := ⟨hF.1, by have := hF.2.1; omega, fun p hp => ⟨(hF.2.2 p hp).1, by have := (hF.2.2 p hp).2.1; omega, fun v hv => by have := (hF.2.2 p hp).2.2.1 v hv; omega, (hF.2.2 p hp).2.2.2⟩⟩
        have fT : Fine T 12 := ⟨hF2.1, by have := hF2.2.1; omega, fun p hp => ⟨(hF2.2.2 p hp).1, by have := (hF2.2.2 p hp).2.1; omega, fun v hv => by have := (hF2.2.2 p hp).2.2.1 v hv; omega, (hF2.2.2 p hp).2.2.2⟩⟩
        refine (space_Same_spec _ _ _ _ S T 12 w6 (hM.gr hg6) (hT.gr hg6) fS fT (by omega)).mono ?_
        rintro v w7 ⟨rfl, hg7⟩
        have hbb : (decide (S = T) == decide (S = T)) = true := beq_self_eq_true _
        simp only [go_sem, hbb]
        refine (space_Same_spec _ _ _ _ S S 12 w7 ((hM.gr hg6).gr hg7) ((hM.gr hg6).gr hg7) fS fS (by omega)).mono ?_
        rintro v w8 ⟨rfl, hg8⟩
        simp only [go_sem]
        refine (space_New_spec w8).mono ?_
        rintro v w9 ⟨rfl, hN9, hg9⟩
        try simp only [go_sem]
        refine (space_Same_nil_spec _ _ w9 hN9).mono ?_
        rintro v w10 ⟨rfl, hg10⟩
        simp only [go_sem]
        refine (law10_awake_spec w10).mono ?_
        rintro v w11 ⟨rfl, hg11⟩
        try simp only [go_sem]
        exact hR _ _ ⟨rfl, ((((((hg.gr hg6).gr hg7).gr hg8).gr hg9).gr hg10).gr hg11)⟩
end Go.Proofs.Ytbjakblkppnieaa
