/- The law SpacePlays. -/
import Derived.Test.YtbjakblkppnieaaC15
set_option linter.unusedVariables false
set_option linter.unusedSimpArgs false
namespace Go.Proofs.Ytbjakblkppnieaa
open Go Vc

theorem spacePlays_walk (e0 : TypeId) (sl : Value) (l : List Op10) (key : ByteArray) (n : Int) (w : World) (hl : Rd w e0 5 sl (orows l)) (hin : ∀ x ∈ l, OpIn x) (hk : key.size ≤ 9223372036854775807) :
    Sp P 3 [sl, .string key, .int .i64 n] w fun v w' => v = .bool true ∧ Gr w w' := by
  obtain ⟨A, c, rfl⟩ := hl.form
  have hll : (orows l).length = l.length := by simp [orows]
  rw [hll] at hl ⊢
  have hmax : l.length ≤ 9223372036854775807 := by have := hl.2.choose_spec.choose_spec.2.1; rwa [hll] at this
  refine vc_sautoirlaw10_SpacePlays (post fun R hR => ?_)
  unfold VC_sautoirlaw10_SpacePlays
  refine (space_New_spec _).mono ?_
  rintro v w1 ⟨rfl, hM1, hg0⟩
  have hlt1 := hM1.lt
  simp only [go_sem]
  have hR1 := RS.new w1
  have hM2 := hM1.gr ((Fr.refl _ _).alloc (.cells #[.slice none 0 0] 28))
  refine Join.intro0 (fun w2 => Gr w w2) ?_ ?_
  · intro J hJ
    refine loop1 (fun y w2 => ∃ (k : Nat) (S : Rows), y = .int .i64 k ∧ k ≤ l.length ∧ k ≤ 30 ∧ Gr w w2 ∧ MS w2 (w.heap.size + 1) w.heap.size S ∧ RS w2 w1.heap.size S ∧ Fine S k) (fun y w1 => match y with | .int _ k => (l.length - k).toNat | _ => 0)
      ⟨0, [], rfl, by omega, by omega, hg0.alloc _, hM2, hR1, Fine.nil 0⟩ ?_
    rintro m1 w2 H ⟨k, S, hkk, hle, h30, hg, hM, hRS, hF⟩ hH
    rw [hkk] at hH ⊢
    simp only [go_sem]
    by_cases hlt : (k : Int) < l.length
    · have hkl : k < l.length := by omega
      simp only [hlt, go_sem]
      refine ord_index (hl.gr hg) k hkl ?_
      intro b o' hb e0 e1 e2 e3 e4
      simp only [go_sem, e0, e1, e2, e3, e4]
      have hga : Gr w2 (w2.alloc (.cells l[k].cs.toArray 30)) := (Fr.refl _ _).alloc _
      by_cases h15 : (30 : Int) ≤ k
      · simp only [h15, go_sem]
        exact hJ _ (hg.gr hga)
      · simp only [h15, go_sem]
        have hok := hin _ (List.getElem_mem hkl)
        refine (law10_step_spec _ _ _ S k l[k] _ (hM.gr hga) (hRS.gr hga) hF (by omega) hok.1 hok.2.1 hok.2.2).mono ?_
        rintro v w4 ⟨rfl, hM4, hR4, hf4⟩
        have hF4 := hF.step (by omega) l[k] hok.1
        generalize stepS S l[k] = T at *
        have hg4 : Gr w w4 := (hg.gr hga).trans hf4 (fun b hb => .inr (by simp at hb; omega))
        have hlM := hM.lt
        have hlR := hRS.lt
        have B4 : w4.heap[w2.heap.size]? = some (.cells l[k].cs.toArray 30) := heap_fr (heap_new _ _) hf4 (by simp; omega)
        simp only [go_sem]
        refine (law10_reads_spec _ _ _ T (k + 1) key n w4 hM4 hR4 hF4 (by omega) hk).mono ?_
        rintro v w5 ⟨rfl, hg5⟩
        have b1 : w5.cell? ⟨w2.heap.size, 1, none⟩ = some (.string l[k].key) := cell_of (heap_gr B4 hg5)
        simp only [go_sem, b1]
        refine (law10_reads_spec _ _ _ T (k + 1) l[k].key n w5 (hM4.gr hg5) (hR4.gr hg5) hF4 (by omega) hok.2.1).mono ?_
        rintro v w6 ⟨rfl, hg6⟩
        have hM6 := (hM4.gr hg5).gr hg6
        have hR6 := (hR4.gr hg5).gr hg6
        have hgw6 := (hg4.gr hg5).gr hg6
        clear hg4 hg5 hg6 hM4 hR4 B4 b1 hf4
        have hR6' := hR6
        obtain ⟨Rv, xs, hh, hT, hr, hx⟩ := hR6
        obtain ⟨A2, c2, rfl⟩ := hr.form
        rw [List.length_map] at hr hh
        simp only [go_sem, cell_of hh]
        have hTl : xs.length ≤ k + 1 := by have := hF4.2.1; rw [hT, List.length_map] at this; exact this
        refine loop2 (fun x y w7 => ∃ j : Nat, y = .int .i64 j ∧ j ≤ xs.length ∧ Gr w6 w7 ∧ Ow w7 w6.heap.size 9 1 x (srows ((xs.take j).map (·.k)))) (fun x y w1 => match y with | .int _ j => (xs.length - j).toNat | _ => 0) ⟨0, rfl, by omega, Fr.refl _ _, Ow.nil _ _ _ _⟩ ?_
        rintro m2 w7 H2 ⟨j, hj, hjl, hg7, ho⟩ hH2
        rw [hj] at hH2 ⊢
        simp only [go_sem]
        by_cases hlt2 : (j : Int) < xs.length
        · have hjx : j < xs.length := by omega
          simp only [hlt2, go_sem]
          refine xrd_index (hr.gr hg7) j hjx ?_
          intro b3 o3 hb3 f0 f1
          have hxj := hx _ (List.getElem_mem hjx)
          obtain ⟨A3, c3, hs3⟩ := hxj.form
          rw [hs3] at f1 hxj
          simp only [go_sem, f0, f1]
          have hsz7 := hg7.size
          have ho2 := ho.alloc (.cells #[.string xs[j].k, .slice A3 (vrows xs[j].l).length c3] 36)
          refine append_lit (base := w6.heap.size) (w := w7.alloc (.cells #[.string xs[j].k, .slice A3 (vrows xs[j].l).length c3] 36)) Try.underlying33 inf9 rfl (by omega) ho2 [.string xs[j].k] rfl (by simp [Value.oneCell']) (by rw [srows_len, List.length_map, List.length_take]; omega) (by rw [srows_len, List.length_map, List.length_take]; omega) (by simp only [go_sem]; omega) (by simp only [go_sem]) ?_
          intro z w8 hz hf8
          have hlow : ∀ b ∈ bl (m2 11), b < w7.heap.size := fun b hb => (ho.lt b hb).2
          have hg8 : Gr w6 w8 := (hg7.alloc _).own hf8 fun b hb => (ho.lt b hb).1
          have q0 : w8.cell? ⟨w7.heap.size, 0, none⟩ = some (.string xs[j].k) := cell_fr (by simp only [go_sem]) hf8 fun hb => by have := hlow _ hb; omega
          have q1 : w8.cell? ⟨w7.heap.size, 1, none⟩ = some (.slice A3 (vrows xs[j].l).length c3) := cell_fr (by simp only [go_sem]) hf8 fun hb => by have := hlow _ hb; omega
          have hmem : (xs[j].k, xs[j].l) ∈ T := by rw [hT]; exact List.mem_map.2 ⟨_, List.getElem_mem hjx, rfl⟩
          obtain ⟨p1, p2, p3, p4, p5⟩ := hF4.2.2 _ hmem
          simp only at p1 p2 p3 p4 p5
          have hw9 : IntKind.i64.wrap ((xs[j].l.length : Int) - 1) = ((xs[j].l.length - 1 : Nat) : Int) := by rw [wrap_i64 _ (by omega) (by omega)]; omega
          simp only [go_sem, q0, q1, vrows_len, hw9]
          have hx8 := hxj.gr hg8
          rw [vrows_len] at hx8 q1
          refine vrd_index hx8 Try.underlying34 sz40 (xs[j].l.length - 1) (by omega) ?_
          intro b4 o4 hb4 r0 r1 r2 r3
          simp only [go_sem, r1]
          have hgd : Gr w8 w8.drew := (Fr.refl _ _).drew
          refine (space_Num_spec _ _ T (k + 1) xs[j].k _ ((hM6.gr hg8).gr hgd) hF4 p5).mono ?_
          rintro v w9 ⟨rfl, hg9⟩
          have hgs : (lastV (getS T xs[j].k)).num = xs[j].l[xs[j].l.length - 1].num := by
            rw [getS_mem_eq hF4.1 hmem, lastV_eq p4]
          rw [hgs]
          have hg89 : Gr w8 w9 := hgd.gr hg9
          simp only [go_sem, cell_gr r1 hg89, cell_gr q1 hg89, true_and]
          rw [wrap_i64 _ (by omega) (by omega)]
          refine hH2 _ _ _ ⟨j + 1, by simp, by omega, hg8.gr hg89, ?_⟩ (by simp only; omega)
          rw [take_succ hjx, List.map_append, srows_app]
          exact hz.gr hg89
        · simp only [hlt2, go_sem]
          have hjj : j = xs.length := by omega
          subst hjj
          rw [List.take_length] at ho
          have hks : xs.map (·.k) = T.map (·.1) := by rw [hT, List.map_map]; rfl
          rw [hks] at ho
          have hM7 := hM6.gr hg7
          have hR7 := hR6'.gr hg7
          refine (space_Keys_spec _ _ T (k + 1) w7 hM7 hF4 (by omega)).mono ?_
          rintro v w8 ⟨hv8, hg8⟩
          refine (law10_Keys_spec v (m2 11) _ _ w8 hv8 (ho.rd.gr hg8)).mono ?_
          rintro v w9 ⟨rfl, hg9⟩
          have hg79 := hg8.gr hg9
          simp only [go_sem]
          refine (space_Dirty_spec _ _ T (k + 1) n w9 (hM7.gr hg79) hF4 (by omega)).mono ?_
          rintro v10 w10 ⟨hv10, hg10⟩
          try simp only [go_sem]
          have hg710 := hg79.gr hg10
          refine (ref10_Dirty_spec _ T n w10 (hR7.gr hg710) (by have := hF4.2.1; omega) (fun p hp => by have := (hF4.2.2 p hp).2.1; omega)).mono ?_
          rintro v11 w11 ⟨hv11, hg11⟩
          try simp only [go_sem]
          refine (law10_Keys_spec v10 v11 _ _ w11 (hv10.gr hg11) hv11).mono ?_
          rintro v w12 ⟨rfl, hg12⟩
          have hg712 := (hg710.gr hg11).gr hg12
          simp only [go_sem]
          rw [wrap_i64 _ (by omega) (by omega)]
          exact hH _ _ ⟨k + 1, T, by simp, by omega, by omega, (hgw6.gr hg7).gr hg712, hM7.gr hg712, hR7.gr hg712, hF4⟩ (by simp only; omega)
    · simp only [hlt, go_sem]
      exact hJ _ hg
  · intro w2 hg2
    refine (law10_awake_spec w2).mono ?_
    rintro v w3 ⟨rfl, hg3⟩
    exact hR _ _ ⟨rfl, hg2.gr hg3⟩
end Go.Proofs.Ytbjakblkppnieaa
