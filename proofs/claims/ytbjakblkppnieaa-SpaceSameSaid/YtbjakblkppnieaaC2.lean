/- Contracts: objects. -/
import Derived.Test.YtbjakblkppnieaaC1
set_option linter.unusedVariables false
set_option linter.unusedSimpArgs false
namespace Go.Proofs.Ytbjakblkppnieaa
open Go Vc

theorem object_value_spec (s : ByteArray) (g : Bool) (w : World) (hs : s.size ≤ 9223372036854775807) : Sp P 64 [.string s, .bool g] w fun v w' => v = .bool (mayV s g) ∧ w' = w := by
  refine vc_object_value (post fun R hR => ?_)
  unfold VC_object_value
  refine (keys_RightVal_spec s w hs).mono ?_
  rintro v w2 ⟨rfl, rfl⟩
  have he : valOk (⟨#[]⟩ : ByteArray) = true := rfl
  by_cases hv : s = ⟨#[]⟩
  · subst hv
    cases g <;> simp only [go_sem, he] <;> exact hR _ _ ⟨rfl, rfl⟩
  · cases g <;> cases h : valOk s <;> simp only [go_sem, hv] <;> exact hR _ _ ⟨by simp [mayV, h, hv], rfl⟩

theorem object_Right_spec (sl : Value) (l : List Ver) (w : World) (hl : Rd w 46 4 sl (vrows l)) (hr : RightO l) : Sp P 58 [.agg #[sl]] w fun v w' => v = .bool true ∧ Gr w w' := by
  obtain ⟨A, c, rfl⟩ := hl.form
  rw [vrows_len] at hl ⊢
  have hmax : l.length ≤ 9223372036854775807 := by have := hl.2.choose_spec.choose_spec.2.1; rwa [vrows_len] at this
  refine vc_object_Right (post fun R hR => ?_)
  unfold VC_object_Right
  simp only [go_sem]
  refine loop1 (fun v w1 => ∃ k : Nat, v = .int .i64 k ∧ k ≤ l.length ∧ Gr (w.alloc (.cells #[.slice A l.length c] 74)) w1) (fun v w1 => match v with | .int _ k => (l.length - k).toNat | _ => 0) ⟨0, rfl, by omega, Fr.refl _ _⟩ ?_
  rintro m1 w1 H ⟨k, hk, hle, hg⟩ hH
  rw [hk] at hH ⊢
  simp only [go_sem]
  by_cases hlt : (k : Int) < l.length
  · have hlt' : k < l.length := by omega
    simp only [hlt, go_sem]
    have hl1 := (hl.alloc (.cells #[.slice A l.length c] 74)).gr hg
    refine vrd_index hl1 Try.underlying72 sz46 k (by omega) ?_
    intro b o hb c0 c1 c2 c3
    obtain ⟨r1, r2, r3, r4, r5, r6⟩ := hr.each _ (List.getElem_mem hlt')
    have d1 : decide (l[k].at_ < 1) = false := decide_eq_false (by omega)
    have d2 : decide (l[k].num < 1) = false := decide_eq_false (by omega)
    simp only [go_sem, c0, c1, c2, c3, d1, d2]
    refine (object_value_spec _ _ _ (by omega)).mono ?_
    rintro v w2 ⟨rfl, rfl⟩
    simp only [go_sem, r5]
    have hend : ∀ W, Gr w1 W → H [.int .i64 (IntKind.i64.wrap (k + 1))] W := fun W hW => by
      rw [wrap_i64 _ (by omega) (by omega)]
      exact hH _ _ ⟨k + 1, by simp, by omega, hg.gr hW⟩ (by simp only; omega)
    by_cases h0 : (0 : Int) < k
    · have hbx : w1.cell? ⟨w.heap.size, 0, none⟩ = some (.slice A l.length c) := hg.box 0
      have hw : IntKind.i64.wrap ((k : Int) - 1) = ((k - 1 : Nat) : Int) := by rw [wrap_i64 _ (by omega) (by omega)]; omega
      simp only [h0, go_sem, cell_alloc hbx, hw]
      refine vrd_index hl1 Try.underlying72 sz46 (k - 1) (by omega) ?_
      intro b' o' hb' e0 e1 e2 e3
      obtain ⟨q1, q2⟩ := hr.rise (k - 1) (by omega)
      have hkk : k - 1 + 1 = k := by omega
      simp only [hkk] at q1 q2
      have f1 : decide (l[k].at_ ≤ l[k - 1].at_) = false := decide_eq_false (by omega)
      obtain ⟨u1, u2, u3, u4, u5, u6⟩ := hr.each _ (List.getElem_mem (show k - 1 < l.length by omega))
      have hw2 : IntKind.u64.wrap (l[k].num - 1) = l[k - 1].num := by rw [wrap_u64 _ (by omega) (by omega)]; omega
      simp only [go_sem, cell_alloc e0, cell_alloc hbx, hw, f1, hw2]
      refine vrd_index hl1 Try.underlying72 sz46 (k - 1) (by omega) ?_
      intro b2 o2 hb2 g0 g1 g2 g3
      simp only [go_sem, cell_alloc g1]
      exact hend _ (((Fr.refl _ _).alloc _).drew)
    · simp only [h0, go_sem]
      exact hend _ (((Fr.refl _ _).alloc _).drew)
  · simp only [hlt, go_sem]
    exact hR _ _ ⟨rfl, ((Fr.refl _ _).alloc _).gr hg⟩
end Go.Proofs.Ytbjakblkppnieaa
