/- Contracts: keys, objects. -/
import Derived.Test.YtbjakblkppnieaaG
import Derived.Test.YtbjakblkppnieaaT
import Derived.Test.YtbjakblkppnieaaM4
set_option linter.unusedVariables false
set_option linter.unusedSimpArgs false
namespace Go.Proofs.Ytbjakblkppnieaa
open Go Vc

noncomputable abbrev P : Program := Try.prog
theorem wrap_i64 (n : Int) (h0 : -9223372036854775808 ≤ n) (h1 : n ≤ 9223372036854775807) : IntKind.i64.wrap n = n := by rw [IntKind.wrap_i64]; omega

theorem wrap_u64 (n : Int) (h0 : 0 ≤ n) (h1 : n ≤ 18446744073709551615) : IntKind.u64.wrap n = n := by
  have : IntKind.u64.wrap n = n % 18446744073709551616 := by
    first | rfl | simp [IntKind.wrap, IntKind.signed, IntKind.bits]
  rw [this]; omega

/-! keys -/
theorem keys_sign_spec (c : Int) (w : World) : Sp P 84 [.int .u8 c] w fun v w' => v = .bool (sgn c) ∧ w' = w := by
  refine vc_keys_sign (post fun R hR => ?_)
  unfold VC_keys_sign
  refine Join.intro (fun v w1 => v = .bool (sgn c) ∧ w1 = w) ?_ ?_
  · intro K hK
    cases h1 : decide (97 ≤ c) <;> cases h2 : decide (c ≤ 122) <;> cases h3 : decide (48 ≤ c) <;> cases h4 : decide (c ≤ 57) <;> simp only [go_sem, h1, h2, h3, h4] <;>
      exact hK _ _ ⟨by simp [sgn, h1, h2, h3, h4], rfl⟩
  · rintro v w1 ⟨rfl, rfl⟩
    cases h : sgn c <;> simp only [go_sem] <;> exact hR _ _ ⟨by rw [h], rfl⟩
theorem keys_signs_spec (s : ByteArray) (m : Int) (w : World) (hs : s.size ≤ 9223372036854775807) :
    Sp P 63 [.string s, .int .i64 m] w fun v w' => v = .bool (sgns s s.size && decide ((s.size : Int) ≤ m)) ∧ w' = w := by
  refine vc_keys_signs (post fun R hR => ?_)
  unfold VC_keys_signs
  simp only [go_sem]
  refine loop1 (fun v w1 => ∃ k : Nat, v = .int .i64 k ∧ k ≤ s.size ∧ w1 = w ∧ sgns s k = true) (fun v w1 => match v with | .int _ k => (s.size - k).toNat | _ => 0) ⟨0, rfl, by omega, rfl, rfl⟩ ?_
  rintro m1 w1 H ⟨k, hk, hle, rfl, hg⟩ hH
  rw [hk] at hH ⊢
  simp only [go_sem]
  by_cases hlt : (k : Int) < s.size
  · simp only [hlt, decide_true, go_sem]
    rw [index_str Try.underlying9 s k (by omega) hlt]
    refine (keys_sign_spec _ _).mono ?_
    rintro v w2 ⟨rfl, rfl⟩
    have hsu := sgns_succ s k
    rw [hg] at hsu
    cases h : sgn (sb s k).toNat
    · simp only [go_sem, Int.toNat_natCast, h, Bool.not_false]
      refine hR _ _ ⟨?_, rfl⟩
      rw [sgns_false (m := s.size) (by rw [hsu, h]; rfl) (by omega)]
      rfl
    · simp only [go_sem, Int.toNat_natCast, h, Bool.not_true]
      rw [wrap_i64 _ (by omega) (by omega)]
      exact hH _ _ ⟨k + 1, by simp, by omega, rfl, by rw [hsu, h]; rfl⟩ (by simp only; omega)
  · simp only [hlt, decide_false, go_sem]
    have : k = s.size := by omega
    subst this
    exact hR _ _ ⟨by rw [hg]; simp, rfl⟩
theorem keys_Right_spec (s : ByteArray) (w : World) (hs : s.size ≤ 9223372036854775807) : Sp P 38 [.string s] w fun v w' => v = .bool (keyOk s) ∧ w' = w := by
  refine vc_keys_Right (post fun R hR => ?_)
  unfold VC_keys_Right
  simp only [go_sem]
  by_cases he : s = ⟨#[]⟩
  · simp only [he, decide_true, Bool.not_true, go_sem]
    exact hR _ _ ⟨by rw [he]; rfl, rfl⟩
  · simp only [he, decide_false, Bool.not_false, go_sem]
    refine (keys_signs_spec s 32 w hs).mono ?_
    rintro v w2 ⟨rfl, rfl⟩
    refine hR _ _ ⟨?_, rfl⟩
    have : 1 ≤ s.size := by
      rcases Nat.eq_zero_or_pos s.size with h | h
      · exact absurd ((emp_iff s).2 h) he
      · omega
    have h2 : ((s.size : Int) ≤ 32) = (s.size ≤ 32) := propext (by omega)
    simp only [keyOk, this, decide_true, Bool.true_and, h2, Bool.and_comm]
theorem keys_RightVal_spec (s : ByteArray) (w : World) (hs : s.size ≤ 9223372036854775807) : Sp P 85 [.string s] w fun v w' => v = .bool (valOk s) ∧ w' = w := by
  refine vc_keys_RightVal (post fun R hR => ?_)
  unfold VC_keys_RightVal
  refine (keys_signs_spec s 64 w hs).mono ?_
  rintro v w2 ⟨rfl, rfl⟩
  have h2 : ((s.size : Int) ≤ 64) = (s.size ≤ 64) := propext (by omega)
  exact hR _ _ ⟨by simp only [valOk, h2, Bool.and_comm], rfl⟩

/-! the document's keys -/
theorem ref08_signs_spec (s : ByteArray) (w : World) (hs : s.size ≤ 9223372036854775807) :
    Sp P 77 [.string s] w fun v w' => v = .bool (sgns s s.size) ∧ w' = w := by
  refine vc_sautoirref08_signs (post fun R hR => ?_)
  unfold VC_sautoirref08_signs
  refine loop1 (fun v w1 => ∃ k : Nat, v = .int .i64 k ∧ k ≤ s.size ∧ w1 = w ∧ sgns s k = true) (fun v w1 => match v with | .int _ k => (s.size - k).toNat | _ => 0) ⟨0, rfl, by omega, rfl, rfl⟩ ?_
  rintro m1 w1 H ⟨k, hk, hle, rfl, hg⟩ hH
  rw [hk] at hH ⊢
  simp only [go_sem]
  by_cases hlt : (k : Int) < s.size
  · simp only [hlt, decide_true, go_sem]
    rw [index_str Try.underlying9 s k (by omega) hlt]
    simp only [go_sem, Int.toNat_natCast]
    have hb : (sb s k).toNat < 256 := UInt8.toNat_lt _
    have hwr : IntKind.i64.wrap ((sb s k).toNat : Int) = (sb s k).toNat := wrap_i64 _ (by omega) (by omega)
    simp only [hwr]
    have hsu := sgns_succ s k
    rw [hg] at hsu
    have hF : sgn (sb s k).toNat = false → R (.bool false) w1 := fun h => hR _ _ ⟨by rw [sgns_false (m := s.size) (by rw [hsu, h]; rfl) (by omega)], rfl⟩
    have hT : sgn (sb s k).toNat = true → H [.int .i64 (IntKind.i64.wrap (k + 1))] w1 := fun h => by
      rw [wrap_i64 _ (by omega) (by omega)]
      exact hH _ _ ⟨k + 1, by simp, by omega, rfl, by rw [hsu, h]; rfl⟩ (by simp only; omega)
    generalize ((sb s k).toNat : Int) = c at hF hT ⊢
    cases h1 : decide (97 ≤ c) <;> cases h2 : decide (c ≤ 122) <;> cases h3 : decide (48 ≤ c) <;> cases h4 : decide (c ≤ 57) <;> cases h5 : decide (c = 95) <;> simp only [go_sem, h1, h2, h3, h4, h5, Bool.not_false, Bool.not_true] <;>
      first | exact hF (by simp [sgn, h1, h2, h3, h4, h5]) | exact hT (by simp [sgn, h1, h2, h3, h4, h5])
  · simp only [hlt, decide_false, go_sem]
    have : k = s.size := by omega
    subst this
    exact hR _ _ ⟨by rw [hg], rfl⟩
theorem ref08_Right_spec (s : ByteArray) (w : World) (hs : s.size ≤ 9223372036854775807) : Sp P 49 [.string s] w fun v w' => v = .bool (keyOk s) ∧ w' = w := by
  refine vc_sautoirref08_Right (post fun R hR => ?_)
  unfold VC_sautoirref08_Right
  simp only [go_sem]
  have h1 : decide (1 ≤ (s.size : Int)) = decide (1 ≤ s.size) := decide_eq_decide.2 (by omega)
  have h2 : decide ((s.size : Int) ≤ 32) = decide (s.size ≤ 32) := decide_eq_decide.2 (by omega)
  cases h3 : decide (1 ≤ s.size) <;> cases h4 : decide (s.size ≤ 32) <;> simp only [go_sem, h1, h2, h3, h4]
  all_goals first
    | exact hR _ _ ⟨by simp [keyOk, h3, h4], rfl⟩
    | (refine (ref08_signs_spec s w hs).mono ?_
       rintro v w2 ⟨rfl, rfl⟩
       exact hR _ _ ⟨by simp [keyOk, h3, h4], rfl⟩)
theorem ref08_RightVal_spec (s : ByteArray) (w : World) (hs : s.size ≤ 9223372036854775807) : Sp P 78 [.string s] w fun v w' => v = .bool (valOk s) ∧ w' = w := by
  refine vc_sautoirref08_RightVal (post fun R hR => ?_)
  unfold VC_sautoirref08_RightVal
  simp only [go_sem]
  have h2 : decide ((s.size : Int) ≤ 64) = decide (s.size ≤ 64) := decide_eq_decide.2 (by omega)
  cases h4 : decide (s.size ≤ 64) <;> simp only [go_sem, h2, h4]
  all_goals first
    | exact hR _ _ ⟨by simp [valOk, h4], rfl⟩
    | (refine (ref08_signs_spec s w hs).mono ?_
       rintro v w2 ⟨rfl, rfl⟩
       exact hR _ _ ⟨by simp [valOk, h4], rfl⟩)
end Go.Proofs.Ytbjakblkppnieaa
