/- Contracts: slices that are compared; the document's objects. -/
import Derived.Test.YtbjakblkppnieaaC5
set_option linter.unusedVariables false
set_option linter.unusedSimpArgs false
namespace Go.Proofs.Ytbjakblkppnieaa
open Go Vc

theorem srd_max {w : World} {e : TypeId} {sl : Value} {l : List ByteArray} (hl : Rd w e 1 sl (srows l)) : l.length ≤ 9223372036854775807 := by
  have := hl.2.choose_spec.choose_spec.2.1; rwa [srows_len] at this
theorem vrd_max {w : World} {e : TypeId} {sl : Value} {l : List Ver} (hl : Rd w e 4 sl (vrows l)) : l.length ≤ 9223372036854775807 := by
  have := hl.2.choose_spec.choose_spec.2.1; rwa [vrows_len] at this
theorem equal_Version_spec (s1 s2 : Value) (l m : List Ver) (w : World) (h1 : Rd w 46 4 s1 (vrows l)) (h2 : Rd w 46 4 s2 (vrows m)) :
    Sp P 66 [s1, s2] w fun v w' => v = .bool (decide (l = m)) ∧ Gr w w' := by
  obtain ⟨A1, c1, rfl⟩ := h1.form
  obtain ⟨A2, c2, rfl⟩ := h2.form
  have hx1 := vrd_max h1
  have hx2 := vrd_max h2
  rw [vrows_len] at h1 h2 ⊢
  rw [vrows_len]
  refine vc_slices_Equal_object_Version_object_Version (post fun R hR => ?_)
  unfold VC_slices_Equal_object_Version_object_Version
  simp only [go_sem]
  by_cases hlen : l.length = m.length
  · have d0 : decide ((l.length : Int) = m.length) = true := decide_eq_true (by omega)
    simp only [d0, go_sem]
    refine loop1 (fun v w1 => ∃ k : Nat, v = .int .i64 k ∧ k ≤ l.length ∧ Gr w w1 ∧ ∀ i (a : i < l.length) (b : i < m.length), i < k → l[i] = m[i]) (fun v w1 => match v with | .int _ k => (l.length - k).toNat | _ => 0) ⟨0, rfl, by omega, Fr.refl _ _, by omega⟩ ?_
    rintro m1 w1 H ⟨k, hk, hle, hg, ha⟩ hH
    rw [hk] at hH ⊢
    simp only [go_sem]
    by_cases hlt : (k : Int) < l.length
    · simp only [hlt, go_sem]
      have hkl : k < l.length := by omega
      have hkm : k < m.length := by omega
      refine vrd_index (h1.gr hg) Try.underlying72 sz46 k hkl ?_
      intro b o hb e0 e1 e2 e3
      simp only [go_sem, e0, e1, e2, e3]
      refine vrd_index (h2.gr hg) Try.underlying72 sz46 k hkm ?_
      intro b o hb e0 e1 e2 e3
      simp only [go_sem, e0, e1, e2, e3, ver_dec]
      by_cases he : l[k] = m[k]
      · simp only [he, go_sem]
        rw [wrap_i64 _ (by omega) (by omega)]
        refine hH _ _ ⟨k + 1, by simp, by omega, hg.drew, fun i a b hi => ?_⟩ (by simp only; omega)
        rcases Nat.lt_or_eq_of_le (show i ≤ k by omega) with h | rfl
        · exact ha i a b h
        · exact he
      · simp only [he, go_sem]
        refine hR _ _ ⟨?_, hg.drew⟩
        have : ¬ l = m := by rintro rfl; exact he rfl
        simp [this]
    · simp only [hlt, go_sem]
      refine hR _ _ ⟨?_, hg⟩
      have : l = m := eq_of_all hlen fun i a b => ha i a b (by omega)
      simp [this]
  · have d0 : decide ((l.length : Int) = m.length) = false := decide_eq_false (by omega)
    simp only [d0, go_sem]
    refine hR _ _ ⟨?_, Fr.refl _ _⟩
    have : ¬ l = m := by rintro rfl; exact hlen rfl
    simp [this]
theorem object_Same_spec (s1 s2 : Value) (l m : List Ver) (w : World) (h1 : Rd w 46 4 s1 (vrows l)) (h2 : Rd w 46 4 s2 (vrows m)) :
    Sp P 41 [.agg #[s1], .agg #[s2]] w fun v w' => v = .bool (decide (l = m)) ∧ Gr w w' := by
  obtain ⟨A1, c1, rfl⟩ := h1.form
  obtain ⟨A2, c2, rfl⟩ := h2.form
  refine vc_object_Same (post fun R hR => ?_)
  unfold VC_object_Same
  simp only [go_sem]
  refine (equal_Version_spec _ _ l m _ ((h1.alloc _).alloc _) ((h2.alloc _).alloc _)).mono ?_
  rintro v w2 ⟨rfl, hg⟩
  exact hR _ _ ⟨rfl, (((Fr.refl _ _).alloc _).alloc _).gr hg⟩
theorem equal_string_spec (s1 s2 : Value) (l m : List ByteArray) (w : World) (h1 : Rd w 9 1 s1 (srows l)) (h2 : Rd w 9 1 s2 (srows m)) :
    Sp P 40 [s1, s2] w fun v w' => v = .bool (decide (l = m)) ∧ Gr w w' := by
  obtain ⟨A1, c1, rfl⟩ := h1.form
  obtain ⟨A2, c2, rfl⟩ := h2.form
  have hx1 := srd_max h1
  have hx2 := srd_max h2
  rw [srows_len] at h1 h2 ⊢
  rw [srows_len]
  refine vc_slices_Equal_string_string (post fun R hR => ?_)
  unfold VC_slices_Equal_string_string
  simp only [go_sem]
  by_cases hlen : l.length = m.length
  · have d0 : decide ((l.length : Int) = m.length) = true := decide_eq_true (by omega)
    simp only [d0, go_sem]
    refine loop1 (fun v w1 => ∃ k : Nat, v = .int .i64 k ∧ k ≤ l.length ∧ Gr w w1 ∧ ∀ i (a : i < l.length) (b : i < m.length), i < k → l[i] = m[i]) (fun v w1 => match v with | .int _ k => (l.length - k).toNat | _ => 0) ⟨0, rfl, by omega, Fr.refl _ _, by omega⟩ ?_
    rintro m1 w1 H ⟨k, hk, hle, hg, ha⟩ hH
    rw [hk] at hH ⊢
    simp only [go_sem]
    by_cases hlt : (k : Int) < l.length
    · simp only [hlt, go_sem]
      have hkl : k < l.length := by omega
      have hkm : k < m.length := by omega
      refine srd_index (h1.gr hg) Try.underlying33 sz9 k hkl ?_
      intro b o hb e0
      simp only [go_sem, e0]
      refine srd_index (h2.gr hg) Try.underlying33 sz9 k hkm ?_
      intro b o hb e0
      simp only [go_sem, e0]
      by_cases he : l[k] = m[k]
      · simp only [he, go_sem]
        rw [wrap_i64 _ (by omega) (by omega)]
        refine hH _ _ ⟨k + 1, by simp, by omega, hg.drew, fun i a b hi => ?_⟩ (by simp only; omega)
        rcases Nat.lt_or_eq_of_le (show i ≤ k by omega) with h | rfl
        · exact ha i a b h
        · exact he
      · simp only [he, go_sem]
        refine hR _ _ ⟨?_, hg.drew⟩
        have : ¬ l = m := by rintro rfl; exact he rfl
        simp [this]
    · simp only [hlt, go_sem]
      refine hR _ _ ⟨?_, hg⟩
      have : l = m := eq_of_all hlen fun i a b => ha i a b (by omega)
      simp [this]
  · have d0 : decide ((l.length : Int) = m.length) = false := decide_eq_false (by omega)
    simp only [d0, go_sem]
    refine hR _ _ ⟨?_, Fr.refl _ _⟩
    have : ¬ l = m := by rintro rfl; exact hlen rfl
    simp [this]
end Go.Proofs.Ytbjakblkppnieaa
