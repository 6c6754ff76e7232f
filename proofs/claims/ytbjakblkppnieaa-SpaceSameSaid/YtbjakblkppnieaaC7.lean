/- Contracts: the document's objects. -/
import Derived.Test.YtbjakblkppnieaaC6
set_option linter.unusedVariables false
set_option linter.unusedSimpArgs false
namespace Go.Proofs.Ytbjakblkppnieaa
open Go Vc

theorem ref09_May_spec (s : ByteArray) (g : Bool) (w : World) (hs : s.size ≤ 9223372036854775807) : Sp P 50 [.string s, .bool g] w fun v w' => v = .bool (mayV s g) ∧ w' = w := by
  refine vc_sautoirref09_May (post fun R hR => ?_)
  unfold VC_sautoirref09_May
  cases g
  · simp only [go_sem]
    refine (ref08_RightVal_spec s w hs).mono ?_
    rintro v w2 ⟨rfl, rfl⟩
    exact hR _ _ ⟨rfl, rfl⟩
  · simp only [go_sem]
    exact hR _ _ ⟨rfl, rfl⟩
theorem filter_snoc {α : Type} (p : α → Bool) (l : List α) (x : α) : (l ++ [x]).filter p = if p x = true then l.filter p ++ [x] else l.filter p := by
  rw [List.filter_append]
  by_cases h : p x = true <;> simp [h]
theorem ref09_Undo_spec (sl : Value) (l : List Ver) (n : Int) (w : World) (hl : Rd w 40 4 sl (vrows l)) (hs : l.length ≤ 1000000) :
    Sp P 36 [sl, .int .i64 n] w fun v w' => Ow w' w.heap.size 40 4 v (vrows (undoV l n)) ∧ Gr w w' := by
  obtain ⟨A, c, rfl⟩ := hl.form
  rw [vrows_len] at hl ⊢
  refine vc_sautoirref09_Undo (post fun R hR => ?_)
  unfold VC_sautoirref09_Undo
  simp only [go_sem]
  refine loop2 (fun x y w1 => ∃ k : Nat, y = .int .i64 k ∧ k ≤ l.length ∧ Gr w w1 ∧ Ow w1 w.heap.size 40 4 x (vrows (undoV (l.take k) n))) (fun x y w1 => match y with | .int _ k => (l.length - k).toNat | _ => 0) ⟨0, rfl, by omega, Fr.refl _ _, Ow.nil _ _ _ _⟩ ?_
  rintro m1 w1 H ⟨k, hk, hle, hg, ho⟩ hH
  rw [hk] at hH ⊢
  simp only [go_sem]
  by_cases hlt : (k : Int) < l.length
  · have hkl : k < l.length := by omega
    simp only [hlt, go_sem]
    have hen : undoV (l.take (k + 1)) n = if decide (l[k].at_ ≤ n) = true then undoV (l.take k) n ++ [l[k]] else undoV (l.take k) n := by
      rw [take_succ hkl]; exact filter_snoc _ _ _
    refine Join.intro (fun x w2 => Gr w w2 ∧ Ow w2 w.heap.size 40 4 x (vrows (undoV (l.take (k + 1)) n))) ?_ ?_
    · intro K hK
      refine vrd_index (hl.gr hg) Try.underlying34 sz40 k hkl ?_
      intro b o hb e0 e1 e2 e3
      simp only [go_sem, e0, e1, e2, e3]
      by_cases hc : l[k].at_ ≤ n
      · simp only [hc, go_sem]
        have ho2 := ho.alloc (.cells l[k].cs.toArray 40)
        have hle2 : (undoV (l.take k) n).length ≤ 1000000 := Nat.le_trans (List.length_filter_le _ _) (by simp; omega)
        have hsz := hg.size
        refine append_lit (base := w.heap.size) (w := w1.alloc (.cells l[k].cs.toArray 40)) Try.underlying34 inf40 rfl (by omega) ho2 l[k].cs rfl (by simp [Ver.cs, Value.oneCell']) (by rw [vrows_len]; omega) (by rw [vrows_len]; omega) (by simp only [go_sem]; omega) (by simp only [go_sem]) ?_
        intro v' w' hv hf
        refine hK _ _ ⟨(hg.alloc _).own hf fun b hb => (ho.lt b hb).1, ?_⟩
        rw [hen]
        simp only [hc, decide_true, if_true, vrows_app]
        exact hv
      · simp only [hc, go_sem]
        refine hK _ _ ⟨hg.alloc _, ?_⟩
        rw [hen]
        simp only [hc, decide_false, Bool.false_eq_true, if_false]
        exact ho.alloc _
    · rintro x w2 ⟨hg2, ho2⟩
      rw [wrap_i64 _ (by omega) (by omega)]
      exact hH _ _ _ ⟨k + 1, by simp, by omega, hg2, ho2⟩ (by simp only; omega)
  · simp only [hlt, go_sem]
    have : k = l.length := by omega
    subst this
    rw [List.take_length] at ho
    exact hR _ _ ⟨ho, hg⟩
theorem ref09_Read_spec (sl : Value) (l : List Ver) (n : Int) (w : World) (hl : Rd w 40 4 sl (vrows l)) (hs : l.length ≤ 1000000) :
    Sp P 30 [sl, .int .i64 n] w fun v w' => v = .tuple #[(readV l n).1.v, .bool (readV l n).2] ∧ Gr w w' := by
  refine vc_sautoirref09_Read (post fun R hR => ?_)
  unfold VC_sautoirref09_Read
  simp only [go_sem]
  refine (ref09_Undo_spec sl l n _ (hl.alloc _) hs).mono ?_
  rintro v w2 ⟨ho, hg⟩
  have hrd := ho.rd
  obtain ⟨A, c, rfl⟩ := hrd.form
  rw [vrows_len] at hrd
  have hmax := vrd_max hrd
  have B2 : w2.heap[w.heap.size]? = some (.cells Ver.zero.cs.toArray 40) := heap_gr (heap_new_at rfl) hg
  have hG : ∀ X, Gr w (putB w2 w.heap.size X) := fun X => (((Fr.refl _ _).alloc _).gr hg).putB (.inl (by omega)) _
  simp only [go_sem, vrows_len]
  by_cases h0 : (undoV l n).length = 0
  · have d0 : decide (((undoV l n).length : Int) = 0) = true := decide_eq_true (by omega)
    simp only [go_sem, d0]
    refine store_box B2 rfl rfl ?_
    simp only [go_sem, cell_of (putB_heap _ (lt_of_heap B2))]
    refine hR _ _ ⟨?_, hG _⟩
    have : undoV l n = [] := List.eq_nil_of_length_eq_zero h0
    rw [readV, this]
    rfl
  · have d0 : decide (((undoV l n).length : Int) = 0) = false := decide_eq_false (by omega)
    have hw : IntKind.i64.wrap (((undoV l n).length : Int) - 1) = (((undoV l n).length - 1 : Nat) : Int) := by rw [wrap_i64 _ (by omega) (by omega)]; omega
    simp only [go_sem, d0, hw]
    refine vrd_index hrd Try.underlying34 sz40 ((undoV l n).length - 1) (by omega) ?_
    intro b o hb e0 e1 e2 e3
    simp only [go_sem, e0, e1, e2, e3]
    refine store_box B2 rfl rfl ?_
    simp only [go_sem, cell_of (putB_heap _ (lt_of_heap B2))]
    refine hR _ _ ⟨?_, hG _⟩
    have : (undoV l n).getLast? = some (undoV l n)[(undoV l n).length - 1] := by rw [List.getLast?_eq_getElem?, List.getElem?_eq_getElem (by omega)]
    rw [readV, this]
    rfl
theorem ref09_Same_spec (s1 s2 : Value) (l m : List Ver) (w : World) (h1 : Rd w 40 4 s1 (vrows l)) (h2 : Rd w 40 4 s2 (vrows m)) :
    Sp P 18 [s1, s2] w fun v w' => v = .bool (decide (l = m)) ∧ Gr w w' := by
  obtain ⟨A1, c1, rfl⟩ := h1.form
  obtain ⟨A2, c2, rfl⟩ := h2.form
  have hx1 := vrd_max h1
  have hx2 := vrd_max h2
  rw [vrows_len] at h1 h2 ⊢
  rw [vrows_len]
  refine vc_sautoirref09_Same (post fun R hR => ?_)
  unfold VC_sautoirref09_Same
  simp only [go_sem]
  by_cases hlen : l.length = m.length
  · have d0 : decide ((l.length : Int) = m.length) = true := decide_eq_true (by omega)
    simp only [d0, go_sem]
    refine loop1 (fun v w1 => ∃ k : Nat, v = .int .i64 k ∧ k ≤ l.length ∧ Gr w w1 ∧ ∀ i (a : i < l.length) (b : i < m.length), i < k → l[i] = m[i]) (fun v w1 => match v with | .int _ k => (l.length - k).toNat | _ => 0) ⟨0, rfl, by omega, Fr.refl _ _, by omega⟩ ?_
    rintro m1 w1 H ⟨k, hk, hle, hg, ha⟩ hH
    rw [hk] at hH ⊢
    simp only [go_sem]
    by_cases hlt : (k : Int) < l.length
    · simp only [hlt, go_sem]
      have hkl : k < l.length := by omega
      have hkm : k < m.length := by omega
      refine vrd_index (h1.gr hg) Try.underlying34 sz40 k hkl ?_
      intro b o hb e0 e1 e2 e3
      simp only [go_sem, e0, e1, e2, e3]
      refine vrd_index (h2.gr hg) Try.underlying34 sz40 k hkm ?_
      intro b o hb e0 e1 e2 e3
      simp only [go_sem, e0, e1, e2, e3, ver_dec]
      by_cases he : l[k] = m[k]
      · simp only [he, go_sem]
        rw [wrap_i64 _ (by omega) (by omega)]
        refine hH _ _ ⟨k + 1, by simp, by omega, hg.drew, fun i a b hi => ?_⟩ (by simp only; omega)
        rcases Nat.lt_or_eq_of_le (show i ≤ k by omega) with h | rfl
        · exact ha i a b h
        · exact he
      · simp only [he, go_sem]
        refine hR _ _ ⟨?_, hg.drew⟩
        have : ¬ l = m := by rintro rfl; exact he rfl
        simp [this]
    · simp only [hlt, go_sem]
      refine hR _ _ ⟨?_, hg⟩
      have : l = m := eq_of_all hlen fun i a b => ha i a b (by omega)
      simp [this]
  · have d0 : decide ((l.length : Int) = m.length) = false := decide_eq_false (by omega)
    simp only [d0, go_sem]
    refine hR _ _ ⟨?_, Fr.refl _ _⟩
    have : ¬ l = m := by rintro rfl; exact hlen rfl
    simp [this]
theorem ref09_Clean_spec (sl : Value) (l : List Ver) (n : Int) (w : World) (hl : Rd w 40 4 sl (vrows l)) (hs : l.length ≤ 1000000) :
    Sp P 57 [sl, .int .i64 n] w fun v w' => Ow w' w.heap.size 40 4 v (vrows (cleanV l n)) ∧ Gr w w' := by
  obtain ⟨A, c, rfl⟩ := hl.form
  rw [vrows_len] at hl ⊢
  refine vc_sautoirref09_Clean (post fun R hR => ?_)
  unfold VC_sautoirref09_Clean
  refine (ref09_Read_spec _ l n _ hl hs).mono ?_
  rintro v w2 ⟨rfl, hg2⟩
  have hcl : cleanV l n = l.filter fun x => !(readV l n).2 || decide ((readV l n).1.at_ ≤ x.at_) := rfl
  rw [hcl] at hR
  generalize (readV l n).1 = u at hR ⊢
  generalize (readV l n).2 = ok at hR ⊢
  simp only [go_sem]
  have hw0 : Gr w (w2.alloc (.cells u.cs.toArray 40)) := hg2.alloc _
  refine loop2 (fun x y w1 => ∃ k : Nat, y = .int .i64 k ∧ k ≤ l.length ∧ Gr w w1 ∧ w1.cell? ⟨w2.heap.size, 0, none⟩ = some (.int .i64 u.at_) ∧ Ow w1 w.heap.size 40 4 x (vrows ((l.take k).filter fun x => !ok || decide (u.at_ ≤ x.at_))) ∧ w2.heap.size ∉ bl x) (fun x y w1 => match y with | .int _ k => (l.length - k).toNat | _ => 0) ⟨0, rfl, by omega, hw0, by simp only [go_sem], Ow.nil _ _ _ _, by simp [bl]⟩ ?_
  rintro m1 w1 H ⟨k, hk, hle, hg, hu, ho, hbn⟩ hH
  rw [hk] at hH ⊢
  simp only [go_sem]
  by_cases hlt : (k : Int) < l.length
  · have hkl : k < l.length := by omega
    simp only [hlt, go_sem]
    have hen := filter_snoc (fun x : Ver => !ok || decide (u.at_ ≤ x.at_)) (l.take k) l[k]
    rw [← take_succ hkl] at hen
    refine Join.intro (fun x w3 => Gr w w3 ∧ w3.cell? ⟨w2.heap.size, 0, none⟩ = some (.int .i64 u.at_) ∧ Ow w3 w.heap.size 40 4 x (vrows ((l.take (k + 1)).filter fun x => !ok || decide (u.at_ ≤ x.at_))) ∧ w2.heap.size ∉ bl x) ?_ ?_
    · intro K hK
      refine vrd_index (hl.gr hg) Try.underlying34 sz40 k hkl ?_
      intro b o hb e0 e1 e2 e3
      simp only [go_sem, e0, e1, e2, e3]
      have hyes : (!ok || decide (u.at_ ≤ l[k].at_)) = true → RunV P (appS #[34, 34] 34 #[m1 7, .slice (some ⟨(w1.alloc (.cells l[k].cs.toArray 40)).heap.size, 0, none⟩) 1 1]) ((w1.alloc (.cells l[k].cs.toArray 40)).alloc (.cells l[k].cs.toArray 40)) K := by
        intro hc
        have ho2 := ho.alloc (.cells l[k].cs.toArray 40)
        have hle2 : ((l.take k).filter fun x => !ok || decide (u.at_ ≤ x.at_)).length ≤ 1000000 := Nat.le_trans (List.length_filter_le _ _) (by simp; omega)
        have hsz := hg.size
        refine append_rd (base := w.heap.size) Try.underlying34 inf40 rfl (by omega) (ho2.alloc _) ((Ow.lit _ 40 4 l[k].cs [l[k].cs] (by simp [Ver.cs]) (by simp) (by simp)).rd) (vrows_one [l[k]]) (by rw [vrows_len]; simp only [List.length_cons, List.length_nil]; omega) (by rw [vrows_len]; simp only [List.length_cons, List.length_nil]; omega) (by simp only [go_sem]; omega) ?_
        intro v' w' hv hf hloc
        refine hK _ _ ⟨((hg.alloc _).alloc _).own hf fun b hb => (ho.lt b hb).1, cell_fr (cell_alloc (cell_alloc hu _) _) hf hbn, ?_, ?_⟩
        · rw [hen, if_pos hc, vrows_app]
          exact hv
        · have hlu := cell_lt hu
          rcases hloc with h | h <;> rw [h]
          · exact hbn
          · simp only [List.mem_singleton, go_sem]; omega
      have hno : (!ok || decide (u.at_ ≤ l[k].at_)) = false → K (m1 7) (w1.alloc (.cells l[k].cs.toArray 40)) := by
        intro hc
        refine hK _ _ ⟨hg.alloc _, cell_alloc hu _, ?_, hbn⟩
        rw [hen, hc]
        exact ho.alloc _
      have hu1 := cell_alloc hu (.cells l[k].cs.toArray 40)
      simp only [go_sem] at hyes hno
      have hu2 : (w1.alloc (.cells #[.int .i64 l[k].at_, .int .u64 l[k].num, .string l[k].val, .bool l[k].gone] 40)).cell? ⟨w2.heap.size, 0, none⟩ = some (.int .i64 u.at_) := hu1
      cases ok
      · simp only [go_sem]
        exact hyes rfl
      · cases hc : decide (u.at_ ≤ l[k].at_)
        · simp only [go_sem, hu2, hc]
          exact hno hc
        · simp only [go_sem, hu2, hc]
          exact hyes hc
    · rintro x w3 ⟨hg3, hu3, ho3, hbn3⟩
      rw [wrap_i64 _ (by omega) (by omega)]
      exact hH _ _ _ ⟨k + 1, by simp, by omega, hg3, hu3, ho3, hbn3⟩ (by simp only; omega)
  · simp only [hlt, go_sem]
    have : k = l.length := by omega
    subst this
    rw [List.take_length] at ho
    exact hR _ _ ⟨ho, hg⟩
end Go.Proofs.Ytbjakblkppnieaa
