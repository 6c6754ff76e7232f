/- The model: objects, further. No program in it. -/
import Derived.Test.YtbjakblkppnieaaM1
set_option linter.unusedVariables false
namespace Go.Proofs.Ytbjakblkppnieaa
open Go

theorem RightO.take {l : List Ver} (h : RightO l) (k : Nat) : RightO (l.take k) :=
  ⟨fun v hv => h.each v (List.mem_of_mem_take hv), fun i hi => by
    simp only [List.length_take] at hi
    simpa using h.rise i (by omega)⟩
theorem RightO.drop {l : List Ver} (h : RightO l) (k : Nat) : RightO (l.drop k) :=
  ⟨fun v hv => h.each v (List.mem_of_mem_drop hv), fun i hi => by
    simp only [List.length_drop] at hi
    have := h.rise (k + i) (by omega)
    simpa [Nat.add_assoc] using this⟩
theorem RightO.undo {l : List Ver} (h : RightO l) (n : Int) : RightO (undoV l n) := by rw [undo_take l n h]; exact h.take _
theorem readV_none {l : List Ver} {n : Int} (h : RightO l) (h0 : cntV l n = 0) : readV l n = (Ver.zero, false) := by
  unfold readV
  rw [undo_take l n h, h0]
  rfl
theorem readV_some {l : List Ver} {n : Int} (h : RightO l) (h0 : cntV l n ≠ 0) : readV l n = (l[cntV l n - 1]'(by have := cnt_le l n; omega), true) := by
  have := cnt_le l n
  unfold readV
  rw [undo_take l n h, List.getLast?_eq_getElem?, List.length_take, Nat.min_eq_left this, List.getElem?_take_of_lt (by omega), List.getElem?_eq_getElem (by omega)]
theorem clean_drop {l : List Ver} {n : Int} (h : RightO l) : cleanV l n = l.drop (cntV l n - 1) := by
  unfold cleanV
  by_cases h0 : cntV l n = 0
  · rw [readV_none h h0, h0]
    simp
  · rw [readV_some h h0]
    have hc := cnt_le l n
    simp only [Bool.not_true, Bool.false_or]
    have hk0 : cntV l n - 1 < l.length := by omega
    suffices H : ∀ k (hk : k < l.length), l.filter (fun x => decide (l[k].at_ ≤ x.at_)) = l.drop k from H _ hk0
    intro k hk
    generalize hm : l[k].at_ = m
    have hl : l = l.take k ++ l.drop k := (List.take_append_drop k l).symm
    conv => lhs; rw [hl]
    rw [List.filter_append]
    have a1 : (l.take k).filter (fun v => decide (m ≤ v.at_)) = [] := List.filter_eq_nil_iff.2 fun x hx => by
      obtain ⟨i, hi, rfl⟩ := List.getElem_of_mem hx
      simp only [List.length_take] at hi
      simp only [List.getElem_take, decide_eq_true_eq]
      have := h.lt (show i < k by omega) hk
      omega
    have a2 : (l.drop k).filter (fun v => decide (m ≤ v.at_)) = l.drop k := List.filter_eq_self.2 fun x hx => by
      obtain ⟨i, hi, rfl⟩ := List.getElem_of_mem hx
      simp only [List.length_drop] at hi
      simp only [List.getElem_drop, decide_eq_true_eq]
      rcases Nat.eq_zero_or_pos i with rfl | hp
      · simp [hm]
      · have := h.lt (show k < k + i by omega) (by omega)
        omega
    simp only [a1, a2, List.nil_append]
theorem RightO.clean {l : List Ver} (h : RightO l) (n : Int) : RightO (cleanV l n) := by rw [clean_drop h]; exact h.drop _
/-- May this be put? -/
def putOk (l : List Ver) (a : Int) (s : ByteArray) (g : Bool) : Bool := decide (1 ≤ a) && (decide ((lastV l).at_ < a) && mayV s g)
def putV (l : List Ver) (a : Int) (s : ByteArray) (g : Bool) : List Ver := l ++ [⟨a, (lastV l).num + 1, s, g⟩]
theorem lastV_eq {l : List Ver} (h : l.length ≠ 0) : lastV l = l[l.length - 1]'(by omega) := by
  rw [lastV, List.getLastD_eq_getLast?, List.getLast?_eq_getElem?, List.getElem?_eq_getElem (by omega)]
  rfl
theorem lastV_le {l : List Ver} (h : RightO l) : 0 ≤ (lastV l).at_ ∧ (lastV l).at_ ≤ 9223372036854775807 ∧ 0 ≤ (lastV l).num ∧ (lastV l).num ≤ 18446744073709551615 := by
  by_cases h0 : l.length = 0
  · have : l = [] := List.eq_nil_of_length_eq_zero h0
    subst this
    simp [lastV, Ver.zero]
  · rw [lastV_eq h0]
    have := h.each _ (List.getElem_mem (show l.length - 1 < l.length by omega))
    omega
theorem mayV_size {s : ByteArray} {g : Bool} (h : mayV s g = true) : s.size ≤ 64 := by
  cases g
  · simp only [mayV, cond_false, valOk, Bool.and_eq_true, decide_eq_true_eq] at h
    exact h.1
  · simp only [mayV, cond_true, decide_eq_true_eq] at h
    subst h
    show (0 : Nat) ≤ 64
    omega
theorem RightO.put {l : List Ver} (h : RightO l) {a : Int} {s : ByteArray} {g : Bool} (ho : putOk l a s g = true) (ha : a ≤ 9223372036854775807) (hn : (lastV l).num < 18446744073709551615) : RightO (putV l a s g) := by
  simp only [putOk, Bool.and_eq_true, decide_eq_true_eq] at ho
  obtain ⟨h1, h2, h3⟩ := ho
  have hle := lastV_le h
  refine ⟨fun v hv => ?_, fun i hi => ?_⟩
  · rcases List.mem_append.1 hv with hv | hv
    · exact h.each v hv
    · simp only [List.mem_singleton] at hv
      subst hv
      exact ⟨h1, ha, by simp only; omega, by simp only; omega, h3, mayV_size h3⟩
  · simp only [putV, List.length_append, List.length_cons, List.length_nil] at hi
    by_cases hlt : i + 1 < l.length
    · have := h.rise i hlt
      simp only [putV]
      rw [List.getElem_append_left (by omega), List.getElem_append_left (by omega)]
      exact this
    · have hi' : i + 1 = l.length := by omega
      simp only [putV]
      rw [List.getElem_append_left (by omega), List.getElem_append_right (by omega)]
      have hlast := lastV_eq (l := l) (by omega)
      have e : l.length - 1 = i := by omega
      simp only [e] at hlast
      simp only [hi', Nat.sub_self, List.getElem_cons_zero]
      rw [← hlast]
      exact ⟨h2, rfl⟩
/-! rows of texts -/
def srows (l : List ByteArray) : List (List Value) := l.map fun s => [.string s]
theorem srows_len (l : List ByteArray) : (srows l).length = l.length := by simp [srows]
theorem srows_app (l m : List ByteArray) : srows (l ++ m) = srows l ++ srows m := by simp [srows]
theorem srows_one (l : List ByteArray) : ∀ r ∈ srows l, ∀ u ∈ r, u.oneCell' = true := by
  intro r hr u hu
  simp only [srows, List.mem_map] at hr
  obtain ⟨v, _, rfl⟩ := hr
  simp only [List.mem_singleton] at hu
  subst hu
  rfl
theorem srd_index {P : Program} {K : Value → Prop} {w : World} {e t : TypeId} {v : Value} {l : List ByteArray} (h : Rd w e 1 v (srows l)) (hu : P.underlying t = some (.slice e)) (hs : Vc.sizeT P e = some 1) {kd : IntKind} (i : Nat) (hi : i < l.length)
    (hk : ∀ b o, b < w.heap.size → w.cell? ⟨b, o, none⟩ = some (.string l[i]) → K (ptr b o)) :
    Vc.PureV P (Vc.iaddrS t v (.int kd i)) K := by
  refine h.index hu hs i (by omega) (by rw [srows_len]; omega) fun b o hb hc => ?_
  have hg : (srows l)[i]? = some [.string l[i]] := by simp [srows, hi]
  simp only [Int.toNat_natCast, hg, Option.bind_some] at hc
  exact hk b o hb (hc 0 (by omega))
theorem take_succ {α : Type} {l : List α} {k : Nat} (h : k < l.length) : l.take (k + 1) = l.take k ++ [l[k]] := by rw [List.take_add_one, List.getElem?_eq_getElem h]; rfl
theorem eq_of_all {α : Type} {l m : List α} (hl : l.length = m.length) (h : ∀ i (h1 : i < l.length) (h2 : i < m.length), l[i] = m[i]) : l = m := List.ext_getElem hl fun i h1 h2 => h i h1 h2
theorem ver_dec (v u : Ver) : (decide (v.at_ = u.at_) && (decide (v.num = u.num) && (decide (v.val = u.val) && (decide (v.gone = u.gone) && true)))) = decide (v = u) := by
  cases v; cases u
  simp [Bool.decide_and]
end Go.Proofs.Ytbjakblkppnieaa
