/- The model of layers 8 to 10: keys, versions, spaces. No program in it. -/
import Derived.Test.YtbjakblkppnieaaL2
set_option linter.unusedVariables false
namespace Go.Proofs.Ytbjakblkppnieaa
open Go

/-! keys -/
def sgn (c : Int) : Bool := (decide (97 ≤ c) && decide (c ≤ 122)) || ((decide (48 ≤ c) && decide (c ≤ 57)) || decide (c = 95))
def sgns (s : ByteArray) (n : Nat) : Bool := (List.range n).all fun i => sgn (sb s i).toNat
theorem sgns_succ (s : ByteArray) (n : Nat) : sgns s (n + 1) = (sgns s n && sgn (sb s n).toNat) := by simp [sgns, List.range_succ]
theorem sgns_false {s : ByteArray} {n m : Nat} (h : sgns s n = false) (hm : n ≤ m) : sgns s m = false := by
  obtain ⟨x, hx, hb⟩ := List.all_eq_false.1 h
  refine List.all_eq_false.2 ⟨x, ?_, hb⟩
  simp at hx ⊢
  omega
/-- May it be a key? -/
def keyOk (s : ByteArray) : Bool := decide (1 ≤ s.size) && (decide (s.size ≤ 32) && sgns s s.size)
/-- May it be a value? -/
def valOk (s : ByteArray) : Bool := decide (s.size ≤ 64) && sgns s s.size
def emp : ByteArray := ⟨#[]⟩
theorem emp_iff (s : ByteArray) : s = ⟨#[]⟩ ↔ s.size = 0 := by
  constructor
  · rintro rfl; rfl
  · intro h
    cases s with
    | mk d => congr 1; exact Array.eq_empty_of_size_eq_zero h

/-! versions -/
structure Ver where
  at_ : Int
  num : Int
  val : ByteArray
  gone : Bool
  deriving DecidableEq
def Ver.cs (v : Ver) : List Value := [.int .i64 v.at_, .int .u64 v.num, .string v.val, .bool v.gone]
def Ver.v (v : Ver) : Value := .agg #[.int .i64 v.at_, .int .u64 v.num, .string v.val, .bool v.gone]
attribute [go_sem] Ver.v
def Ver.zero : Ver := ⟨0, 0, ⟨#[]⟩, false⟩
def mayV (val : ByteArray) (gone : Bool) : Bool := bif gone then decide (val = ⟨#[]⟩) else valOk val
/-- The rows of versions in memory. -/
def vrows (l : List Ver) : List (List Value) := l.map Ver.cs
theorem vrows_len (l : List Ver) : (vrows l).length = l.length := by simp [vrows]
theorem vrows_get (l : List Ver) (i : Nat) (h : i < l.length) : (vrows l)[i]? = some (l[i]).cs := by simp [vrows, h]
theorem vrows_app (l m : List Ver) : vrows (l ++ m) = vrows l ++ vrows m := by simp [vrows]
theorem vrows_one (l : List Ver) : ∀ r ∈ vrows l, ∀ u ∈ r, u.oneCell' = true := by
  intro r hr u hu
  simp only [vrows, List.mem_map] at hr
  obtain ⟨v, _, rfl⟩ := hr
  simp only [Ver.cs, List.mem_cons, List.not_mem_nil, or_false] at hu
  rcases hu with rfl | rfl | rfl | rfl <;> rfl
theorem vrd_index {P : Program} {K : Value → Prop} {w : World} {e t : TypeId} {v : Value} {l : List Ver} (h : Rd w e 4 v (vrows l)) (hu : P.underlying t = some (.slice e)) (hs : Vc.sizeT P e = some 4) {kd : IntKind} (i : Nat) (hi : i < l.length)
    (hk : ∀ b o, b < w.heap.size → w.cell? ⟨b, o, none⟩ = some (.int .i64 l[i].at_) → w.cell? ⟨b, o + 1, none⟩ = some (.int .u64 l[i].num) → w.cell? ⟨b, o + 2, none⟩ = some (.string l[i].val) → w.cell? ⟨b, o + 3, none⟩ = some (.bool l[i].gone) → K (ptr b o)) :
    Vc.PureV P (Vc.iaddrS t v (.int kd i)) K := by
  refine h.index hu hs i (by omega) (by rw [vrows_len]; omega) fun b o hb hc => ?_
  simp only [Int.toNat_natCast, vrows_get l i hi, Option.bind_some, Ver.cs] at hc
  exact hk b o hb (hc 0 (by omega)) (hc 1 (by omega)) (hc 2 (by omega)) (hc 3 (by omega))
/-- An object: its versions rise by At, and by one by Num. -/
structure RightO (l : List Ver) : Prop where
  each : ∀ v ∈ l, 1 ≤ v.at_ ∧ v.at_ ≤ 9223372036854775807 ∧ 1 ≤ v.num ∧ v.num ≤ 18446744073709551615 ∧ mayV v.val v.gone = true ∧ v.val.size ≤ 64
  rise : ∀ i (h : i + 1 < l.length), l[i].at_ < l[i + 1].at_ ∧ l[i + 1].num = l[i].num + 1
/-- Without those later than n. -/
def undoV (l : List Ver) (n : Int) : List Ver := l.filter fun v => decide (v.at_ ≤ n)
/-- How many are not later. -/
def cntV (l : List Ver) (n : Int) : Nat := (undoV l n).length
def readV (l : List Ver) (n : Int) : Ver × Bool := match (undoV l n).getLast? with | some v => (v, true) | none => (Ver.zero, false)
def cleanV (l : List Ver) (n : Int) : List Ver := l.filter fun x => !(readV l n).2 || decide ((readV l n).1.at_ ≤ x.at_)
theorem RightO.nil : RightO [] := ⟨fun v hv => by simp at hv, fun i h => by simp at h⟩
theorem RightO.tail {v : Ver} {l : List Ver} (h : RightO (v :: l)) : RightO l :=
  ⟨fun x hx => h.each x (by simp [hx]), fun i hi => by have := h.rise (i + 1) (by simp; omega); simpa using this⟩
theorem RightO.head_lt : ∀ {l : List Ver} {v : Ver}, RightO (v :: l) → ∀ x ∈ l, v.at_ < x.at_
  | [], v, _, x, hx => by simp at hx
  | y :: l, v, h, x, hx => by
    have h0 := (h.rise 0 (by simp)).1
    simp only [List.getElem_cons_zero, List.getElem_cons_succ] at h0
    rcases List.mem_cons.1 hx with rfl | hx
    · exact h0
    · have := RightO.head_lt h.tail x hx
      omega
theorem RightO.lt {l : List Ver} (h : RightO l) {i j : Nat} (hij : i < j) (hj : j < l.length) : l[i].at_ < l[j].at_ := by
  induction j with
  | zero => omega
  | succ j ih =>
    have h1 := (h.rise j hj).1
    rcases Nat.lt_or_eq_of_le (show i ≤ j by omega) with hlt | rfl
    · have := ih hlt (by omega); omega
    · exact h1
theorem undo_take : ∀ (l : List Ver) (n : Int), RightO l → undoV l n = l.take (cntV l n)
  | [], n, _ => rfl
  | v :: l, n, h => by
    have ih := undo_take l n h.tail
    by_cases hv : v.at_ ≤ n
    · simp only [cntV, undoV, List.filter_cons, hv, decide_true, if_true, List.length_cons, List.take_succ_cons]
      congr 1
    · have : undoV l n = [] := List.filter_eq_nil_iff.2 fun x hx => by have := h.head_lt x hx; simp; omega
      simp only [cntV, undoV, List.filter_cons, hv, decide_false, Bool.false_eq_true, if_false] at this ⊢
      rw [this]
      rfl
theorem cnt_le (l : List Ver) (n : Int) : cntV l n ≤ l.length := List.length_filter_le _ _
/-- The count is told by what is below and above it. -/
theorem cnt_of {l : List Ver} {n : Int} {k : Nat} (h : RightO l) (hk : k ≤ l.length) (h1 : ∀ i (hi : i < l.length), i < k → l[i].at_ ≤ n) (h2 : ∀ i (hi : i < l.length), k ≤ i → n < l[i].at_) : cntV l n = k := by
  have e1 : undoV l n = l.take k := by
    have hl : l = l.take k ++ l.drop k := (List.take_append_drop k l).symm
    conv => lhs; rw [hl]
    unfold undoV
    rw [List.filter_append]
    have a1 : (l.take k).filter (fun v => decide (v.at_ ≤ n)) = l.take k := List.filter_eq_self.2 fun x hx => by
      obtain ⟨i, hi, rfl⟩ := List.getElem_of_mem hx
      simp only [List.length_take] at hi
      simp only [List.getElem_take, decide_eq_true_eq]
      exact h1 i (by omega) (by omega)
    have a2 : (l.drop k).filter (fun v => decide (v.at_ ≤ n)) = [] := List.filter_eq_nil_iff.2 fun x hx => by
      obtain ⟨i, hi, rfl⟩ := List.getElem_of_mem hx
      simp only [List.length_drop] at hi
      simp only [List.getElem_drop, decide_eq_true_eq]
      have := h2 (k + i) (by omega) (by omega)
      omega
    rw [a1, a2, List.append_nil]
  unfold cntV
  rw [e1, List.length_take]
  omega
def lastV (l : List Ver) : Ver := l.getLastD Ver.zero
end Go.Proofs.Ytbjakblkppnieaa
