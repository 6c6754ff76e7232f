/- The model: spaces. No program in it. -/
import Derived.Test.YtbjakblkppnieaaM2
import Derived.WideAt
import Derived.WideShapes
set_option linter.unusedVariables false
namespace Go.Proofs.Ytbjakblkppnieaa
open Go

theorem less_before : ∀ a b : List UInt8, Op.bytesLess a b = bytesBefore a b
  | [], [] => rfl
  | [], _ :: _ => rfl
  | _ :: _, [] => rfl
  | a :: r, b :: s => by
    simp only [Op.bytesLess, bytesBefore, less_before r s]
theorem slt_irrefl (a : ByteArray) : slt a a = false := by unfold slt; rw [less_before]; exact WideAt.bytes_irrefl _
theorem slt_trans {a b c : ByteArray} (h1 : slt a b = true) (h2 : slt b c = true) : slt a c = true := by
  unfold slt at *
  rw [less_before] at *
  exact WideShapes.bytes_trans _ _ _ h1 h2
theorem slt_total {a b : ByteArray} (h : a ≠ b) : slt a b = true ∨ slt b a = true := by
  unfold slt
  rw [less_before, less_before]
  exact WideAt.bytes_total _ _ fun he => h ((str_inj a b).1 he)
theorem slt_asym {a b : ByteArray} (h : slt a b = true) : slt b a = false := by
  cases h2 : slt b a
  · rfl
  · have := slt_trans h h2
    rw [slt_irrefl] at this
    cases this
theorem slt_ne {a b : ByteArray} (h : slt a b = true) : a ≠ b := by
  rintro rfl
  rw [slt_irrefl] at h
  cases h
abbrev Rows := List (ByteArray × List Ver)
def Rise (S : Rows) : Prop := S.Pairwise fun p q => slt p.1 q.1 = true
def getS (S : Rows) (key : ByteArray) : List Ver := match S.find? (fun p => decide (p.1 = key)) with | some p => p.2 | none => []
theorem getS_cons (p : ByteArray × List Ver) (t : Rows) (key : ByteArray) : getS (p :: t) key = bif decide (p.1 = key) then p.2 else getS t key := by
  by_cases h : p.1 = key <;> simp [getS, h]
def delR (S : Rows) (key : ByteArray) : Rows := S.filter fun p => decide (p.1 ≠ key)
def insS (x : ByteArray × List Ver) : Rows → Rows
  | [] => [x]
  | y :: t => bif slt x.1 y.1 then x :: y :: t else y :: insS x t
def setS (S : Rows) (key : ByteArray) (l : List Ver) : Rows := bif decide (l.length = 0) then delR S key else insS (key, l) (delR S key)
/-- What the document's set does, row by row. -/
def refset (key : ByteArray) (l : List Ver) : Bool → Rows → Rows
  | d, [] => bif d then [] else [(key, l)]
  | d, r :: t => (bif !d && !slt r.1 key then [(key, l)] else []) ++ ((bif decide (r.1 = key) then [] else [r]) ++ refset key l (d || !slt r.1 key) t)
theorem delR_none {S : Rows} {key : ByteArray} (h : ∀ p ∈ S, p.1 ≠ key) : delR S key = S := List.filter_eq_self.2 fun p hp => by simpa using h p hp
theorem refset_true (key : ByteArray) (l : List Ver) : ∀ S : Rows, refset key l true S = delR S key
  | [] => rfl
  | r :: t => by
    simp only [refset, Bool.not_true, Bool.false_and, cond_false, List.nil_append, Bool.true_or, refset_true key l t, delR, List.filter_cons]
    by_cases h : r.1 = key <;> simp [h]
theorem refset_false (key : ByteArray) (l : List Ver) : ∀ S : Rows, Rise S → refset key l false S = insS (key, l) (delR S key)
  | [], _ => rfl
  | r :: t, h => by
    have ht := refset_false key l t (List.pairwise_cons.1 h).2
    have h1 := (List.pairwise_cons.1 h).1
    cases hs : slt r.1 key
    · simp only [refset, Bool.not_false, Bool.true_and, hs, cond_true, Bool.false_or, refset_true]
      by_cases he : r.1 = key
      · have hn : delR t key = t := delR_none fun p hp => by have := h1 p hp; rw [he] at this; exact (slt_ne this).symm
        have e : delR (r :: t) key = t := by rw [← hn]; simp [delR, he]
        rw [e, hn]
        simp only [he, decide_true, cond_true, List.nil_append]
        cases t with
        | nil => rfl
        | cons y u =>
          have := h1 y (by simp)
          rw [he] at this
          simp [insS, this]
      · have hlt : slt key r.1 = true := by
          rcases slt_total he with h | h
          · rw [h] at hs; cases hs
          · exact h
        have e : delR (r :: t) key = r :: delR t key := by simp [delR, he]
        rw [e]
        simp [insS, he, hlt]
    · have he : r.1 ≠ key := slt_ne hs
      have e : delR (r :: t) key = r :: delR t key := by simp [delR, he]
      rw [e]
      simp [refset, insS, he, hs, slt_asym hs, ht]
theorem refset_eq {S : Rows} (h : Rise S) (key : ByteArray) (l : List Ver) : refset key l (decide (l.length = 0)) S = setS S key l := by
  cases h0 : decide (l.length = 0)
  · rw [refset_false key l S h, setS, h0]; rfl
  · rw [refset_true, setS, h0]; rfl
theorem Rise.del {S : Rows} (h : Rise S) (key : ByteArray) : Rise (delR S key) := List.Pairwise.filter _ h
theorem mem_ins {x p : ByteArray × List Ver} : ∀ {S : Rows}, p ∈ insS x S → p = x ∨ p ∈ S
  | [], h => by simpa [insS] using h
  | y :: t, h => by
    unfold insS at h
    cases hs : slt x.1 y.1 <;> rw [hs] at h
    · rcases List.mem_cons.1 h with h | h
      · simp [h]
      · rcases mem_ins h with h | h <;> simp [h]
    · simpa using h
theorem Rise.ins {x : ByteArray × List Ver} : ∀ {S : Rows}, Rise S → (∀ p ∈ S, p.1 ≠ x.1) → Rise (insS x S)
  | [], _, _ => by simp [insS, Rise]
  | y :: t, h, hn => by
    have h1 := (List.pairwise_cons.1 h).1
    have h2 := (List.pairwise_cons.1 h).2
    unfold insS
    cases hs : slt x.1 y.1
    · refine List.pairwise_cons.2 ⟨fun p hp => ?_, Rise.ins h2 fun p hp => hn p (by simp [hp])⟩
      rcases mem_ins hp with rfl | hp
      · rcases slt_total (hn y (by simp)) with h | h
        · exact h
        · rw [h] at hs; cases hs
      · exact h1 p hp
    · refine List.pairwise_cons.2 ⟨fun p hp => ?_, h⟩
      rcases List.mem_cons.1 hp with rfl | hp
      · exact hs
      · exact slt_trans hs (h1 p hp)
theorem del_ne (S : Rows) (key : ByteArray) : ∀ p ∈ delR S key, p.1 ≠ key := fun p hp => by simpa using (List.mem_filter.1 hp).2
theorem Rise.set {S : Rows} (h : Rise S) (key : ByteArray) (l : List Ver) : Rise (setS S key l) := by
  unfold setS
  cases decide (l.length = 0)
  · exact (h.del key).ins (del_ne S key)
  · exact h.del key
theorem getS_ins {x : ByteArray × List Ver} {k : ByteArray} : ∀ {S : Rows}, (∀ p ∈ S, p.1 ≠ x.1) → getS (insS x S) k = bif decide (x.1 = k) then x.2 else getS S k
  | [], _ => by
    by_cases h : x.1 = k <;> simp [insS, getS, h]
  | y :: t, hn => by
    have ih := getS_ins (k := k) (S := t) fun p hp => hn p (by simp [hp])
    unfold insS
    cases slt x.1 y.1
    · by_cases hy : y.1 = k
      · have hx : x.1 ≠ k := fun h => hn y (by simp) (hy.trans h.symm)
        simp [getS, hy, hx]
      · simpa [getS, hy] using ih
    · by_cases h : x.1 = k <;> simp [getS, h]
theorem getS_del (S : Rows) (key k : ByteArray) : getS (delR S key) k = bif decide (key = k) then [] else getS S k := by
  induction S with
  | nil => by_cases h : key = k <;> simp [delR, getS, h]
  | cons y t ih =>
    by_cases hy : y.1 = key
    · have e : delR (y :: t) key = delR t key := by simp [delR, hy]
      rw [e, ih]
      by_cases h : key = k
      · simp [h]
      · have : y.1 ≠ k := fun hh => h (hy.symm.trans hh)
        simp [h, getS, this]
    · have e : delR (y :: t) key = y :: delR t key := by simp [delR, hy]
      rw [e]
      by_cases h : y.1 = k
      · have : key ≠ k := fun hh => hy (h.trans hh.symm)
        simp [getS, h, this]
      · have e1 : getS (y :: delR t key) k = getS (delR t key) k := by simp [getS, h]
        have e2 : getS (y :: t) k = getS t k := by simp [getS, h]
        rw [e1, e2, ih]
theorem getS_set (S : Rows) (key k : ByteArray) (l : List Ver) : getS (setS S key l) k = bif decide (key = k) then l else getS S k := by
  unfold setS
  cases h0 : decide (l.length = 0)
  · simp only [cond_false]
    rw [getS_ins (del_ne S key), getS_del]
    by_cases h : key = k <;> simp [h]
  · have : l = [] := List.eq_nil_of_length_eq_zero (of_decide_eq_true h0)
    subst this
    simp only [cond_true]
    rw [getS_del]
theorem getS_mem_eq {S : Rows} (h : Rise S) {p : ByteArray × List Ver} (hp : p ∈ S) : getS S p.1 = p.2 := by
  induction S with
  | nil => simp at hp
  | cons y t ih =>
    rw [getS_cons]
    rcases List.mem_cons.1 hp with rfl | hp
    · simp
    · have := (List.pairwise_cons.1 h).1 p hp
      have hne := slt_ne this
      simp only [hne, decide_false, cond_false]
      exact ih (List.pairwise_cons.1 h).2 hp
/-! every object turned -/
def oneS (p : ByteArray × List Ver) (l : List Ver) : Rows := bif decide (l.length = 0) then [] else [(p.1, l)]
def turnS (f : List Ver → List Ver) : Rows → Rows
  | [] => []
  | p :: t => oneS p (f p.2) ++ turnS f t
theorem ins_mid (x : ByteArray × List Ver) : ∀ A B : Rows, (∀ p ∈ A, slt p.1 x.1 = true) → (∀ p ∈ B, slt x.1 p.1 = true) → insS x (A ++ B) = A ++ x :: B
  | [], [], _, _ => rfl
  | [], y :: t, _, hB => by simp [insS, hB y (by simp)]
  | a :: A, B, hA, hB => by
    have := ins_mid x A B (fun p hp => hA p (by simp [hp])) hB
    simp [insS, slt_asym (hA a (by simp)), this]
theorem set_mid {A B : Rows} {p : ByteArray × List Ver} (h : Rise (A ++ p :: B)) (l : List Ver) : setS (A ++ p :: B) p.1 l = A ++ (oneS p l ++ B) := by
  have h1 := List.pairwise_append.1 h
  have hA : ∀ q ∈ A, slt q.1 p.1 = true := fun q hq => h1.2.2 q hq p (by simp)
  have hB : ∀ q ∈ B, slt p.1 q.1 = true := (List.pairwise_cons.1 h1.2.1).1
  have hd : delR (A ++ p :: B) p.1 = A ++ B := by
    have e1 := delR_none (S := A) (key := p.1) fun q hq => slt_ne (hA q hq)
    have e2 := delR_none (S := B) (key := p.1) fun q hq => (slt_ne (hB q hq)).symm
    unfold delR at *
    rw [List.filter_append, List.filter_cons, e1, e2]
    simp
  unfold setS oneS
  cases decide (l.length = 0)
  · simp only [cond_false]
    rw [hd, ins_mid (p.1, l) A B hA hB]
    simp
  · simp only [cond_true]
    rw [hd]
    rfl
theorem turn_app (f : List Ver → List Ver) : ∀ A B : Rows, turnS f (A ++ B) = turnS f A ++ turnS f B
  | [], B => rfl
  | a :: A, B => by simp [turnS, turn_app f A B]
theorem mem_turn {f : List Ver → List Ver} {q : ByteArray × List Ver} : ∀ {S : Rows}, q ∈ turnS f S → ∃ p ∈ S, q = (p.1, f p.2) ∧ (f p.2).length ≠ 0
  | p :: t, h => by
    simp only [turnS, List.mem_append] at h
    rcases h with h | h
    · unfold oneS at h
      by_cases h0 : (f p.2).length = 0
      · simp [h0] at h
      · simp only [h0, decide_false, cond_false, List.mem_singleton] at h
        exact ⟨p, by simp, h, h0⟩
    · obtain ⟨r, hr, he⟩ := mem_turn h
      exact ⟨r, by simp [hr], he⟩
theorem Rise.turn {f : List Ver → List Ver} : ∀ {S : Rows}, Rise S → Rise (turnS f S)
  | [], _ => by simp [turnS, Rise]
  | p :: t, h => by
    have h1 := (List.pairwise_cons.1 h).1
    have h2 := Rise.turn (f := f) (List.pairwise_cons.1 h).2
    simp only [turnS, oneS]
    cases decide ((f p.2).length = 0)
    · refine List.pairwise_cons.2 ⟨fun q hq => ?_, h2⟩
      obtain ⟨r, hr, rfl, _⟩ := mem_turn hq
      exact h1 r hr
    · exact h2
/-- One step of the turning. -/
theorem turn_step {f : List Ver → List Ver} {S : Rows} (h : Rise S) {k : Nat} (hk : k < S.length) : setS (turnS f (S.take k) ++ S.drop k) S[k].1 (f S[k].2) = turnS f (S.take (k + 1)) ++ S.drop (k + 1) := by
  have hd : S.drop k = S[k] :: S.drop (k + 1) := List.drop_eq_getElem_cons hk
  have hS : S = S.take k ++ S.drop k := (List.take_append_drop k S).symm
  have h1 : Rise (S.take k ++ S.drop k) := by rw [← hS]; exact h
  have h2 := List.pairwise_append.1 h1
  have hr : Rise (turnS f (S.take k) ++ S[k] :: S.drop (k + 1)) := by
    rw [← hd]
    refine List.pairwise_append.2 ⟨Rise.turn h2.1, h2.2.1, fun a ha b hb => ?_⟩
    obtain ⟨r, hr, rfl, _⟩ := mem_turn ha
    exact h2.2.2 r hr b hb
  rw [hd, set_mid hr, take_succ hk, turn_app]
  simp [turnS]
theorem turn_len (f : List Ver → List Ver) : ∀ S : Rows, (turnS f S).length ≤ S.length
  | [] => by simp [turnS]
  | p :: t => by
    have := turn_len f t
    simp only [turnS, List.length_append, List.length_cons, oneS]
    cases decide ((f p.2).length = 0) <;> simp <;> omega
theorem getS_turn {f : List Ver → List Ver} (hf : f [] = []) (k : ByteArray) : ∀ S : Rows, Rise S → getS (turnS f S) k = f (getS S k)
  | [], _ => by simp [turnS, getS, hf]
  | p :: t, h => by
    have ih := getS_turn hf k t (List.pairwise_cons.1 h).2
    have h1 := (List.pairwise_cons.1 h).1
    rw [getS_cons]
    simp only [turnS, oneS]
    by_cases h0 : (f p.2).length = 0
    · simp only [h0, decide_true, cond_true, List.nil_append, ih]
      by_cases hk : p.1 = k
      · have hnil : f p.2 = [] := List.eq_nil_of_length_eq_zero h0
        have hn : getS t k = [] := by
          unfold getS
          have : t.find? (fun q => decide (q.1 = k)) = none := List.find?_eq_none.2 fun q hq => by
            have := slt_ne (h1 q hq)
            rw [hk] at this
            simpa using this.symm
          rw [this]
        simp [hk, hn, hnil, hf]
      · simp [hk]
    · simp only [h0, decide_false, cond_false, List.cons_append, List.nil_append, getS_cons, ih]
      by_cases hk : p.1 = k <;> simp [hk]
end Go.Proofs.Ytbjakblkppnieaa
