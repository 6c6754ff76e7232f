/- Maps in memory that stand for rows. -/
import Derived.Test.YtbjakblkppnieaaM3
import Derived.Maps.OwnSet
import Derived.Sort.KeysCollected
import Derived.Carry
set_option linter.unusedVariables false
set_option linter.unusedSimpArgs false
namespace Go.Proofs.Ytbjakblkppnieaa
open Go Vc

/-- A row in memory: its key, its slice, what that holds. -/
structure XR where
  k : ByteArray
  s : Value
  l : List Ver
def XR.r (x : XR) : ByteArray × List Ver := (x.k, x.l)
def dv (y : XR) : Lit × DataW Value := (.string y.k.data.toList, .held (.agg #[y.s]))
def mapD (ys : List XR) : DataW Value := .map (ys.map dv)
def RR (v : Value) : Option (DataW Value × List MemPlace) := some (.held v, [])
def nilS0 : Value := .slice none 0 0
def lookX (ys : List XR) (key : ByteArray) : XR := match ys.find? (fun y => decide (y.k = key)) with | some y => y | none => ⟨key, nilS0, []⟩
def delX (ys : List XR) (key : ByteArray) : List XR := ys.filter fun y => decide (y.k ≠ key)
def insX (x : XR) : List XR → List XR
  | [] => [x]
  | y :: t => bif slt x.k y.k then x :: y :: t else y :: insX x t
theorem key_inj {a b : ByteArray} : a.data.toList = b.data.toList ↔ a = b := by
  rw [← ByteArray.toList_eq, ← ByteArray.toList_eq]
  exact str_inj a b
theorem same_key (a b : ByteArray) : (Lit.string a.data.toList).sameKey (.string b.data.toList) = decide (a = b) := by
  simp only [Lit.sameKey, Bool.beq_eq_decide_eq]
  exact decide_eq_decide.2 key_inj
theorem before_key (a b : ByteArray) : (Lit.string a.data.toList).before (.string b.data.toList) = slt a b := by
  simp only [Lit.before, slt, less_before, ByteArray.toList_eq]
theorem atKey_mapD (key : ByteArray) : ∀ ys : List XR, (mapD ys).atKey (.string key.data.toList) (.held (.agg #[nilS0])) = .held (.agg #[(lookX ys key).s])
  | [] => rfl
  | y :: t => by
    have ih := atKey_mapD key t
    simp only [mapD, DataW.atKey, lookX, List.map_cons, List.find?_cons, dv, same_key] at ih ⊢
    by_cases h : y.k = key
    · simp [h]
    · simpa [h] using ih
theorem del_mapD (key : ByteArray) (ys : List XR) : (mapD ys).del (.string key.data.toList) = mapD (delX ys key) := by
  simp only [mapD, DataW.del, delX, List.filter_map]
  congr 2
  refine List.filter_congr fun y hy => ?_
  simp only [Function.comp_def, dv, same_key]
  by_cases h : y.k = key <;> simp [h]
theorem ins_mapD (x : XR) : ∀ ys : List XR, DataW.insert (dv x) (ys.map dv) = (insX x ys).map dv
  | [] => rfl
  | y :: t => by
    simp only [List.map_cons, DataW.insert, insX]
    have : (dv x).1.before (dv y).1 = slt x.k y.k := before_key _ _
    rw [this]
    cases slt x.k y.k <;> simp [ins_mapD x t]
theorem put_mapD (key : ByteArray) (s : Value) (l : List Ver) (ys : List XR) : (mapD ys).put (.string key.data.toList) (.held (.agg #[s])) = mapD (insX ⟨key, s, l⟩ (delX ys key)) := by
  have h := del_mapD key ys
  simp only [mapD, DataW.del] at h
  injection h with h
  simp only [mapD, DataW.put, h]
  congr 1
  exact ins_mapD ⟨key, s, l⟩ (delX ys key)
theorem insX_r (x : XR) : ∀ ys : List XR, (insX x ys).map XR.r = insS x.r (ys.map XR.r)
  | [] => rfl
  | y :: t => by
    have ih := insX_r x t
    simp only [insX, List.map_cons, insS, XR.r] at ih ⊢
    cases slt x.k y.k
    · simp only [cond_false, List.map_cons, ih]; rfl
    · rfl
theorem delX_r (ys : List XR) (key : ByteArray) : (delX ys key).map XR.r = delR (ys.map XR.r) key := by
  simp only [delX, delR, List.filter_map]
  rfl
theorem lookX_l (ys : List XR) (key : ByteArray) : (lookX ys key).l = getS (ys.map XR.r) key := by
  induction ys with
  | nil => rfl
  | cons y t ih =>
    rw [List.map_cons, getS_cons, ← ih]
    by_cases h : y.k = key <;> simp [lookX, XR.r, h]
theorem lookX_mem (ys : List XR) (key : ByteArray) : lookX ys key ∈ ys ∨ lookX ys key = ⟨key, nilS0, []⟩ := by
  unfold lookX
  cases h : ys.find? (fun y => decide (y.k = key)) with
  | none => exact .inr rfl
  | some y => exact .inl (List.mem_of_find?_eq_some h)
theorem mem_insX {x p : XR} : ∀ {ys : List XR}, p ∈ insX x ys → p = x ∨ p ∈ ys
  | [], h => by simpa [insX] using h
  | y :: t, h => by
    unfold insX at h
    cases hs : slt x.k y.k <;> rw [hs] at h
    · rcases List.mem_cons.1 h with h | h
      · simp [h]
      · rcases mem_insX h with h | h <;> simp [h]
    · simpa using h
theorem len_insX (x : XR) : ∀ ys : List XR, (insX x ys).length = ys.length + 1
  | [] => rfl
  | y :: t => by
    unfold insX
    cases slt x.k y.k <;> simp [len_insX x t]
/-- The bound is the number of entries. -/
theorem own_tight {w : World} {P : Program} {k b n : Nat} {ys : List XR} (h : w.ownsMap P k RR b n (mapD ys)) : w.ownsMap P k RR b ys.length (mapD ys) := by
  obtain ⟨es, clock, hb, F, hs, hD⟩ := h
  refine ⟨es, clock, hb, F, ?_, hD⟩
  injection hD with hD
  have := congrArg List.length hD
  rw [length_read] at this
  simp at this
  omega
/-! the keys, sorted -/
theorem before_lt : ∀ a b : List UInt8, bytesBefore a b = true → a < b
  | [], [], h => by simp [bytesBefore] at h
  | [], _ :: _, _ => by simp
  | _ :: _, [], h => by simp [bytesBefore] at h
  | a :: r, b :: s, h => by
    simp only [bytesBefore, Bool.or_eq_true, decide_eq_true_eq, Bool.and_eq_true, beq_iff_eq] at h
    rw [List.cons_lt_cons_iff]
    rcases h with h | ⟨rfl, h⟩
    · exact .inl h
    · exact .inr ⟨rfl, before_lt r s h⟩
theorem keys_mapD (ys : List XR) : strKeys (mapD ys) = ys.map fun y => y.k.data.toList := by
  simp only [strKeys, mapD, List.map_map]
  rfl
theorem sorted_keys {ys : List XR} (h : Rise (ys.map XR.r)) {ss : List (List UInt8)} (hp : ss.Perm (strKeys (mapD ys))) : ss.mergeSort (fun x y => decide (x ≤ y)) = ys.map fun y => y.k.data.toList := by
  rw [keys_mapD] at hp
  have h1 : (ss.mergeSort (fun x y => decide (x ≤ y))).Perm (ys.map fun y => y.k.data.toList) := (List.mergeSort_perm _ _).trans hp
  have h2 : (ss.mergeSort (fun x y => decide (x ≤ y))).Pairwise (fun x y => x ≤ y) := by
    have := List.pairwise_mergeSort (le := fun x y : List UInt8 => decide (x ≤ y)) (fun a b c hab hbc => by simp only [decide_eq_true_eq] at *; exact List.le_trans hab hbc) (fun a b => by simp only [Bool.or_eq_true, decide_eq_true_eq]; exact List.le_total a b) ss
    exact this.imp fun h => by simpa using h
  have h3 : (ys.map fun y => y.k.data.toList).Pairwise (fun x y => x ≤ y) := by
    unfold Rise at h
    rw [List.pairwise_map] at h ⊢
    refine h.imp fun {a b} hab => ?_
    have : slt a.k b.k = true := hab
    rw [slt, less_before, ByteArray.toList_eq, ByteArray.toList_eq] at this
    exact List.le_of_lt (before_lt _ _ this)
  exact h1.eq_of_pairwise (fun a b _ _ hab hba => List.le_antisymm hab hba) h2 h3
end Go.Proofs.Ytbjakblkppnieaa
