/- A schedule that takes the readers first is sound for every order that the edges allow. -/
import Derived.Test.YtbjakblkppnieaaVc3
set_option linter.unusedVariables false
set_option linter.unusedSimpArgs false
namespace Go.Proofs.Ytbjakblkppnieaa
namespace Vc
open Go
section
variable {P : Program} {ops : Array Oper} {M N : Nat} {ps : List Nat}

structure Rel (P : Program) (ops : Array Oper) (ps : List Nat) (N : Nat) (L : Nat) (T : List Nat) (e : Env) (listed : Array Bool) (a : Act) (w : World) : Prop where
  size : listed.size = ops.size
  inL : ∀ i, i < ops.size → listed.getD i false = true → L.testBit i = true
  closedL : ∀ i, i < ops.size → L.testBit i = true → ∀ j ∈ waits (getO ops i), L.testBit j = true
  closed : ∀ i, i < ops.size → listed.getD i false = true → ∀ j ∈ waits (getO ops i), listed.getD j false = true
  inT : ∀ i, i < ops.size → L.testBit i = true → listed.getD i false = false → i ∈ T
  tOk : ∀ i ∈ T, L.testBit i = true ∧ selfOk ops (getO ops i) = true ∧ ∀ j, j < ops.size → j ≠ i → (ps.getD j 0).testBit i = true ∨ noLook ops (getO ops i) (getO ops j) = true
  tm : a.tmps.size = N
  df : a.defers = []
  agr : ∀ t, (∀ i, i < ops.size → L.testBit i = true → listed.getD i false = false → (getO ops i).dst ≠ some t) → a.tmps.getD t undef = e t
  yld : ∀ i, i < ops.size → L.testBit i = true → listed.getD i false = false →
    Yat P ops e w (getO ops i) (gv e ops i) ∧ (isPure (getO ops i).op = true → ∀ w1, Yat P ops e w1 (getO ops i) (gv e ops i))

theorem gv_dst {e : Env} {i : Nat} {d : Tmp} (hi : i < ops.size) (hd : (getO ops i).dst = some d) : gv e ops i = e d := by
  unfold gv
  rw [Array.getElem?_toList, getO_some hi]
  simp [hd]
theorem self_dst {x : Oper} (h : selfOk ops x = true) : ∃ d, x.dst = some d ∧ d ∉ x.looksAt ops := by
  unfold selfOk at h
  split at h
  · rename_i d hd
    exact ⟨d, hd, by simpa using h⟩
  · cases h
theorem noLook_spec {x y : Oper} {d : Tmp} (h : noLook ops x y = true) (hd : x.dst = some d) : d ∉ y.looksAt ops ∧ y.dst ≠ some d := by
  unfold noLook at h
  rw [hd] at h
  simpa using h
theorem yielded_at {a : Act} {e : Env} (j : Nat) (b : Bool) (h : ∀ d, (ops[j]?).bind (·.dst) = some d → a.tmps.getD d undef = e d) : (yielded ops a.tmps j == some b) = true ↔ gv e ops j = .bool b := by
  unfold yielded gv
  rw [Array.getElem?_toList]
  cases hd : (ops[j]?).bind (·.dst) with
  | none => simp [undef]
  | some d =>
    simp only [Option.bind_some]
    have ht := h d hd
    rw [Array.getD_eq_getD_getElem?] at ht
    cases hx : a.tmps[d]? with
    | none =>
      rw [hx] at ht
      simp only [Option.getD_none] at ht
      rw [← ht]
      simp [undef]
    | some x =>
      rw [hx] at ht
      simp only [Option.getD_some] at ht
      rw [← ht]
      cases x <;> simp
/-- Two states that agree on what o looks at. -/
theorem same_look {o : Oper} {a : Act} {e : Env} (hs : isSelect o.op = false) (h : ∀ t ∈ o.looksAt ops, a.tmps.getD t undef = e t) :
    execOp a.eval o = execOp (ev e) o ∧ (Region.wanted o (yielded ops a.tmps) = true ↔ wantE ops e o) := by
  refine ⟨execOp_congr o (fun cs b hh => by rw [hh] at hs; cases hs) fun x hx => ?_, ?_⟩
  · cases x with
    | tmp t => exact h t (by simp only [Oper.looksAt, List.mem_append, List.mem_filterMap]; exact .inl ⟨_, Array.mem_toList_iff.2 hx, rfl⟩)
    | _ => rfl
  · unfold Region.wanted wantE
    cases hg : o.guard with
    | none => simp
    | some g =>
      obtain ⟨j, b⟩ := g
      exact yielded_at j b fun d hd => h d (by simp only [Oper.looksAt, hg, List.mem_append]; exact .inr (by simp [hd]))
theorem same_env {o : Oper} {e e' : Env} (hs : isSelect o.op = false) (h : ∀ t ∈ o.looksAt ops, e' t = e t) :
    execOp (ev e') o = execOp (ev e) o ∧ (wantE ops e' o ↔ wantE ops e o) := by
  refine ⟨execOp_congr o (fun cs b hh => by rw [hh] at hs; cases hs) fun x hx => ?_, ?_⟩
  · cases x with
    | tmp t => exact h t (by simp only [Oper.looksAt, List.mem_append, List.mem_filterMap]; exact .inl ⟨_, Array.mem_toList_iff.2 hx, rfl⟩)
    | _ => rfl
  · unfold wantE
    cases hg : o.guard with
    | none => simp
    | some g =>
      obtain ⟨j, b⟩ := g
      have : gv e' ops j = gv e ops j := by
        unfold gv
        rw [Array.getElem?_toList]
        cases hd : (ops[j]?).bind (·.dst) with
        | none => rfl
        | some d => exact h d (by simp only [Oper.looksAt, hg, List.mem_append]; exact .inr (by simp [hd]))
      simp only [this]
theorem putE_other {e : Env} {dst : Option Tmp} {v : Value} {t : Nat} (h : dst ≠ some t) : putE e dst v t = e t := by
  cases dst with
  | none => rfl
  | some d =>
    simp only [putE, upd]
    rw [beq_ne (fun hh => h (by rw [hh]))]
    rfl
theorem putE_same {e : Env} {t : Nat} {v : Value} : putE e (some t) v t = v := by simp [putE, upd, Nat.beq_refl]
theorem ops_ok (hok : okOps M N ops ps = true) {i : Nat} (hi : i < ops.size) : isSelect (getO ops i).op = false ∧ dstIn M N (getO ops i) = true ∧ ∀ j ∈ waits (getO ops i), j < i := by
  have h1 := hok
  simp only [okOps, Bool.and_eq_true, List.all_eq_true, List.mem_range] at h1
  have hm : getO ops i ∈ ops.toList := by
    have := getO_some hi
    exact Array.mem_toList_iff.2 (Array.mem_of_getElem? this)
  have h2 := h1.2 _ hm
  simp only [Bool.not_eq_true'] at h2
  exact ⟨h2.1, h2.2, fun j hj => Nat.le_of_ble_eq_true ((h1.1 i hi).1 j hj)⟩
theorem put_get {a : Act} {dst : Option Tmp} {v : Value} {t : Nat} (h : dst ≠ some t) : (a.put dst v).tmps.getD t undef = a.tmps.getD t undef := by
  cases dst with
  | none => rfl
  | some d =>
    have : d ≠ t := fun hh => h (by rw [hh])
    simp [Act.put, Array.getD_eq_getD_getElem?, Array.getElem?_setIfInBounds, this]
theorem put_get_same {a : Act} {v : Value} {t : Nat} (h : t < a.tmps.size) : (a.put (some t) v).tmps.getD t undef = v := by
  simp [Act.put, Array.getD_eq_getD_getElem?, h]
theorem put_size {a : Act} {dst : Option Tmp} {v : Value} : (a.put dst v).tmps.size = a.tmps.size := by cases dst <;> simp [Act.put]
theorem put_defers {a : Act} {dst : Option Tmp} {v : Value} : (a.put dst v).defers = a.defers := by cases dst <;> rfl

theorem Rel.pred {L : Nat} {T : List Nat} {e : Env} {listed : Array Bool} {a : Act} {w : World} (r : Rel P ops ps N L T e listed a w) (hok : okOps M N ops ps = true)
    {i : Nat} (hi : i < ops.size) (hw : ∀ j ∈ waits (getO ops i), listed.getD j false = true) {p : Nat} (hp : (ps.getD i 0).testBit p = true) : listed.getD p false = true :=
  preds_in hok (fun j => listed.getD j false = true) (fun i hi h => r.closed i hi h) i hi hw p hp
/-- What a ready operation looks at is as in the schedule's state. -/
theorem Rel.look {L : Nat} {T : List Nat} {e : Env} {listed : Array Bool} {a : Act} {w : World} (r : Rel P ops ps N L T e listed a w) (hok : okOps M N ops ps = true)
    {i : Nat} (hi : i < ops.size) (hw : ∀ j ∈ waits (getO ops i), listed.getD j false = true) :
    ∀ t ∈ (getO ops i).looksAt ops, a.tmps.getD t undef = e t := by
  intro t ht
  refine r.agr t fun p hp hL hn hd => ?_
  obtain ⟨_, hself, hall⟩ := r.tOk p (r.inT p hp hL hn)
  by_cases e1 : i = p
  · subst e1
    obtain ⟨d, hd', hnl⟩ := self_dst hself
    rw [hd] at hd'
    injection hd' with hd'
    subst hd'
    exact hnl ht
  · rcases hall i hi e1 with h | h
    · rw [r.pred hok hi hw h] at hn
      cases hn
    · exact (noLook_spec h hd).1 ht
theorem ready_iff {listed : Array Bool} (hs : listed.size = ops.size) {i : Nat} : i ∈ Region.ready .any ops listed ↔ i < ops.size ∧ listed.getD i false = false ∧ ∀ j ∈ waits (getO ops i), listed.getD j false = true := by
  rw [mem_ready]
  constructor
  · rintro ⟨h1, o, ho, h2⟩
    have hi : i < ops.size := (Array.getElem?_eq_some_iff.1 ho).1
    refine ⟨hi, ?_, ?_⟩
    · rw [Array.getD_eq_getD_getElem?] at h1 ⊢
      rw [Array.getElem?_eq_getElem (by omega)] at h1 ⊢
      simpa using h1
    · intro j hj
      rw [getO_eq ho] at hj
      simp only [waits, List.mem_map, List.mem_filter] at hj
      obtain ⟨x, ⟨hx, hb⟩, rfl⟩ := hj
      exact h2 x (Array.mem_toList_iff.1 hx) hb
  · rintro ⟨hi, h1, h2⟩
    refine ⟨?_, getO ops i, getO_some hi, fun x hx hb => h2 _ ?_⟩
    · rw [Array.getD_eq_getD_getElem?] at h1 ⊢
      rw [Array.getElem?_eq_getElem (by omega)] at h1 ⊢
      simpa using h1
    · simp only [waits, List.mem_map, List.mem_filter]
      exact ⟨x, ⟨Array.mem_toList_iff.2 hx, hb⟩, rfl⟩
theorem all_listed (hok : okOps M N ops ps = true) {listed : Array Bool} (hs : listed.size = ops.size) (hr : Region.ready .any ops listed = []) : ∀ i, i < ops.size → listed.getD i false = true := by
  intro i
  induction i using Nat.strongRecOn with
  | ind i ih =>
    intro hi
    cases hl : listed.getD i false with
    | true => rfl
    | false =>
      have : i ∈ Region.ready .any ops listed := (ready_iff hs).2 ⟨hi, hl, fun j hj => ih j ((ops_ok hok hi).2.2 j hj) (by have := (ops_ok hok hi).2.2 j hj; omega)⟩
      rw [hr] at this
      cases this
theorem set_get {listed : Array Bool} {i j : Nat} (hi : i < listed.size) : (listed.setIfInBounds i true).getD j false = if j = i then true else listed.getD j false := by
  simp only [Array.getD_eq_getD_getElem?, Array.getElem?_setIfInBounds]
  by_cases h : i = j
  · subst h; simp [hi]
  · simp [h, Ne.symm h]
theorem bit_add (L i j : Nat) : (L ||| 2 ^ i).testBit j = (L.testBit j || decide (j = i)) := by
  rw [testBit_or]
  by_cases h : i = j
  · subst h; simp
  · rw [bit_ne h]; simp [Ne.symm h]
end
end Vc
end Go.Proofs.Ytbjakblkppnieaa
