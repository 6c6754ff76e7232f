/- A schedule that takes the readers first is sound for every order that the edges allow: the proof's end. -/
import Derived.Test.YtbjakblkppnieaaVc4
set_option linter.unusedVariables false
set_option linter.unusedSimpArgs false
namespace Go.Proofs.Ytbjakblkppnieaa
namespace Vc
open Go
section
variable {P : Program} {ops : Array Oper} {M N : Nat} {ps : List Nat}

def cnt (n : Nat) (listed : Array Bool) : Nat := (List.range n).countP fun i => !listed.getD i false
theorem countP_le' {p q : Nat → Bool} : ∀ (l : List Nat), (∀ x ∈ l, q x = true → p x = true) → l.countP q ≤ l.countP p
  | [], _ => by simp
  | x :: l, h => by
    have ih := countP_le' l fun y hy => h y (by simp [hy])
    simp only [List.countP_cons]
    have := h x (by simp)
    cases hq : q x with
    | false => simp; omega
    | true => rw [this hq]; simp; omega
theorem countP_lt' {p q : Nat → Bool} : ∀ (l : List Nat), (∀ x ∈ l, q x = true → p x = true) → (∃ x ∈ l, p x = true ∧ q x = false) → l.countP q < l.countP p
  | [], _, h => by obtain ⟨_, h, _⟩ := h; cases h
  | x :: l, h, ⟨y, hy, hp, hq⟩ => by
    have hl := countP_le' l fun y hy => h y (by simp [hy])
    simp only [List.countP_cons]
    rcases List.mem_cons.1 hy with rfl | hy
    · rw [hp, hq]; simp; omega
    · have ih := countP_lt' l (fun y hy => h y (by simp [hy])) ⟨y, hy, hp, hq⟩
      have := h x (by simp)
      cases hq : q x with
      | false => simp; omega
      | true => rw [this hq]; simp; omega
theorem cnt_set {n i : Nat} {listed : Array Bool} (hs : listed.size = n) (hi : i < n) (hl : listed.getD i false = false) : cnt n (listed.setIfInBounds i true) < cnt n listed := by
  refine countP_lt' _ (fun x hx h => ?_) ⟨i, by simpa using hi, by rw [hl]; rfl, ?_⟩
  · rw [set_get (by omega)] at h
    by_cases e : x = i
    · subst e; simp at h
    · simpa [e] using h
  · rw [set_get (by omega)]; simp
theorem cnt_zero {n : Nat} {listed : Array Bool} (h : cnt n listed = 0) : ∀ i, i < n → listed.getD i false = true := by
  intro i hi
  have := List.countP_eq_zero.1 h i (by simpa using hi)
  simpa using this

theorem Rel.sim {L : Nat} {T : List Nat} {e : Env} {listed : Array Bool} {a : Act} {w : World} (r : Rel P ops ps N L T e listed a w) (h : ∀ i, i < ops.size → listed.getD i false = true) : Sim N a e :=
  ⟨r.tm, r.df, fun t => r.agr t fun i hi _ hn => by rw [h i hi] at hn; cases hn⟩

/-- A pending reader is carried out. -/
theorem Rel.pend {L : Nat} {T : List Nat} {e : Env} {listed : Array Bool} {a : Act} {w : World} (r : Rel P ops ps N L T e listed a w) (hok : okOps M N ops ps = true)
    {i : Nat} (hi : i < ops.size) (hL : L.testBit i = true) (hn : listed.getD i false = false) (hw : ∀ j ∈ waits (getO ops i), listed.getD j false = true) :
    Rel P ops ps N L T e (listed.setIfInBounds i true) (a.put (getO ops i).dst (gv e ops i)) w := by
  have hset : ∀ j, (listed.setIfInBounds i true).getD j false = if j = i then true else listed.getD j false := fun j => set_get (by rw [r.size]; exact hi)
  obtain ⟨_, hself, hall⟩ := r.tOk i (r.inT i hi hL hn)
  obtain ⟨d, hd, _⟩ := self_dst hself
  have hlt : d < N := dstIn_lt (ops_ok hok hi).2.1 d hd
  refine ⟨by simpa using r.size, fun j hj h => ?_, r.closedL, fun j hj h k hk => ?_, fun j hj h1 h2 => ?_, r.tOk, by rw [put_size]; exact r.tm, by rw [put_defers]; exact r.df, fun t ht => ?_, fun j hj h1 h2 => ?_⟩
  · rw [hset] at h
    by_cases e1 : j = i
    · subst e1; exact hL
    · rw [if_neg e1] at h; exact r.inL j hj h
  · rw [hset] at h ⊢
    by_cases e2 : k = i
    · simp [e2]
    · rw [if_neg e2]
      by_cases e1 : j = i
      · subst e1; exact hw k hk
      · rw [if_neg e1] at h; exact r.closed j hj h k hk
  · rw [hset] at h2
    by_cases e1 : j = i
    · simp [e1] at h2
    · rw [if_neg e1] at h2; exact r.inT j hj h1 h2
  · rw [hd]
    by_cases e1 : d = t
    · subst e1
      rw [put_get_same (by rw [r.tm]; exact hlt)]
      exact gv_dst hi hd
    · rw [put_get (by simpa using e1)]
      refine r.agr t fun j hj h1 h2 => ?_
      by_cases e2 : j = i
      · subst e2; rw [hd]; simpa using e1
      · exact ht j hj h1 (by rw [hset, if_neg e2]; exact h2)
  · rw [hset] at h2
    by_cases e1 : j = i
    · simp [e1] at h2
    · rw [if_neg e1] at h2; exact r.yld j hj h1 h2

theorem yat_env {e e' : Env} {w : World} {o : Oper} {v : Value} (hs : isSelect o.op = false) (h : ∀ t ∈ o.looksAt ops, e' t = e t) (y : Yat P ops e w o v) : Yat P ops e' w o v := by
  obtain ⟨h1, h2⟩ := same_env hs h
  exact ⟨fun hw => by rw [h1]; exact y.1 (h2.1 hw), fun hw => y.2 fun hh => hw (h2.2 hh)⟩
theorem gv_put_other {e : Env} {dst : Option Tmp} {v : Value} {j : Nat} (hj : j < ops.size) (h : ∀ t, (getO ops j).dst = some t → dst ≠ some t) : gv (putE e dst v) ops j = gv e ops j := by
  cases hd : (getO ops j).dst with
  | none =>
    unfold gv
    rw [Array.getElem?_toList, getO_some hj]
    simp [hd]
  | some t => rw [gv_dst hj hd, gv_dst hj hd, putE_other (h t hd)]

/-- The schedule takes a reader. -/
theorem Rel.take {L : Nat} {T : List Nat} {e : Env} {listed : Array Bool} {a : Act} {w : World} (r : Rel P ops ps N L T e listed a w) (hok : okOps M N ops ps = true)
    {i : Nat} (hi : i < ops.size) (hL : L.testBit i = false) (hw : ∀ j ∈ waits (getO ops i), L.testBit j = true) (hself : selfOk ops (getO ops i) = true)
    (hall : ∀ j, j < ops.size → j ≠ i → (ps.getD j 0).testBit i = true ∨ noLook ops (getO ops i) (getO ops j) = true) {v : Value}
    (hy : Yat P ops e w (getO ops i) v) (hp : isPure (getO ops i).op = true → ∀ w1, Yat P ops e w1 (getO ops i) v) :
    Rel P ops ps N (L ||| 2 ^ i) (i :: T) (putE e (getO ops i).dst v) listed a w := by
  obtain ⟨d, hd, hnl⟩ := self_dst hself
  have hni : listed.getD i false = false := by
    cases h : listed.getD i false with
    | false => rfl
    | true => rw [r.inL i hi h] at hL; cases hL
  -- a pending one doesn't see what the new one leaves
  have apart : ∀ j, j < ops.size → L.testBit j = true → noLook ops (getO ops i) (getO ops j) = true := by
    intro j hj h
    have hne : j ≠ i := fun e => by rw [e, hL] at h; cases h
    rcases hall j hj hne with h1 | h1
    · have := preds_in hok (fun k => L.testBit k = true) (fun k hk h => r.closedL k hk h) j hj (r.closedL j hj h) i h1
      rw [hL] at this; cases this
    · exact h1
  refine ⟨r.size, fun j hj h => by rw [bit_add, r.inL j hj h]; rfl, fun j hj h k hk => ?_, r.closed, fun j hj h1 h2 => ?_, fun j hj => ?_, r.tm, r.df, fun t ht => ?_, fun j hj h1 h2 => ?_⟩
  · rw [bit_add] at h ⊢
    simp only [Bool.or_eq_true, decide_eq_true_eq] at h ⊢
    rcases h with h | rfl
    · exact .inl (r.closedL j hj h k hk)
    · exact .inl (hw k hk)
  · rw [bit_add] at h1
    simp only [Bool.or_eq_true, decide_eq_true_eq] at h1
    rcases h1 with h1 | rfl
    · exact List.mem_cons_of_mem _ (r.inT j hj h1 h2)
    · simp
  · rcases List.mem_cons.1 hj with rfl | hj
    · exact ⟨by rw [bit_add]; simp, hself, hall⟩
    · obtain ⟨h1, h2, h3⟩ := r.tOk j hj
      exact ⟨by rw [bit_add, h1]; rfl, h2, h3⟩
  · have h1 : (getO ops i).dst ≠ some t := ht i hi (by rw [bit_add]; simp) hni
    rw [putE_other h1]
    exact r.agr t fun j hj h2 h3 => ht j hj (by rw [bit_add, h2]; rfl) h3
  · rw [bit_add] at h1
    simp only [Bool.or_eq_true, decide_eq_true_eq] at h1
    have hsel := (ops_ok hok hj).1
    rcases h1 with h1 | rfl
    · have hnl := noLook_spec (apart j hj h1) hd
      obtain ⟨y1, y2⟩ := r.yld j hj h1 h2
      have hg : gv (putE e (getO ops i).dst v) ops j = gv e ops j := gv_put_other hj fun t ht hh => by rw [hd] at hh; injection hh with hh; subst hh; exact hnl.2 ht
      have hl : ∀ t ∈ (getO ops j).looksAt ops, putE e (getO ops i).dst v t = e t := fun t ht => putE_other fun hh => by rw [hd] at hh; injection hh with hh; subst hh; exact hnl.1 ht
      rw [hg]
      exact ⟨yat_env hsel hl y1, fun hpu w1 => yat_env hsel hl (y2 hpu w1)⟩
    · have hg : gv (putE e (getO ops j).dst v) ops j = v := by rw [gv_dst hj hd, hd, putE_same]
      have hl : ∀ t ∈ (getO ops j).looksAt ops, putE e (getO ops j).dst v t = e t := fun t ht => putE_other fun hh => by rw [hd] at hh; injection hh with hh; subst hh; exact hnl ht
      rw [hg]
      exact ⟨yat_env hsel hl hy, fun hpu w1 => yat_env hsel hl (hp hpu w1)⟩

/-- Another operation is carried out, in the schedule and in truth. -/
theorem Rel.act {L : Nat} {T : List Nat} {e : Env} {listed : Array Bool} {a : Act} {w w' : World} (r : Rel P ops ps N L T e listed a w) (hok : okOps M N ops ps = true)
    {i : Nat} (hi : i < ops.size) (hL : L.testBit i = false) (hw : ∀ j ∈ waits (getO ops i), listed.getD j false = true) {v : Value} {st : List Nat}
    (hno : ∀ j ∈ T.filter fun j => !(ps.getD i 0).testBit j, noLook ops (getO ops i) (getO ops j) = true ∧ (isPure (getO ops j).op = true ∨ (isRead (getO ops j).op = true ∧ j ∈ st)))
    (hst : ∀ j ∈ st, wantE ops e (getO ops j) → stayE P (getO ops j) (ev e) (gv e ops j) w') :
    Rel P ops ps N (L ||| 2 ^ i) (T.filter fun j => !(ps.getD i 0).testBit j) (putE e (getO ops i).dst v) (listed.setIfInBounds i true) (a.put (getO ops i).dst v) w' := by
  have hset : ∀ j, (listed.setIfInBounds i true).getD j false = if j = i then true else listed.getD j false := fun j => set_get (by rw [r.size]; exact hi)
  have keepT : ∀ j, j < ops.size → L.testBit j = true → listed.getD j false = false → j ∈ T.filter fun j => !(ps.getD i 0).testBit j := by
    intro j hj h1 h2
    refine List.mem_filter.2 ⟨r.inT j hj h1 h2, ?_⟩
    cases hb : (ps.getD i 0).testBit j with
    | false => rfl
    | true => rw [r.pred hok hi hw hb] at h2; cases h2
  have old : ∀ j, j < ops.size → (L ||| 2 ^ i).testBit j = true → (listed.setIfInBounds i true).getD j false = false → L.testBit j = true ∧ listed.getD j false = false ∧ j ≠ i := by
    intro j hj h1 h2
    rw [hset] at h2
    have e1 : j ≠ i := fun e1 => by simp [e1] at h2
    rw [if_neg e1] at h2
    rw [bit_add] at h1
    simp only [Bool.or_eq_true, decide_eq_true_eq] at h1
    exact ⟨h1.resolve_right e1, h2, e1⟩
  refine ⟨by simpa using r.size, fun j hj h => ?_, fun j hj h k hk => ?_, fun j hj h k hk => ?_, fun j hj h1 h2 => ?_, fun j hj => ?_, by rw [put_size]; exact r.tm, by rw [put_defers]; exact r.df, fun t ht => ?_, fun j hj h1 h2 => ?_⟩
  · rw [hset] at h
    rw [bit_add]
    by_cases e1 : j = i
    · simp [e1]
    · rw [if_neg e1] at h; rw [r.inL j hj h]; rfl
  · rw [bit_add] at h ⊢
    simp only [Bool.or_eq_true, decide_eq_true_eq] at h ⊢
    rcases h with h | rfl
    · exact .inl (r.closedL j hj h k hk)
    · have hlt : k < ops.size := by have := (ops_ok hok hj).2.2 k hk; omega
      exact .inl (r.inL k hlt (hw k hk))
  · rw [hset] at h ⊢
    by_cases e2 : k = i
    · simp [e2]
    · rw [if_neg e2]
      by_cases e1 : j = i
      · subst e1; exact hw k hk
      · rw [if_neg e1] at h; exact r.closed j hj h k hk
  · obtain ⟨h1, h2, _⟩ := old j hj h1 h2
    exact keepT j hj h1 h2
  · obtain ⟨h1, h2, h3⟩ := r.tOk j (List.mem_filter.1 hj).1
    exact ⟨by rw [bit_add, h1]; rfl, h2, h3⟩
  · by_cases e1 : (getO ops i).dst = some t
    · have hlt : t < N := dstIn_lt (ops_ok hok hi).2.1 t e1
      rw [e1, put_get_same (by rw [r.tm]; exact hlt), putE_same]
    · rw [put_get e1, putE_other e1]
      refine r.agr t fun j hj h1 h2 => ht j hj (by rw [bit_add, h1]; rfl) ?_
      rw [hset]
      have e2 : j ≠ i := fun e2 => by rw [e2, hL] at h1; cases h1
      rw [if_neg e2]; exact h2
  · obtain ⟨h1, h2, e1⟩ := old j hj h1 h2
    have hsel := (ops_ok hok hj).1
    obtain ⟨hnl, hcl⟩ := hno j (keepT j hj h1 h2)
    obtain ⟨y1, y2⟩ := r.yld j hj h1 h2
    have hg : gv (putE e (getO ops i).dst v) ops j = gv e ops j := gv_put_other hj fun t ht hh => (noLook_spec hnl hh).2 ht
    have hl : ∀ t ∈ (getO ops j).looksAt ops, putE e (getO ops i).dst v t = e t := fun t ht => putE_other fun hh => (noLook_spec hnl hh).1 ht
    rw [hg]
    refine ⟨yat_env hsel hl ?_, fun hpu w1 => yat_env hsel hl (y2 hpu w1)⟩
    rcases hcl with hpu | ⟨hrd, hs⟩
    · exact y2 hpu w'
    · exact ⟨fun hwn => read_run hrd (hst j hs hwn), y1.2⟩
end
end Vc
end Go.Proofs.Ytbjakblkppnieaa
