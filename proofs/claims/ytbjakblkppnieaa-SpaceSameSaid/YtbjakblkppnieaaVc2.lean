/- The predicate transformer on code: regions in order, conditions, blocks, loops; regions whose order is drawn by a schedule 'readers first'. -/
import Derived.Test.YtbjakblkppnieaaVc
set_option linter.unusedVariables false
set_option linter.unusedSimpArgs false
namespace Go.Proofs.Ytbjakblkppnieaa
namespace Vc
open Go

theorem beq_ne {t d : Nat} (h : t ≠ d) : Nat.beq t d = false := by
  cases hb : Nat.beq t d with
  | false => rfl
  | true => exact absurd (Nat.eq_of_beq_eq_true hb) h
def Sim (n : Nat) (a : Act) (e : Env) : Prop := a.tmps.size = n ∧ a.defers = [] ∧ ∀ t, a.tmps.getD t undef = e t
theorem Sim.eval {n : Nat} {a : Act} {e : Env} (h : Sim n a e) : a.eval = ev e := by
  funext x
  cases x <;> simp [Act.eval, ev, h.2.2]
theorem Sim.put {n : Nat} {a : Act} {e : Env} (h : Sim n a e) {dst : Option Tmp} (v : Value) (hd : ∀ d, dst = some d → d < n) : Sim n (a.put dst v) (putE e dst v) := by
  cases dst with
  | none => exact h
  | some d =>
    have hd := hd d rfl
    refine ⟨by simp [Act.put, h.1], h.2.1, fun t => ?_⟩
    have ht := h.2.2 t
    simp only [Act.put, putE, upd]
    by_cases e1 : t = d
    · subst e1
      have hs : t < a.tmps.size := by rw [h.1]; exact hd
      simp [Array.getD_eq_getD_getElem?, hs]
    · have hb := beq_ne e1
      rw [hb]
      simp only [cond_false]
      rw [← ht]
      simp [Array.getD_eq_getD_getElem?, Array.getElem?_setIfInBounds, Ne.symm e1]

theorem opK_wp {P : Program} {o : Oper} {e : Env} {a : Act} {w : World} {K : Value → World → Prop} {next : Act → World → Prop} {Q : Exit → Act → World → Prop}
    (h : OpK P o (ev e) w K) (he : a.eval = ev e) (hn : ∀ v w', K v w' → next (a.put o.dst v) w') : o.wp P a w next Q := by
  unfold Oper.wp
  rw [he]
  unfold OpK at h
  generalize (execOp (ev e) o).run P w = r at h
  cases r with
  | ok x w' =>
    cases x <;> simp only [Oper.upon] at h ⊢
    case value v => exact hn _ _ h
    case skip => exact hn _ _ h
    case enter f args =>
      refine h.mono ?_
      intro e' w'' hk
      cases e' with
      | returned v => exact hn _ _ hk
      | panicked c => exact hk.elim
      | outgrown => exact hk.elim
  | halt x w' => cases x <;> exact h.elim

def gv (e : Env) (ops : Array Oper) (j : Nat) : Value := match (ops.toList[j]?).bind (·.dst) with | some d => e d | none => undef
/-- An operation that is carried out just where c is b; else its value is undef. -/
def GuardV (c : Value) (b : Bool) (run : (Value → World → Prop) → Prop) (w : World) (K : Value → World → Prop) : Prop :=
  (c = .bool b → run K) ∧ (c ≠ .bool b → K undef w)
def stepE (P : Program) (ops : Array Oper) (o : Oper) (e : Env) (w : World) (K : Value → World → Prop) : Prop :=
  match o.guard with
  | none => opE P o (ev e) w K
  | some (j, b) => GuardV (gv e ops j) b (fun J => opE P o (ev e) w J) w K

theorem yielded_gv {n : Nat} {a : Act} {e : Env} (h : Sim n a e) (ops : Array Oper) (j : Nat) (b : Bool) : (yielded ops a.tmps j == some b) = true ↔ gv e ops j = .bool b := by
  unfold yielded gv
  rw [Array.getElem?_toList]
  cases hd : (ops[j]?).bind (·.dst) with
  | none => simp [undef]
  | some d =>
    simp only [Option.bind_some]
    have ht := h.2.2 d
    rw [Array.getD_eq_getD_getElem?] at ht
    cases hx : a.tmps[d]? with
    | none =>
      rw [hx] at ht
      simp only [Option.getD_none] at ht
      rw [← ht]
      simp [undef]
    | some x =>
      rw [hx] at ht
      simp only [Option.getD_some] at ht
      rw [← ht]
      cases x <;> simp
theorem wanted_none {o : Oper} (h : o.guard = none) (y : Nat → Option Bool) : Region.wanted o y = true := by simp [Region.wanted, h]

theorem stepE_ok {P : Program} {ops : Array Oper} {o : Oper} {n : Nat} {e : Env} {a : Act} {w : World} {K : Value → World → Prop} {next : Act → World → Prop} {Q : Exit → Act → World → Prop}
    (h : stepE P ops o e w K) (hs : Sim n a e) (hn : ∀ v w', K v w' → next (a.put o.dst v) w') :
    if Region.wanted o (yielded ops a.tmps) then o.wp P a w next Q ∨ (o.asks P a w ∧ LetsOut Q) else next (a.put o.dst undef) w := by
  unfold stepE at h
  split at h
  · rename_i hg
    rw [if_pos (wanted_none hg _)]
    exact .inl (opK_wp (opE_ok h) hs.eval hn)
  · rename_i j b hg
    obtain ⟨h1, h2⟩ := h
    have hy := yielded_gv hs ops j b
    simp only [Region.wanted, hg]
    split
    · rename_i hw
      exact .inl (opK_wp (opE_ok (h1 (hy.1 hw))) hs.eval hn)
    · rename_i hw
      exact hn _ _ (h2 fun hc => hw (hy.2 hc))

def opsE (P : Program) (ops : Array Oper) : List Oper → (Env → World → Prop) → Env → World → Prop
  | [], Q, e, w => Q e w
  | o :: l, Q, e, w => stepE P ops o e w fun v w' => opsE P ops l Q (putE e o.dst v) w'

def dstIn (M n : Nat) (o : Oper) : Bool := match o.dst with | none => true | some d => Nat.blt d n && Nat.testBit M d
def Agree (M : Nat) (e e' : Env) : Prop := ∀ t, Nat.testBit M t = false → e' t = e t
theorem Agree.refl (M : Nat) (e : Env) : Agree M e e := fun _ _ => rfl
theorem Agree.put {M n : Nat} {e0 e : Env} {o : Oper} (h : Agree M e0 e) (hd : dstIn M n o = true) (v : Value) : Agree M e0 (putE e o.dst v) := by
  intro t ht
  unfold dstIn at hd
  cases ho : o.dst with
  | none => exact h t ht
  | some d =>
    rw [ho] at hd
    simp only [Bool.and_eq_true] at hd
    simp only [putE, upd]
    have hb : Nat.beq t d = false := by
      cases hb : Nat.beq t d with
      | false => rfl
      | true =>
        have := Nat.eq_of_beq_eq_true hb
        subst this
        rw [ht] at hd
        cases hd.2
    rw [hb]
    exact h t ht
theorem dstIn_lt {M n : Nat} {o : Oper} (hd : dstIn M n o = true) : ∀ d, o.dst = some d → d < n := by
  intro d ho
  simp only [dstIn, ho, Bool.and_eq_true] at hd
  exact Nat.le_of_ble_eq_true hd.1

theorem opsE_ok {P : Program} {ops : Array Oper} {n M : Nat} {e0 : Env} {QE : Env → World → Prop} {Q : Exit → Act → World → Prop} (l : List Oper) :
    ∀ (e : Env) (a : Act) (w : World), l.all (dstIn M n) = true → opsE P ops l QE e w → Sim n a e → Agree M e0 e →
      (∀ a' e' w', Sim n a' e' → Agree M e0 e' → QE e' w' → Q .normal a' w') → wpList P ops Q l a w := by
  induction l with
  | nil => intro e a w _ h hs ha hq; exact hq _ _ _ hs ha h
  | cons o l ih =>
    intro e a w hall h hs ha hq
    simp only [List.all_cons, Bool.and_eq_true] at hall
    unfold wpList
    exact stepE_ok h hs fun v w' hk => ih _ _ _ hall.2 hk (hs.put v (dstIn_lt hall.1)) (ha.put hall.1 v) hq
end Vc
end Go.Proofs.Ytbjakblkppnieaa
