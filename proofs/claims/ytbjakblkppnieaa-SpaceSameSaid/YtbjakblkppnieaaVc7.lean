/- Code, functions: what the predicate transformer says holds of the machine. -/
import Derived.Test.YtbjakblkppnieaaVc6
import Derived.Laws.World
set_option linter.unusedVariables false
set_option linter.unusedSimpArgs false
namespace Go.Proofs.Ytbjakblkppnieaa
namespace Vc
open Go

inductive Ann where
  | nil
  | node (l r : Ann)
  | loop (mask : Nat) (carried : List Nat) (b : Ann)
  | draw (ps : List Nat) (s : Sched)
def Ann.l : Ann → Ann
  | .node l _ => l
  | .loop _ _ b => b
  | _ => .nil
def Ann.r : Ann → Ann
  | .node _ r => r
  | _ => .nil
def Ann.mask : Ann → Nat
  | .loop m _ _ => m
  | _ => 0
def Ann.carried : Ann → List Nat
  | .loop _ c _ => c
  | _ => []
def Ann.ps : Ann → List Nat
  | .draw p _ => p
  | _ => []
def Ann.sched : Ann → Sched
  | .draw _ s => s
  | _ => .done

def mix (mask : Nat) (m e : Env) : Env := fun t => bif Nat.testBit mask t then m t else e t
def thenE (K : Env → World → Prop) (Q : Exit → Env → World → Prop) : Exit → Env → World → Prop
  | .normal, e, w => K e w
  | x, e, w => Q x e w
def blockE (id : Nat) (Q : Exit → Env → World → Prop) : Exit → Env → World → Prop
  | .exit j, e, w => bif Nat.beq j id then Q .normal e w else Q (.exit j) e w
  | x, e, w => Q x e w
def IfP (v : Value) (A B : Prop) : Prop := ∃ b : Bool, v = .bool b ∧ (b = true → A) ∧ (b = false → B)
/-- A loop: an invariant of the slots that it carries, and a measure. -/
def LoopP (carried : List Nat) (init : List Value) (w : World) (body : (List Value → World → Prop) → Env → World → Prop) : Prop :=
  ∃ (I : List Value → World → Prop) (μ : List Value → World → Nat), I init w ∧ ∀ m w, I (carried.map m) w → body (fun xs w' => I xs w' ∧ μ xs w' < μ (carried.map m) w) m w

def wpA (P : Program) : Code → Ann → (Exit → Env → World → Prop) → Env → World → Prop
  | .skip, _, Q, e, w => Q .normal e w
  | .label _, _, Q, e, w => Q .normal e w
  | .ret, _, Q, e, w => Q .ret e w
  | .exit id, _, Q, e, w => Q (.exit id) e w
  | .seq a b, n, Q, e, w => wpA P a n.l (thenE (wpA P b n.r Q) Q) e w
  | .cond c x y, n, Q, e, w => IfP (ev e c) (wpA P x n.l Q e w) (wpA P y n.r Q e w)
  | .block id b, n, Q, e, w => wpA P b n.l (blockE id Q) e w
  | .loop b, n, Q, e, w => LoopP n.carried (n.carried.map e) w fun H m w => wpA P b n.l (thenE (fun e' w' => H (n.carried.map e') w') Q) (mix n.mask m e) w
  | .region _ ops d, n, Q, e, w => match d with
    | false => opsE P ops ops.toList (Q .normal) e w
    | true => drE P ops (Q .normal) n.sched e w.drew
  | _, _, _, _, _ => False

def codeOK (N : Nat) : Nat → Code → Ann → Bool
  | _, .skip, _ => true
  | _, .label _, _ => true
  | _, .ret, _ => true
  | _, .exit _, _ => true
  | M, .seq a b, n => codeOK N M a n.l && codeOK N M b n.r
  | M, .cond _ x y, n => codeOK N M x n.l && codeOK N M y n.r
  | M, .block _ b, n => codeOK N M b n.l
  | M, .loop b, n => Nat.beq (n.mask &&& M) n.mask && codeOK N n.mask b n.l
  | M, .region _ ops d, n => match d with
    | false => ops.toList.all (dstIn M N)
    | true => okOps M N ops n.ps && chk ops n.ps false 0 [] n.sched
  | _, _, _ => false

/-- A place where ways meet: K goes on from there. -/
def Join {α : Type} (B : α → Prop) (K : α) : Prop := B K

theorem mix_self (mask : Nat) (e : Env) : mix mask e e = e := by
  funext t
  unfold mix
  cases Nat.testBit mask t <;> rfl
theorem Agree.mix {M : Nat} {e e' : Env} (h : Agree M e e') : Vc.mix M e' e = e' := by
  funext t
  unfold Vc.mix
  cases hb : Nat.testBit M t with
  | true => rfl
  | false => exact (h t hb).symm
theorem Agree.widen {M M' : Nat} {e0 e e' : Env} (h : Agree M' e e') (hm : Nat.beq (M' &&& M) M' = true) (h0 : Agree M e0 e) : Agree M e0 e' := by
  intro t ht
  have hm := Nat.eq_of_beq_eq_true hm
  have : Nat.testBit M' t = false := by
    rw [← hm, Nat.testBit_and, ht, Bool.and_false]
  rw [h t this, h0 t ht]

theorem wpA_sound {P : Program} {N : Nat} (hm : P.follows .mixedOrders = true) : ∀ (c : Code) (n : Ann) (M : Nat) (e0 : Env) (QE : Exit → Env → World → Prop) (Q : Exit → Act → World → Prop) (e : Env) (a : Act) (w : World),
    codeOK N M c n = true → wpA P c n QE e w → Sim N a e → Agree M e0 e → (∀ x a' e' w', Sim N a' e' → Agree M e0 e' → QE x e' w' → Q x a' w') → c.wp P Q a w := by
  intro c
  induction c with
  | skip => intro n M e0 QE Q e a w hc h hs ha hq; exact wp_skip (hq _ _ _ _ hs ha h)
  | label l => intro n M e0 QE Q e a w hc h hs ha hq; exact wp_label (hq _ _ _ _ hs ha h)
  | ret => intro n M e0 QE Q e a w hc h hs ha hq; exact wp_ret (hq _ _ _ _ hs ha h)
  | exit id => intro n M e0 QE Q e a w hc h hs ha hq; exact wp_exit (hq _ _ _ _ hs ha h)
  | seq x y ihx ihy =>
    intro n M e0 QE Q e a w hc h hs ha hq
    simp only [codeOK, Bool.and_eq_true] at hc
    refine wp_seq (ihx n.l M e0 _ _ e a w hc.1 h hs ha fun ex a' e' w' hs' ha' h' => ?_)
    cases ex with
    | normal => exact ihy n.r M e0 _ _ e' a' w' hc.2 h' hs' ha' hq
    | _ => exact hq _ _ _ _ hs' ha' h'
  | cond c x y ihx ihy =>
    intro n M e0 QE Q e a w hc h hs ha hq
    simp only [codeOK, Bool.and_eq_true] at hc
    obtain ⟨b, hb, h1, h2⟩ := h
    refine wp_cond_split (t := b) (by rw [hs.eval]; exact hb) (fun hb => ?_) (fun hb => ?_)
    · exact ihx n.l M e0 _ _ e a w hc.1 (h1 hb) hs ha hq
    · exact ihy n.r M e0 _ _ e a w hc.2 (h2 hb) hs ha hq
  | block id b ih =>
    intro n M e0 QE Q e a w hc h hs ha hq
    refine wp_block (ih n.l M e0 _ _ e a w hc h hs ha fun ex a' e' w' hs' ha' h' => ?_)
    cases ex with
    | exit j =>
      simp only [blockE, Exit.inBlock] at h' ⊢
      by_cases hj : j = id
      · subst hj
        rw [Nat.beq_refl] at h'
        rw [if_pos rfl]
        exact hq _ _ _ _ hs' ha' h'
      · rw [beq_ne hj] at h'
        rw [if_neg hj]
        exact hq _ _ _ _ hs' ha' h'
    | _ => exact hq _ _ _ _ hs' ha' h'
  | loop b ih =>
    intro n M e0 QE Q e a w hc h hs ha hq
    simp only [codeOK, Bool.and_eq_true] at hc
    obtain ⟨I, μ, h0, hstep⟩ := h
    refine wp_loop (fun a w => ∃ m, Sim N a m ∧ Agree n.mask e m ∧ I (n.carried.map m) w) (fun a w => μ (n.carried.map fun t => a.tmps.getD t undef) w) ⟨e, hs, Agree.refl _ _, h0⟩ ?_
    rintro a1 w1 ⟨m, hs1, ha1, hI⟩
    have hbody := hstep m w1 hI
    simp only [ha1.mix] at hbody
    refine ih n.l n.mask e _ _ m a1 w1 hc.2 hbody hs1 ha1 fun ex a' e' w' hs' ha' h' => ?_
    cases ex with
    | normal =>
      have e1 : (fun t => a'.tmps.getD t undef) = e' := funext hs'.2.2
      have e2 : (fun t => a1.tmps.getD t undef) = m := funext hs1.2.2
      simp only [Exit.then]
      rw [e1, e2]
      exact ⟨⟨e', hs', ha', h'.1⟩, h'.2⟩
    | _ => exact hq _ _ _ _ hs' (ha'.widen hc.1 ha) h'
  | region id ops d =>
    intro n M e0 QE Q e a w hc h hs ha hq
    cases d with
    | false => exact wp_region_list (opsE_ok ops.toList e a w hc h hs ha fun a' e' w' hs' ha' h' => hq _ _ _ _ hs' ha' h')
    | true =>
      simp only [codeOK, Bool.and_eq_true] at hc
      refine wp_region_any hm ?_
      refine drE_sound hc.1 (fun a' e' w' hs' ha' h' => hq _ _ _ _ hs' ha' h') (ssize n.sched) n.sched (Nat.le_refl _) 0 [] e w.drew hc.2 h ha ops.size _ a ?_ (Rel.start (n := 0) hs)
      exact Nat.le_trans List.countP_le_length (by simp)
  | _ => intro n M e0 QE Q e a w hc h; exact h.elim

def tupV : List Value → Value
  | [v] => v
  | l => .tuple l.toArray
def resE (P : Program) (R : Value → World → Prop) : List ResultVar → List Value → Env → World → Prop
  | [], acc, e, w => R (tupV acc) w
  | .tmp t :: l, acc, e, w => resE P R l (acc ++ [e t]) e w
  | .cell a t :: l, acc, e, w => LoadV P t (e a) w fun v => resE P R l (acc ++ [v]) e w
def retE (P : Program) (rs : Array ResultVar) (R : Value → World → Prop) : Exit → Env → World → Prop
  | .normal, e, w => resE P R rs.toList [] e w
  | .ret, e, w => resE P R rs.toList [] e w
  | _, _, _ => False
def envA (args : List Value) : Env := fun t => args.getD t undef

def resS (tmps : Array Value) : ResultVar → Sem Value
  | .tmp t => pure (tmps.getD t undef)
  | .cell a t => do loadVar t (← asAddr (tmps.getD a undef))
theorem resE_ok {P : Program} {R : Value → World → Prop} {tmps : Array Value} {e : Env} {w : World} (he : ∀ t, tmps.getD t undef = e t) : ∀ (l : List ResultVar) (acc : List Value), resE P R l acc e w →
    ∃ vs, (l.mapM (resS tmps)).run P w = .ok vs w ∧ R (tupV (acc ++ vs)) w
  | [], acc, h => ⟨[], rfl, by simpa [resE] using h⟩
  | .tmp t :: l, acc, h => by
    obtain ⟨vs, h1, h2⟩ := resE_ok he l _ h
    refine ⟨e t :: vs, ?_, by simpa using h2⟩
    simp only [List.mapM_cons, Sem.run_bind, resS, Sem.run_pure, Result.andThen_ok, h1, he]
  | .cell a t :: l, acc, h => by
    obtain ⟨v, hr, h⟩ := h
    obtain ⟨vs, h1, h2⟩ := resE_ok he l _ h
    refine ⟨v :: vs, ?_, by simpa using h2⟩
    have hr := loadO_run hr
    have : (resS tmps (.cell a t)).run P w = .ok v w := by
      simp only [resS]
      rw [he]
      unfold Instr.loadAt at hr
      simp only [Sem.run_bind] at hr ⊢
      cases hv : e a with
      | pointer p =>
        cases p with
        | some p => rw [hv] at hr; exact hr
        | none => rw [hv] at hr; simp [Instr.sureAddr] at hr
      | _ => rw [hv] at hr; simp [Instr.sureAddr] at hr
    simp only [List.mapM_cons, Sem.run_bind, Sem.run_pure, Result.andThen_ok, h1, this]

theorem spec_of {P : Program} {f : FuncId} {fn : Func} {c : Code} {args : List Value} {w : World} {R : Value → World → Prop} (hf : P.funcs[f]? = some fn) (hb : fn.body = some c) (hn : HasBody P f = true)
    (hm : P.follows .mixedOrders = true) (n : Ann) (M : Nat) (hok : codeOK fn.ntmps M c n = true) (hl : args.length ≤ fn.ntmps)
    (h : wpA P c n (retE P fn.results R) (envA args) w) : Sp P f args w R := by
  refine ⟨hn, calls_of_wp hf hb ?_⟩
  have hs : Sim fn.ntmps { tmps := args.toArray ++ Array.replicate (fn.ntmps - args.toArray.size) undef, defers := [] } (envA args) := by
    refine ⟨by simp; omega, rfl, fun t => ?_⟩
    simp only [envA, Array.getD_eq_getD_getElem?, List.getD_eq_getElem?_getD, Array.getElem?_append]
    by_cases ht : t < args.length
    · simp [ht]
    · have : args[t]? = none := by simp; omega
      simp only [List.size_toArray, ht, if_false, this, Option.getD_none, Array.getElem?_replicate]
      split <;> rfl
  refine wpA_sound hm c n M (envA args) _ _ (envA args) _ w hok h hs (Agree.refl _ _) fun x a' e' w' hs' _ h' => ?_
  have key : ∀ (h' : resE P R fn.results.toList [] e' w'), a'.defers = [] ∧ ∃ v, (results fn a'.tmps).run P w' = .ok v w' ∧ RetK R (.returned v) w' := by
    intro h'
    obtain ⟨vs, h1, h2⟩ := resE_ok hs'.2.2 _ _ h'
    refine ⟨hs'.2.1, tupV vs, ?_, by simpa [RetK] using h2⟩
    have hres : results fn a'.tmps = (do
        let vs ← fn.results.mapM (resS a'.tmps)
        pure (if h : vs.size = 1 then vs[0] else .tuple vs)) := by
      unfold results
      congr 1
    rw [hres]
    simp only [Array.mapM_eq_mapM_toList, Sem.run_bind, Sem.run_map, h1, Result.andThen_ok, Sem.run_pure]
    congr 1
    cases vs with
    | nil => rfl
    | cons v l => cases l <;> simp [tupV]
  cases x with
  | normal => exact key h'
  | ret => exact key h'
  | _ => exact h'.elim
end Vc
end Go.Proofs.Ytbjakblkppnieaa
