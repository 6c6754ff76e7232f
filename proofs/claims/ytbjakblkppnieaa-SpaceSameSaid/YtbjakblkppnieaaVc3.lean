/- Regions whose order is drawn: a schedule that takes the readers first; its soundness for every order. -/
import Derived.Test.YtbjakblkppnieaaVc2
set_option linter.unusedVariables false
set_option linter.unusedSimpArgs false
namespace Go.Proofs.Ytbjakblkppnieaa
namespace Vc
open Go

inductive Sched where
  | done
  | rd (i : Nat) (k : Sched)
  | imp (i : Nat) (stay : List Nat) (k : Sched)
  | both (a b : Sched)

def getO (ops : Array Oper) (i : Nat) : Oper := ops.toList.getD i default
def isReadB : Callee → Bool
  | .builtin .len => true
  | .builtin .cap => true
  | .builtin .min => true
  | .builtin .max => true
  | _ => false
/-- The readers, whose value hangs on the world. -/
def isRead : Op → Bool
  | .load .. => true
  | .lookup .. => true
  | .call c => isReadB c.callee
  | _ => false
/-- What hangs on its operands alone. -/
def isPure : Op → Bool
  | .move .. | .assign .. | .makeFunc .. | .pick .. | .build .. | .nilCheck .. | .binOp .. | .unOp .. | .convert .. | .makeInterface .. | .slice .. | .fieldAddr .. | .field .. | .indexAddr .. | .index .. | .extract .. | .typeAssert .. => true
  | _ => false
/-- The reader's operation yields the same in another world. -/
def Stay (P : Program) (s : Sem Value) (v : Value) (w : World) : Prop := s.run P w = .ok v w
def stayE (P : Program) (o : Oper) (ρ : Operand → Value) (v : Value) (w : World) : Prop :=
  match o.op with
  | .load t a => loadO P t (ρ a) w = some v
  | .lookup t x i ok => Stay P (lookS t (ρ x) (ρ i) ok) v w
  | .call c =>
    match c.callee with
    | .builtin .len => Stay P (lenS c.argTypes o.type (mapE ρ c.args)) v w
    | .builtin .cap => Stay P (capS c.argTypes o.type (mapE ρ c.args)) v w
    | .builtin .min => Stay P (minS c.argTypes o.type (mapE ρ c.args)) v w
    | .builtin .max => Stay P (maxS c.argTypes o.type (mapE ρ c.args)) v w
    | _ => False
  | _ => False
def stays (P : Program) (ops : Array Oper) (e : Env) (w : World) : List Nat → Prop → Prop
  | [], A => A
  | i :: l, A => (match (getO ops i).guard with
      | none => stayE P (getO ops i) (ev e) (gv e ops i) w
      | some (j, b) => gv e ops j = .bool b → stayE P (getO ops i) (ev e) (gv e ops i) w) ∧ stays P ops e w l A

def drE (P : Program) (ops : Array Oper) (Q : Env → World → Prop) : Sched → Env → World → Prop
  | .done, e, w => Q e w
  | .rd i k, e, w => stepE P ops (getO ops i) e w fun v _ => drE P ops Q k (putE e (getO ops i).dst v) w
  | .imp i st k, e, w => stepE P ops (getO ops i) e w fun v w' => stays P ops e w' st (drE P ops Q k (putE e (getO ops i).dst v) w')
  | .both a b, e, w => drE P ops Q a e w ∧ drE P ops Q b e w

/-- What an operation waits for, by number. -/
def waits (o : Oper) : List Nat := (o.after.toList.filter fun e => Region.binds .any e).map (·.on)
/-- Whom it waits for, through others too: a bit for each. -/
def preds (ops : Array Oper) : List Nat := ops.toList.foldl (fun acc o => acc ++ [(waits o).foldl (fun m j => m ||| 2 ^ j ||| acc.getD j 0) 0]) []
def noLook (ops : Array Oper) (x y : Oper) : Bool :=
  match x.dst with
  | some d => !(y.looksAt ops).contains d && y.dst != some d
  | none => true
def selfOk (ops : Array Oper) (x : Oper) : Bool :=
  match x.dst with
  | some d => !(x.looksAt ops).contains d
  | none => false
def heads : Sched → List (Nat × List Nat × Sched)
  | .imp i st k => [(i, st, k)]
  | .both a b => heads a ++ heads b
  | _ => []
def isSelect : Op → Bool
  | .select .. => true
  | _ => false
/-- Each waits only for elder ones, the bits are right, none is a select, all fit the frame. -/
def okOps (M n : Nat) (ops : Array Oper) (ps : List Nat) : Bool :=
  ((List.range ops.size).all fun i => (waits (getO ops i)).all (fun j => Nat.blt j i) && Nat.beq (ps.getD i 0) ((waits (getO ops i)).foldl (fun m j => m ||| 2 ^ j ||| ps.getD j 0) 0)) && (ops.toList.all fun o => !isSelect o.op && dstIn M n o)
def chk (ops : Array Oper) (ps : List Nat) : Bool → Nat → List Nat → Sched → Bool
  | g, L, T, .done => !g && (List.range ops.size).all fun i => L.testBit i
  | g, L, T, .rd i k => !g && (Nat.blt i ops.size && (!L.testBit i && ((waits (getO ops i)).all (fun j => L.testBit j) && ((isRead (getO ops i).op || isPure (getO ops i).op) && (selfOk ops (getO ops i) &&
      (((List.range ops.size).all fun j => Nat.beq j i || ((ps.getD j 0).testBit i || noLook ops (getO ops i) (getO ops j))) && chk ops ps false (L ||| 2 ^ i) (i :: T) k))))))
  | g, L, T, .imp i st k => (g || (List.range ops.size).all fun j => L.testBit j || (!((waits (getO ops j)).all fun x => L.testBit x) || Nat.beq j i)) && (Nat.blt i ops.size && (!L.testBit i && ((waits (getO ops i)).all (fun j => L.testBit j) &&
      (((T.filter fun j => !(ps.getD i 0).testBit j).all fun j => noLook ops (getO ops i) (getO ops j) && (isPure (getO ops j).op || (isRead (getO ops j).op && st.contains j))) &&
      chk ops ps false (L ||| 2 ^ i) (T.filter fun j => !(ps.getD i 0).testBit j) k))))
  | g, L, T, .both a b => (g || (List.range ops.size).all fun j => L.testBit j || (!((waits (getO ops j)).all fun x => L.testBit x) || (heads (.both a b)).any fun h => Nat.beq j h.1)) && (chk ops ps true L T a && chk ops ps true L T b)

section
variable {P : Program} {ops : Array Oper} {n M N : Nat} {ps : List Nat}

theorem testBit_or (a b i : Nat) : (a ||| b).testBit i = (a.testBit i || b.testBit i) := Nat.testBit_or ..
theorem bit_self (i : Nat) : (2 ^ i).testBit i = true := by simp
theorem bit_ne {i j : Nat} (h : i ≠ j) : (2 ^ i).testBit j = false := by simp [Nat.testBit_two_pow, h]
theorem foldl_bits (ps : List Nat) (i : Nat) : ∀ (l : List Nat) (m : Nat), (l.foldl (fun m j => m ||| 2 ^ j ||| ps.getD j 0) m).testBit i = true → m.testBit i = true ∨ ∃ d ∈ l, i = d ∨ (ps.getD d 0).testBit i = true
  | [], m, h => .inl h
  | d :: l, m, h => by
    rcases foldl_bits ps i l _ h with h | ⟨d', hd, h⟩
    · simp only [testBit_or, Bool.or_eq_true] at h
      rcases h with (h | h) | h
      · exact .inl h
      · by_cases e : d = i
        · exact .inr ⟨d, by simp, .inl e.symm⟩
        · rw [bit_ne e] at h; cases h
      · exact .inr ⟨d, by simp, .inr h⟩
    · exact .inr ⟨d', by simp [hd], h⟩
theorem getO_eq {i : Nat} {o : Oper} (h : ops[i]? = some o) : getO ops i = o := by
  simp [getO, List.getD_eq_getElem?_getD, h]
theorem getO_some {i : Nat} (h : i < ops.size) : ops[i]? = some (getO ops i) := by
  simp [getO, List.getD_eq_getElem?_getD, h]
/-- A set that is closed has all that a waiting one waits for. -/
theorem preds_in (hok : okOps M N ops ps = true) (S : Nat → Prop) (hc : ∀ i, i < ops.size → S i → ∀ j ∈ waits (getO ops i), S j) :
    ∀ i, i < ops.size → (∀ j ∈ waits (getO ops i), S j) → ∀ p, (ps.getD i 0).testBit p = true → S p := by
  intro i
  induction i using Nat.strongRecOn with
  | ind i ih =>
    intro hi hw p hp
    simp only [okOps, Bool.and_eq_true, List.all_eq_true, List.mem_range] at hok
    have h1 := hok.1 i hi
    have h2 := Nat.eq_of_beq_eq_true h1.2
    rw [h2] at hp
    rcases foldl_bits ps p _ _ hp with h | ⟨d, hd, h⟩
    · simp at h
    · have hlt : d < i := Nat.le_of_ble_eq_true (h1.1 d hd)
      rcases h with rfl | h
      · exact hw _ hd
      · exact ih d hlt (by omega) (hc d (by omega) (hw d hd)) p h

def wantE (ops : Array Oper) (e : Env) (o : Oper) : Prop :=
  match o.guard with
  | none => True
  | some (j, b) => gv e ops j = .bool b
/-- Operation o yields v in world w, or is not wanted and v is undef. -/
def Yat (P : Program) (ops : Array Oper) (e : Env) (w : World) (o : Oper) (v : Value) : Prop :=
  (wantE ops e o → (execOp (ev e) o).run P w = .ok (.value v) w) ∧ (¬ wantE ops e o → v = undef)

theorem read_run {o : Oper} {e : Env} {w : World} {v : Value} (h : isRead o.op = true) (hr : stayE P o (ev e) v w) : (execOp (ev e) o).run P w = .ok (.value v) w := by
  unfold stayE at hr
  unfold execOp
  split at hr
  · rename_i ho
    have hr := loadO_run hr
    simp only [ho, Sem.run_bind, hr, Result.andThen_ok, Sem.run_pure]
  · rename_i ho
    unfold Stay lookS at hr
    simp only [ho, Sem.run_bind, hr, Result.andThen_ok, Sem.run_pure]
  · rename_i c ho
    split at hr
    all_goals first
      | exact hr.elim
      | (rename_i hc
         unfold Stay at hr
         first | unfold lenS at hr | unfold capS at hr | unfold minS at hr | unfold maxS at hr
         simp only [ho, resolve, hc]
         rw [Sem.run_bind, Sem.run_pure, Result.andThen_ok]
         simp only [invoke, builtin]
         rw [← mapE_eq]
         simp only [Sem.run_bind, hr, Result.andThen_ok, Sem.run_pure]
         done)
  · exact hr.elim
theorem val_run {s : Sem Value} {v : Value} {w : World} (h : s.run P w = .ok v w) : (do pure (Next.value (← s)) : Sem Next).run P w = .ok (.value v) w := by
  simp only [Sem.run_bind, h, Result.andThen_ok, Sem.run_pure]
theorem pure_rd {s : Sem Value} {x : Sem Next} {w : World} {K : Value → World → Prop} (hx : x = (do pure (Next.value (← s)) : Sem Next)) (h : PureV P s fun v => K v w) :
    ∃ v, K v w ∧ x.run P w = .ok (.value v) w ∧ (∀ w1, x.run P w1 = .ok (.value v) w1) := by
  subst hx
  obtain ⟨v, hr, hk⟩ := h
  exact ⟨v, hk, val_run (hr w), fun w1 => val_run (hr w1)⟩
theorem pick_run {c a b v : Value} {w : World} (hr : (pickS c a b).run P w = .ok v w) : (do pure (Next.value (if ← asBool c then a else b)) : Sem Next).run P w = .ok (.value v) w := by
  simp only [pickS, Sem.run_bind] at hr ⊢
  cases hb : (asBool c).run P w with
  | ok x w2 =>
    rw [hb] at hr
    simp only [Result.andThen_ok, Sem.run_pure, Result.ok.injEq] at hr ⊢
    exact ⟨by rw [hr.1], hr.2⟩
  | halt x w2 =>
    rw [hb] at hr
    simp at hr
theorem opE_pure {o : Oper} {e : Env} {w : World} {K : Value → World → Prop} (hc : isPure o.op = true) (h : opE P o (ev e) w K) :
    ∃ v, K v w ∧ (execOp (ev e) o).run P w = .ok (.value v) w ∧ (∀ w1, (execOp (ev e) o).run P w1 = .ok (.value v) w1) := by
  unfold opE at h
  split at h
  all_goals rename_i ho
  all_goals first
    | (rw [ho] at hc; simp only [isPure, Bool.false_eq_true] at hc; done)
    | exact False.elim h
    | skip
  all_goals
    unfold execOp
    simp only [ho]
  all_goals first
    | exact pure_rd rfl h
    | exact ⟨_, h, rfl, fun _ => rfl⟩
    | (simp only [Instr.makeFunc, Sem.run_bind, Sem.run_pure, Result.andThen_ok, ← mapE_eq]
       exact ⟨_, h, rfl, fun _ => rfl⟩)
    | skip
  · obtain ⟨v, hr, hk⟩ := h
    exact ⟨v, hk, pick_run (hr w), fun w1 => pick_run (hr w1)⟩
  · have h := pure_rd rfl h
    simp only [← Array.toList_map, Array.toArray_toList] at h
    exact h
  · obtain ⟨v, hr, hk⟩ := h
    obtain ⟨rfl, _, hv⟩ := nilS_ok (hr w)
    refine ⟨_, hk, ?_⟩
    rcases hv with ⟨a, hv⟩ | ⟨f, x, y, hv⟩ | ⟨t, x, hv⟩
    all_goals
      rw [hv]
      exact ⟨rfl, fun _ => rfl⟩
  · split at h
    · rename_i he
      obtain ⟨v, hr, hk⟩ := h
      exact ⟨v, hk, val_run (eqS_run he (hr w)), fun w1 => val_run (eqS_run he (hr w1))⟩
    · rename_i op t x y _ _ he
      obtain ⟨v, hr, hk⟩ := h
      have key : ∀ w1, (do eqGuard op t x y (ev e x) (ev e y); binOp op t (ev e x) (ev e y) : Sem Value).run P w1 = .ok v w1 := fun w1 => by
        have hr := hr w1
        unfold eqGuard
        revert he hr
        cases op <;> simp [isEq, binS]
      exact ⟨v, hk, val_run (key w), fun w1 => val_run (key w1)⟩
theorem opE_rd {o : Oper} {e : Env} {w : World} {K : Value → World → Prop} (hc : (isRead o.op || isPure o.op) = true) (h : opE P o (ev e) w K) :
    ∃ v, K v w ∧ (execOp (ev e) o).run P w = .ok (.value v) w ∧ (isPure o.op = true → ∀ w1, (execOp (ev e) o).run P w1 = .ok (.value v) w1) := by
  cases hp : isPure o.op with
  | true =>
    obtain ⟨v, h1, h2, h3⟩ := opE_pure hp h
    exact ⟨v, h1, h2, fun _ => h3⟩
  | false =>
    rw [hp, Bool.or_false] at hc
    refine (?_ : ∃ v, K v w ∧ (execOp (ev e) o).run P w = .ok (.value v) w).imp fun v hv => ⟨hv.1, hv.2, fun hh => by cases hh⟩
    unfold opE at h
    split at h
    all_goals rename_i ho
    all_goals first
      | (rw [ho] at hc; simp only [isRead, Bool.false_eq_true] at hc; done)
      | exact False.elim h
      | skip
    case h_33 c =>
      rw [ho] at hc
      unfold callE at h
      split at h
      all_goals rename_i hcc
      all_goals first
        | exact False.elim h
        | (simp only [isRead, hcc, isReadB, Bool.false_eq_true] at hc; done)
        | (obtain ⟨v, hr, hk⟩ := h
           exact ⟨v, hk, read_run (by rw [ho]; exact hc) (by unfold stayE; simp only [ho, hcc]; exact hr)⟩)
    all_goals
      obtain ⟨v, hr, hk⟩ := h
      exact ⟨v, hk, read_run (by rw [ho]; rfl) (by unfold stayE; simp only [ho]; exact hr)⟩
end
end Vc
end Go.Proofs.Ytbjakblkppnieaa
