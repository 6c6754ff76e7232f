/- A predicate transformer over environments that are functions, computed from a function's code and a few annotations, and its soundness towards the kit's Calls. It speaks of any program. -/
import Derived.Orders
import Derived.Tactics
import Derived.KernelRfl
set_option linter.unusedVariables false
set_option linter.unusedSimpArgs false
namespace Go.Proofs.Ytbjakblkppnieaa
namespace Vc
open Go

abbrev Env := Nat → Value
def upd (e : Env) (d : Nat) (v : Value) : Env := fun t => bif Nat.beq t d then v else e t
def putE (e : Env) (d : Option Tmp) (v : Value) : Env := match d with | none => e | some d => upd e d v
def ev (e : Env) : Operand → Value
  | .tmp t => e t
  | .const v => v
  | .global g => .pointer (some ⟨g, 0, none⟩)
  | .func f => .func (.func f) #[] #[]
def mapE (ρ : Operand → Value) (xs : Array Operand) : Array Value := (xs.toList.map ρ).toArray

def RetK (K : Value → World → Prop) : Ending → World → Prop
  | .returned v, w => K v w
  | _, _ => False
def HasBody (P : Program) (f : FuncId) : Bool :=
  match P.funcs[f]? with
  | some fn => (!(fn.name == "runtime.NumGoroutine")) && !fn.body.isNone
  | none => false
/-- Function f, called so, returns; what it returns and the world behind it meet R. -/
def Sp (P : Program) (f : FuncId) (args : List Value) (w : World) (R : Value → World → Prop) : Prop :=
  HasBody P f = true ∧ Calls P f args.toArray w (RetK R)
theorem RetK.imp {K K' : Value → World → Prop} (h : ∀ v w, K v w → K' v w) : ∀ e w, RetK K e w → RetK K' e w
  | .returned _, _, hk => h _ _ hk
  | .panicked _, _, hk => hk
  | .outgrown, _, hk => hk
theorem Sp.mono {P : Program} {f : FuncId} {args : List Value} {w : World} {R R' : Value → World → Prop} (h : Sp P f args w R) (hr : ∀ v w', R v w' → R' v w') : Sp P f args w R' :=
  ⟨h.1, h.2.mono (RetK.imp hr)⟩

def PureV (P : Program) (s : Sem Value) (K : Value → Prop) : Prop := ∃ v, (∀ w, s.run P w = .ok v w) ∧ K v
def ReadV (P : Program) (s : Sem Value) (w : World) (K : Value → Prop) : Prop := ∃ v, s.run P w = .ok v w ∧ K v
def RunV (P : Program) (s : Sem Value) (w : World) (K : Value → World → Prop) : Prop := ∃ v w', s.run P w = .ok v w' ∧ K v w'
def RunU (P : Program) (s : Sem Unit) (w : World) (K : World → Prop) : Prop := ∃ w', s.run P w = .ok () w' ∧ K w'
/-- A call of a function value. -/
def CallV (P : Program) (fv : Value) (args : List Value) (w : World) (K : Value → World → Prop) : Prop :=
  ∃ f first cap, fv = .func (.func f) first cap ∧ Sp P f (first.toList ++ args ++ cap.toList) w K

/-- How a variable of type t lies: no such type; one cell; so many cells. -/
def shapeT (P : Program) (t : TypeId) : Option (Option Nat) :=
  match P.underlying t with
  | some (.struct _) => (P.info? t).map fun i => some i.size
  | some (.array _ _) => (P.info? t).map fun i => some i.size
  | some _ => some none
  | none => none
def sizeT (P : Program) (t : TypeId) : Option Nat := (P.info? t).map fun i => i.size
def cellsO (w : World) (p : Addr) : Nat → Nat → Option (List Value)
  | _, 0 => some []
  | i, n + 1 =>
    match w.cell? (p.add i) with
    | some c => (cellsO w p (i + 1) n).map (c :: ·)
    | none => none
/-- A variable's value. -/
def loadO (P : Program) (t : TypeId) (a : Value) (w : World) : Option Value :=
  match a with
  | .pointer (some p) =>
    match shapeT P t with
    | some none => w.cell? p
    | some (some n) => (cellsO w p 0 n).map fun l => .agg l.toArray
    | none => none
  | _ => none
def storeL (w : World) (p : Addr) : Nat → List Value → Option World
  | _, [] => some w
  | i, c :: l => if ((w.cell? (p.add i)).isSome && !w.frozen? (p.add i) && c.oneCell') = true then storeL (w.setCell (p.add i) c) p (i + 1) l else none
/-- The world where a variable has a new value. -/
def storeO (P : Program) (t : TypeId) (a x : Value) (w : World) : Option World :=
  match a with
  | .pointer (some p) => if sizeT P t = some x.cells.size then storeL w p 0 x.cells.toList else none
  | _ => none
def LoadV (P : Program) (t : TypeId) (a : Value) (w : World) (K : Value → Prop) : Prop := ∃ v, loadO P t a w = some v ∧ K v
def StoreV (P : Program) (t : TypeId) (a x : Value) (w : World) (K : World → Prop) : Prop := ∃ w', storeO P t a x w = some w' ∧ K w'

def pickS (c a b : Value) : Sem Value := do pure (if ← asBool c then a else b)
def nilS (v : Value) : Sem Value :=
  match v with
  | .pointer (some a) => pure (.pointer (some a))
  | .func (.func f) x y => pure (.func (.func f) x y)
  | .iface t x => pure (.iface t x)
  | _ => stuck "nil check"
def isC : Operand → Bool
  | .const _ => true
  | _ => false
def isEq : BinOp → Bool
  | .eql => true
  | .neq => true
  | _ => false
def eqS (op : BinOp) (t : TypeId) (c : Bool) (a b : Value) : Sem Value := do
  (match a, b with
    | .nilIface, .nilIface => if c then pure () else stuck "nil interfaces"
    | .agg _, .agg _ => do
      if !(← program).eqGuardType (← program).depth t then return
      stuck "interfaces in structs"
    | _, _ => pure ())
  binOp op t a b

/-! the operations, by names of their own, which no simp set of the kit opens -/
def buildS (t : TypeId) (parts : Array (Nat × Value)) : Sem Value := Instr.build t parts
def unS (op : UnOp) (x : Value) : Sem Value := Op.unary op x
def convS (s d : TypeId) (x : Value) : Sem Value := convert s d x
def ifaceS (t : TypeId) (x : Value) : Sem Value := Instr.makeInterface t x
def sliceS (t : TypeId) (x : Value) (lo hi mx : Option Value) : Sem Value := Instr.sliceAt t x lo hi mx
def faddrS (t : TypeId) (x : Value) (f : Nat) : Sem Value := Instr.fieldAt t x f
def fieldS (t : TypeId) (x : Value) (f : Nat) : Sem Value := Instr.field t x f
def iaddrS (t : TypeId) (x i : Value) : Sem Value := Instr.indexAt t x i
def indexS (t : TypeId) (x i : Value) : Sem Value := Instr.index t x i
def extrS (x : Value) (i : Nat) : Sem Value := Instr.extract x i
def assertS (x : Value) (t a : TypeId) (ok : Bool) : Sem Value := Instr.typeAssert x t a ok
def lookS (t : TypeId) (x i : Value) (ok : Bool) : Sem Value := Instr.lookup t x i ok
def allocS (t : TypeId) (h : Bool) (o : Value) : Sem Value := Instr.alloc t h o
def boxS (t : TypeId) (x : Value) : Sem Value := Instr.box t x
def bsliceS (t : TypeId) (n : Nat) (parts : Array (Nat × Value)) : Sem Value := Instr.buildSlice t n parts
def mkmapS (t : TypeId) (r : Option Value) : Sem Value := Instr.makeMap t r
def mksliceS (t : TypeId) (l c : Value) : Sem Value := Instr.makeSlice t l c
def mapupS (t : TypeId) (m k x : Value) : Sem Unit := Instr.mapUpdate t m k x
def mapentS (t : TypeId) (m k : Value) : Sem Value := Instr.mapEntry t m k
def entstS (t : TypeId) (m s x : Value) : Sem Unit := Instr.entryStore t m s x
def rangeS (t : TypeId) (x : Value) : Sem Value := Instr.range t x
def nextS (x : Value) (s : Bool) (t : TypeId) : Sem Value := Instr.next x s t
def entryS (x : Value) : Sem Value := Instr.entry x
def binS (op : BinOp) (t : TypeId) (x y : Value) : Sem Value := binOp op t x y
def lenS (ts : Array TypeId) (t : TypeId) (xs : Array Value) : Sem Value := Builtin.len_ ts t xs
def capS (ts : Array TypeId) (t : TypeId) (xs : Array Value) : Sem Value := Builtin.cap_ ts t xs
def minS (ts : Array TypeId) (t : TypeId) (xs : Array Value) : Sem Value := Builtin.min_ ts t xs
def maxS (ts : Array TypeId) (t : TypeId) (xs : Array Value) : Sem Value := Builtin.max_ ts t xs
def appS (ts : Array TypeId) (t : TypeId) (xs : Array Value) : Sem Value := Builtin.append_ ts t xs
def copyS (ts : Array TypeId) (t : TypeId) (xs : Array Value) : Sem Value := Builtin.copy_ ts t xs
def delS (ts : Array TypeId) (t : TypeId) (xs : Array Value) : Sem Value := Builtin.delete_ ts t xs
def clearS (ts : Array TypeId) (t : TypeId) (xs : Array Value) : Sem Value := Builtin.clear_ ts t xs

def callE (P : Program) (c : Call) (ty : TypeId) (ρ : Operand → Value) (w : World) (K : Value → World → Prop) : Prop :=
  match c.callee with
  | .value (.func f) => Sp P f (c.args.toList.map ρ) w K
  | .value x => CallV P (ρ x) (c.args.toList.map ρ) w K
  | .builtin .len => ReadV P (lenS c.argTypes ty (mapE ρ c.args)) w fun v => K v w
  | .builtin .cap => ReadV P (capS c.argTypes ty (mapE ρ c.args)) w fun v => K v w
  | .builtin .min => ReadV P (minS c.argTypes ty (mapE ρ c.args)) w fun v => K v w
  | .builtin .max => ReadV P (maxS c.argTypes ty (mapE ρ c.args)) w fun v => K v w
  | .builtin .append => RunV P (appS c.argTypes ty (mapE ρ c.args)) w K
  | .builtin .copy => RunV P (copyS c.argTypes ty (mapE ρ c.args)) w K
  | .builtin .delete => RunV P (delS c.argTypes ty (mapE ρ c.args)) w K
  | .builtin .clear => RunV P (clearS c.argTypes ty (mapE ρ c.args)) w K
  | _ => False

/-- One operation. -/
def opE (P : Program) (o : Oper) (ρ : Operand → Value) (w : World) (K : Value → World → Prop) : Prop :=
  match o.op with
  | .move x => K (ρ x) w
  | .assign x => K (ρ x) w
  | .makeFunc fn first cap => K (.func fn (mapE ρ first) (mapE ρ cap)) w
  | .pick c a b => PureV P (pickS (ρ c) (ρ a) (ρ b)) fun v => K v w
  | .build t ps => PureV P (buildS t (ps.toList.map fun x => (x.1, ρ x.2)).toArray) fun v => K v w
  | .nilCheck x => PureV P (nilS (ρ x)) fun v => K v w
  | .binOp op t x y _ =>
    match isEq op with
    | true => PureV P (eqS op t (isC x || isC y) (ρ x) (ρ y)) fun v => K v w
    | false => PureV P (binS op t (ρ x) (ρ y)) fun v => K v w
  | .unOp op _ x => PureV P (unS op (ρ x)) fun v => K v w
  | .convert s d x => PureV P (convS s d (ρ x)) fun v => K v w
  | .makeInterface t x => PureV P (ifaceS t (ρ x)) fun v => K v w
  | .slice t x lo hi mx => PureV P (sliceS t (ρ x) (lo.map ρ) (hi.map ρ) (mx.map ρ)) fun v => K v w
  | .fieldAddr t x f => PureV P (faddrS t (ρ x) f) fun v => K v w
  | .field t x f => PureV P (fieldS t (ρ x) f) fun v => K v w
  | .indexAddr t x i => PureV P (iaddrS t (ρ x) (ρ i)) fun v => K v w
  | .index t x i => PureV P (indexS t (ρ x) (ρ i)) fun v => K v w
  | .extract x i => PureV P (extrS (ρ x) i) fun v => K v w
  | .typeAssert x t a ok => PureV P (assertS (ρ x) t a ok) fun v => K v w
  | .load t a => LoadV P t (ρ a) w fun v => K v w
  | .lookup t x i ok => ReadV P (lookS t (ρ x) (ρ i) ok) w fun v => K v w
  | .alloc t => RunV P (allocS t true (.tuple #[])) w K
  | .box t x => RunV P (boxS t (ρ x)) w K
  | .buildSlice t n ps => RunV P (bsliceS t n (ps.toList.map fun x => (x.1, ρ x.2)).toArray) w K
  | .makeMap t r => RunV P (mkmapS t (r.map ρ)) w K
  | .makeSlice t l c => RunV P (mksliceS t (ρ l) (ρ c)) w K
  | .store t a x => StoreV P t (ρ a) (ρ x) w (K undef)
  | .mapUpdate t m k x => RunU P (mapupS t (ρ m) (ρ k) (ρ x)) w (K undef)
  | .insert t m k x => RunU P (mapupS t (ρ m) (ρ k) (ρ x)) w (K undef)
  | .mapEntry t m k => RunV P (mapentS t (ρ m) (ρ k)) w K
  | .entryStore t m s x => RunU P (entstS t (ρ m) (ρ s) (ρ x)) w (K undef)
  | .range t x => RunV P (rangeS t (ρ x)) w K
  | .next it s => RunV P (nextS (ρ it) s o.type) w K
  | .entry it => RunV P (entryS (ρ it)) w K
  | .call c => callE P c o.type ρ w K
  | _ => False

/-- What an operation must come to, in the model's words. -/
def OpK (P : Program) (o : Oper) (ρ : Operand → Value) (w : World) (K : Value → World → Prop) : Prop :=
  match (execOp ρ o).run P w with
  | .ok (.value v) w' => K v w'
  | .ok .skip w' => K undef w'
  | .ok (.enter f args) w' => Calls P f args w' (RetK K)
  | _ => False

theorem mapE_eq (ρ : Operand → Value) (xs : Array Operand) : mapE ρ xs = xs.map ρ := by
  unfold mapE
  rw [← Array.toList_map]
theorem runV_ok {P : Program} {s : Sem Value} {w : World} {K : Value → World → Prop} (h : RunV P s w K) :
    match (do pure (Next.value (← s)) : Sem Next).run P w with
    | .ok (.value v) w' => K v w'
    | .ok .skip w' => K undef w'
    | .ok (.enter f args) w' => Calls P f args w' (RetK K)
    | _ => False := by
  obtain ⟨v, w', hr, hk⟩ := h
  simp only [Sem.run_bind, hr, Result.andThen_ok, Sem.run_pure]
  exact hk
theorem runU_ok {P : Program} {s : Sem Unit} {w : World} {K : Value → World → Prop} (h : RunU P s w (K undef)) :
    match (do s; pure Next.skip : Sem Next).run P w with
    | .ok (.value v) w' => K v w'
    | .ok .skip w' => K undef w'
    | .ok (.enter f args) w' => Calls P f args w' (RetK K)
    | _ => False := by
  obtain ⟨w', hr, hk⟩ := h
  simp only [Sem.run_bind, hr, Result.andThen_ok, Sem.run_pure]
  exact hk
theorem PureV.run {P : Program} {s : Sem Value} {w : World} {K : Value → World → Prop} (h : PureV P s fun v => K v w) : RunV P s w K := by
  obtain ⟨v, hr, hk⟩ := h
  exact ⟨v, w, hr w, hk⟩
theorem ReadV.run {P : Program} {s : Sem Value} {w : World} {K : Value → World → Prop} (h : ReadV P s w fun v => K v w) : RunV P s w K := by
  obtain ⟨v, hr, hk⟩ := h
  exact ⟨v, w, hr, hk⟩
theorem cellsO_run {P : Program} {w : World} {p : Addr} : ∀ (n i : Nat) (acc : Array Value) (l : List Value), cellsO w p i n = some l → (loadCellsFrom p i n acc).run P w = .ok (acc ++ l.toArray) w
  | 0, i, acc, l, h => by
    simp only [cellsO, Option.some.injEq] at h
    subst h
    simp [loadCellsFrom]
  | n + 1, i, acc, l, h => by
    simp only [cellsO] at h
    split at h
    · rename_i c hc
      simp only [Option.map_eq_some_iff] at h
      obtain ⟨l', hl, rfl⟩ := h
      have ih := cellsO_run (P := P) n (i + 1) (acc.push c) l' hl
      simp only [loadCellsFrom, Sem.run_bind, run_load, hc, Result.andThen_ok, ih]
      simp
    · cases h
theorem loadO_run {P : Program} {t : TypeId} {a v : Value} {w : World} (h : loadO P t a w = some v) : (Instr.loadAt t a).run P w = .ok v w := by
  unfold loadO at h
  split at h
  · rename_i p
    have hu : ∀ d, P.underlying t = some d → (underlying t).run P w = .ok d w := fun d hd => by simp [underlying, hd]
    split at h
    · rename_i hs
      unfold shapeT at hs
      have hagg : (isAgg t).run P w = .ok false w := by
        unfold isAgg
        split at hs
        · rename_i hd; simp [hd] at hs
        · rename_i hd; simp [hd] at hs
        · rename_i d h1 h2 hd
          rw [Sem.run_bind, hu d hd, Result.andThen_ok]
          split
          · exact (h1 _ rfl).elim
          · exact (h2 _ _ rfl).elim
          · rfl
        · cases hs
      simp [Instr.loadAt, Instr.sureAddr, loadVar, hagg, run_load, h]
    · rename_i n hs
      simp only [Option.map_eq_some_iff] at h
      obtain ⟨l, hl, rfl⟩ := h
      unfold shapeT at hs
      have key : (isAgg t).run P w = .ok true w ∧ (sizeOf t).run P w = .ok n w := by
        unfold isAgg sizeOf typeInfo
        split at hs
        · rename_i hd
          simp only [Option.map_eq_some_iff] at hs
          obtain ⟨i, hi, hs⟩ := hs
          injection hs with hs
          rw [Sem.run_bind, hu _ hd, Result.andThen_ok]
          refine ⟨rfl, by simp [hi, hs]⟩
        · rename_i hd
          simp only [Option.map_eq_some_iff] at hs
          obtain ⟨i, hi, hs⟩ := hs
          injection hs with hs
          rw [Sem.run_bind, hu _ hd, Result.andThen_ok]
          refine ⟨rfl, by simp [hi, hs]⟩
        · simp at hs
        · cases hs
      have hc := cellsO_run (P := P) n 0 #[] l hl
      simp only [Instr.loadAt, Instr.sureAddr, loadVar, Sem.run_bind, Sem.run_pure, Result.andThen_ok, key.1, key.2, if_true, loadCells, hc]
      simp
    · cases h
  · cases h
theorem storeL_run {P : Program} {p : Addr} : ∀ (l : List Value) (i : Nat) (w w' : World), storeL w p i l = some w' → (storeCells p l i).run P w = .ok () w'
  | [], i, w, w', h => by
    simp only [storeL, Option.some.injEq] at h
    subst h
    rfl
  | c :: l, i, w, w', h => by
    simp only [storeL] at h
    split at h
    · rename_i hc
      simp only [Bool.and_eq_true, Bool.not_eq_true'] at hc
      have ih := storeL_run (P := P) l (i + 1) _ _ h
      obtain ⟨u, hu⟩ := Option.isSome_iff_exists.1 hc.1.1
      simp only [storeCells, Sem.run_bind, run_store P w _ c .plain hc.2]
      simp only [stored, hu, hc.1.2, Bool.false_eq_true, if_false, Result.andThen_ok]
      exact ih
    · cases h
theorem storeO_run {P : Program} {t : TypeId} {a x : Value} {w w' : World} (h : storeO P t a x w = some w') : (Instr.storeAt t a x).run P w = .ok () w' := by
  unfold storeO at h
  split at h
  · rename_i p
    split at h
    · rename_i hs
      unfold sizeT at hs
      simp only [Option.map_eq_some_iff] at hs
      obtain ⟨i, hi, hs⟩ := hs
      have hsz : (sizeOf t).run P w = .ok x.cells.size w := by simp [sizeOf, typeInfo, hi, hs]
      simp only [Instr.storeAt, Instr.sureAddr, storeVar, Sem.run_bind, Sem.run_pure, Result.andThen_ok, hsz, ne_eq, not_true_eq_false, if_false]
      exact storeL_run _ _ _ _ h
    · cases h
  · cases h
theorem nilS_ok {P : Program} {v u : Value} {w w' : World} (h : (nilS v).run P w = .ok u w') : u = v ∧ w' = w ∧ ((∃ a, v = .pointer (some a)) ∨ (∃ f x y, v = .func (.func f) x y) ∨ ∃ t x, v = .iface t x) := by
  unfold nilS at h
  split at h
  all_goals first
    | (simp only [Sem.run_pure, Result.ok.injEq] at h; obtain ⟨rfl, rfl⟩ := h; simp)
    | simp [stuck] at h
theorem eqS_run {P : Program} {op : BinOp} {t : TypeId} {x y : Operand} {a b v : Value} {w w' : World} (he : isEq op = true)
    (h : (eqS op t (isC x || isC y) a b).run P w = .ok v w') : (do eqGuard op t x y a b; binOp op t a b : Sem Value).run P w = .ok v w' := by
  unfold eqS at h
  unfold eqGuard
  cases op
  all_goals first
    | (simp only [isEq, Bool.false_eq_true] at he; done)
    | skip
  all_goals simp only [Bool.not_true, Bool.false_eq_true, if_false]
  all_goals
    split at h
    · have hc : (isC x || isC y) = true := by
        cases hc : (isC x || isC y) with
        | true => rfl
        | false => simp [hc] at h
      simp only [hc, if_true] at h
      revert hc
      cases x <;> cases y <;> first
        | (intro hc; simp [isC] at hc; done)
        | (intro _; exact h)
    · simp only [Sem.run_bind, run_program, Result.andThen_ok] at h ⊢
      split at h
      · rename_i hg
        simp only [hg, if_true, Sem.run_pure, Result.andThen_ok] at h ⊢
        exact h
      · simp at h
    · simp only [Sem.run_bind, Sem.run_pure, Result.andThen_ok] at h ⊢
      exact h
theorem callFunc_ok {P : Program} {f : FuncId} {args : List Value} {w : World} {K : Value → World → Prop} {a : Array Value} (ha : a = args.toArray) (h : Sp P f args w K) :
    match (callFunc f a).run P w with
    | .ok (.value v) w' => K v w'
    | .ok .skip w' => K undef w'
    | .ok (.enter f args) w' => Calls P f args w' (RetK K)
    | _ => False := by
  subst ha
  obtain ⟨hb, hc⟩ := h
  unfold HasBody at hb
  unfold callFunc
  simp only [Sem.run_bind, run_program, Result.andThen_ok]
  split at hb
  · rename_i fn hf
    simp only [Bool.and_eq_true, Bool.not_eq_true'] at hb
    simp only [hf, hb.1, hb.2, Bool.false_eq_true, if_false, Sem.run_pure]
    exact hc
  · cases hb
theorem callE_ok {P : Program} {c : Call} {o : Oper} {e : Env} {w : World} {K : Value → World → Prop} (ho : o.op = .call c) (h : callE P c o.type (ev e) w K) : OpK P o (ev e) w K := by
  unfold OpK execOp
  simp only [ho]
  unfold callE at h
  have hm : c.args.map (ev e) = (c.args.toList.map (ev e)).toArray := (mapE_eq _ _).symm
  split at h
  case h_1 f hc =>
    simp only [resolve, hc, ev, Deferred.ofValue, Sem.run_bind, Sem.run_pure, Result.andThen_ok, invoke]
    exact callFunc_ok (by rw [hm]; simp) h
  case h_2 x _ hc =>
    obtain ⟨f, first, cap, hf, hs⟩ := h
    simp only [resolve, hc, hf, Deferred.ofValue, Sem.run_bind, Sem.run_pure, Result.andThen_ok, invoke]
    exact callFunc_ok (by rw [hm]; simp) hs
  all_goals rename_i hc
  all_goals first
    | exact False.elim h
    | skip
  all_goals
    simp only [resolve, hc]
    rw [Sem.run_bind, Sem.run_pure, Result.andThen_ok]
    simp only [invoke, builtin]
    rw [← mapE_eq]
    first | exact runV_ok h | exact runV_ok (ReadV.run h)
theorem opE_ok {P : Program} {o : Oper} {e : Env} {w : World} {K : Value → World → Prop} (h : opE P o (ev e) w K) : OpK P o (ev e) w K := by
  unfold opE at h
  split at h
  all_goals rename_i ho
  all_goals first
    | exact callE_ok ho h
    | exact False.elim h
    | skip
  all_goals
    unfold OpK execOp
    simp only [ho]
  all_goals first
    | exact h
    | exact runV_ok (PureV.run h)
    | exact runV_ok (ReadV.run h)
    | exact runV_ok h
    | exact runU_ok h
    | (obtain ⟨v, hv, hk⟩ := h; exact runV_ok ⟨v, w, loadO_run hv, hk⟩)
    | (obtain ⟨w', hv, hk⟩ := h; exact runU_ok ⟨w', storeO_run hv, hk⟩)
    | skip
  · simp only [Instr.makeFunc, Sem.run_bind, Sem.run_pure, Result.andThen_ok, ← mapE_eq]
    exact h
  · obtain ⟨v, hr, hk⟩ := h
    have hr := hr w
    simp only [pickS, Sem.run_bind] at hr ⊢
    cases hb : (asBool _).run P w with
    | ok b w1 =>
      rw [hb] at hr
      simp only [Result.andThen_ok, Sem.run_pure, Result.ok.injEq] at hr ⊢
      obtain ⟨rfl, rfl⟩ := hr
      exact hk
    | halt x w1 =>
      rw [hb] at hr
      simp at hr
  · have h := runV_ok (PureV.run h)
    simp only [← Array.toList_map, Array.toArray_toList] at h
    exact h
  · obtain ⟨v, hr, hk⟩ := h
    obtain ⟨rfl, _, hv⟩ := nilS_ok (hr w)
    rcases hv with ⟨a, hv⟩ | ⟨f, x, y, hv⟩ | ⟨t, x, hv⟩
    all_goals
      rw [hv] at hk ⊢
      simpa using hk
  · split at h
    · rename_i he
      obtain ⟨v, hr, hk⟩ := h
      have := eqS_run he (hr w)
      exact runV_ok ⟨v, w, this, hk⟩
    · rename_i op t x y _ _ he
      obtain ⟨v, hr, hk⟩ := h
      refine runV_ok ⟨v, w, ?_, hk⟩
      have hr := hr w
      unfold eqGuard
      revert he hr
      cases op <;> simp [isEq, binS]
  · have h := runV_ok h
    simp only [← Array.toList_map, Array.toArray_toList] at h
    exact h
end Vc
end Go.Proofs.Ytbjakblkppnieaa
