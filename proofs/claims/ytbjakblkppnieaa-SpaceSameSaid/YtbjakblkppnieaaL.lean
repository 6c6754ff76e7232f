/- Words for verification conditions: what each operation comes to, as equations; frames of worlds. It speaks of any program. -/
import Derived.Test.YtbjakblkppnieaaVc7
import Derived.Below
import Derived.Laws.Strings
import Derived.Laws.StructEq
import Derived.Laws.NewBlocks
import Derived.Laws.Entries
set_option linter.unusedVariables false
set_option linter.unusedSimpArgs false
namespace Go.Proofs.Ytbjakblkppnieaa
open Go Vc Go.RowKit

abbrev ptr (b o : Nat) : Value := .pointer (some ⟨b, o, none⟩)
theorem add_plain (b o n : Nat) : (⟨b, o, none⟩ : Addr).add n = ⟨b, o + n, none⟩ := by unfold Addr.add; split <;> simp_all
/-- A byte of a text. -/
def sb (s : ByteArray) (i : Nat) : UInt8 := s.data.getD i 0

theorem str_inj (s u : ByteArray) : s.toList = u.toList ↔ s = u := by
  rw [ByteArray.toList_eq, ByteArray.toList_eq]
  exact ⟨fun h => by cases s; cases u; congr 1; exact Array.toList_inj.1 h, fun h => by rw [h]⟩
section
variable {P : Program} {K : Value → Prop} {K2 : Value → World → Prop} {KU : World → Prop} {w : World}
theorem pv_of {s : Sem Value} {v : Value} (h : ∀ w, s.run P w = .ok v w) : PureV P s K = K v := propext
  ⟨fun ⟨u, hu, hk⟩ => by have := (h default).symm.trans (hu default); injection this with this; rw [this]; exact hk, fun hk => ⟨v, h, hk⟩⟩
theorem rv_of {s : Sem Value} {v : Value} (h : s.run P w = .ok v w) : ReadV P s w K = K v := propext
  ⟨fun ⟨u, hu, hk⟩ => by have := h.symm.trans hu; injection this with this; rw [this]; exact hk, fun hk => ⟨v, h, hk⟩⟩
theorem run_of {s : Sem Value} {v : Value} {w' : World} (h : s.run P w = .ok v w') : RunV P s w K2 = K2 v w' := propext
  ⟨fun ⟨u, w1, hu, hk⟩ => by have := h.symm.trans hu; injection this with h1 h2; rw [h1, h2]; exact hk, fun hk => ⟨v, w', h, hk⟩⟩
theorem runU_of {s : Sem Unit} {w' : World} (h : s.run P w = .ok () w') : RunU P s w KU = KU w' := propext
  ⟨fun ⟨w1, hu, hk⟩ => by have := h.symm.trans hu; injection this with h1 h2; rw [h2]; exact hk, fun hk => ⟨w', h, hk⟩⟩
theorem stay_of {s : Sem Value} {v u : Value} (h : s.run P w = .ok v w) : Stay P s u w = (v = u) := propext
  ⟨fun hs => by have := h.symm.trans hs; injection this, fun e => by rw [← e]; exact h⟩

/-! conditions -/
theorem ifP_eq (b : Bool) (A B : Prop) : IfP (.bool b) A B = ((b = true → A) ∧ (b = false → B)) := propext
  ⟨fun ⟨c, hc, h1, h2⟩ => by injection hc with hc; subst hc; exact ⟨h1, h2⟩, fun ⟨h1, h2⟩ => ⟨b, rfl, h1, h2⟩⟩
@[go_sem ↓] theorem ifP_t (A B : Prop) : IfP (.bool true) A B = A := by simp [ifP_eq]
@[go_sem ↓] theorem ifP_f (A B : Prop) : IfP (.bool false) A B = B := by simp [ifP_eq]
variable {run : (Value → World → Prop) → Prop}
@[go_sem ↓] theorem guard_tt : GuardV (.bool true) true run w K2 = run K2 := by simp [GuardV]
@[go_sem ↓] theorem guard_ff : GuardV (.bool false) false run w K2 = run K2 := by simp [GuardV]
@[go_sem ↓] theorem guard_tf : GuardV (.bool true) false run w K2 = K2 undef w := by simp [GuardV]
@[go_sem ↓] theorem guard_ft : GuardV (.bool false) true run w K2 = K2 undef w := by simp [GuardV]
@[go_sem ↓] theorem guard_u (b : Bool) : GuardV undef b run w K2 = K2 undef w := by simp [GuardV, undef]
theorem guard_eq (c b : Bool) : GuardV (.bool c) b run w K2 = ((c = b → run K2) ∧ (c ≠ b → K2 undef w)) := by simp [GuardV]
@[go_sem ↓] theorem pick_t (a b : Value) : PureV P (pickS (.bool true) a b) K = K a := pv_of fun _ => rfl
@[go_sem ↓] theorem pick_f (a b : Value) : PureV P (pickS (.bool false) a b) K = K b := pv_of fun _ => rfl
theorem Join.intro {α : Type} {B : (α → World → Prop) → Prop} {K : α → World → Prop} (J : α → World → Prop) (hb : ∀ K, (∀ x w, J x w → K x w) → B K) (hk : ∀ x w, J x w → K x w) : Join B K := hb K hk
theorem Join.intro0 {B : (World → Prop) → Prop} {K : World → Prop} (J : World → Prop) (hb : ∀ K, (∀ w, J w → K w) → B K) (hk : ∀ w, J w → K w) : Join B K := hb K hk
theorem Join.intro2 {B : (Value → Value → World → Prop) → Prop} {K : Value → Value → World → Prop} (J : Value → Value → World → Prop) (hb : ∀ K, (∀ x y w, J x y w → K x y w) → B K) (hk : ∀ x y w, J x y w → K x y w) : Join B K := hb K hk

/-! integers, truths, texts -/
section
variable {t : TypeId} {k : IntKind} (a b : Int) (c : Bool)
@[go_sem ↓] theorem op_add : PureV P (binS .add t (.int k a) (.int k b)) K = K (.int k (k.wrap (a + b))) := pv_of fun _ => by simp [binS, binOp, Op.intArith]
@[go_sem ↓] theorem op_sub : PureV P (binS .sub t (.int k a) (.int k b)) K = K (.int k (k.wrap (a - b))) := pv_of fun _ => by simp [binS, binOp, Op.intArith]
@[go_sem ↓] theorem op_mul : PureV P (binS .mul t (.int k a) (.int k b)) K = K (.int k (k.wrap (a * b))) := pv_of fun _ => by simp [binS, binOp, Op.intArith]
@[go_sem ↓] theorem op_lss : PureV P (binS .lss t (.int k a) (.int k b)) K = K (.bool (decide (a < b))) := pv_of fun _ => by simp [binS, binOp, Op.intCmp]
@[go_sem ↓] theorem op_leq : PureV P (binS .leq t (.int k a) (.int k b)) K = K (.bool (decide (a ≤ b))) := pv_of fun _ => by simp [binS, binOp, Op.intCmp]
@[go_sem ↓] theorem op_gtr : PureV P (binS .gtr t (.int k a) (.int k b)) K = K (.bool (decide (b < a))) := pv_of fun _ => by simp [binS, binOp, Op.intCmp]
@[go_sem ↓] theorem op_geq : PureV P (binS .geq t (.int k a) (.int k b)) K = K (.bool (decide (b ≤ a))) := pv_of fun _ => by simp [binS, binOp, Op.intCmp]
@[go_sem ↓] theorem eq_int : PureV P (eqS .eql t c (.int k a) (.int k b)) K = K (.bool (decide (a = b))) := pv_of fun _ => by simp [eqS, binOp, Op.intCmp, Bool.beq_eq_decide_eq]
@[go_sem ↓] theorem ne_int : PureV P (eqS .neq t c (.int k a) (.int k b)) K = K (.bool (!decide (a = b))) := pv_of fun _ => by simp [eqS, binOp, Op.intCmp, Bool.beq_eq_decide_eq, bne]
@[go_sem ↓] theorem eq_str (s u : ByteArray) : PureV P (eqS .eql t c (.string s) (.string u)) K = K (.bool (decide (s = u))) := pv_of fun _ => by simp [eqS, binOp, Op.stringOp, Bool.beq_eq_decide_eq, str_inj]
@[go_sem ↓] theorem ne_str (s u : ByteArray) : PureV P (eqS .neq t c (.string s) (.string u)) K = K (.bool (!decide (s = u))) := pv_of fun _ => by simp [eqS, binOp, Op.stringOp, Bool.beq_eq_decide_eq, bne, str_inj]
/-- One text ahead of another. -/
def slt (a b : ByteArray) : Bool := Op.bytesLess a.toList b.toList
@[go_sem ↓] theorem op_sgeq (s u : ByteArray) : PureV P (binS .geq t (.string s) (.string u)) K = K (.bool (!slt s u)) := pv_of fun _ => by simp [binS, binOp, Op.stringOp, slt]
@[go_sem ↓] theorem op_slss (s u : ByteArray) : PureV P (binS .lss t (.string s) (.string u)) K = K (.bool (slt s u)) := pv_of fun _ => by simp [binS, binOp, Op.stringOp, slt]
@[go_sem ↓] theorem op_not (x : Bool) : PureV P (unS .not (.bool x)) K = K (.bool (!x)) := pv_of fun _ => rfl
end
/-! structs that are compared -/
def eqF (P : Program) (d : Nat) (xs ys : Array Value) : List (Bool × TypeId × Nat) → Sem Bool
  | [] => pure true
  | f :: fs =>
    if f.1 = true then do
      let a ← part f.2.1 xs f.2.2
      let b ← part f.2.1 ys f.2.2
      let r ← Op.equalIn d f.2.1 a b
      if (!r) = true then pure false else eqF P d xs ys fs
    else eqF P d xs ys fs
theorem eqF_eq (d : Nat) (xs ys : Array Value) : ∀ fs : List Field, Op.eqFields d xs ys fs = eqF P d xs ys (fs.map fun f => (f.name != "_", f.type, f.offset))
  | [] => rfl
  | f :: fs => by simp only [Op.eqFields, List.map_cons, eqF, bne_iff_ne, eqF_eq d xs ys fs]
theorem eqF_nil (d : Nat) (xs ys : Array Value) (w : World) : (eqF P d xs ys []).run P w = .ok true w := rfl
theorem eqF_cons {d : Nat} {xs ys : Array Value} {t : TypeId} {o : Nat} {fs : List (Bool × TypeId × Nat)} {x y : Value} {b r : Bool} (hx : ∀ w, (part t xs o).run P w = .ok x w) (hy : ∀ w, (part t ys o).run P w = .ok y w)
    (he : ∀ w, (Op.equalIn d t x y).run P w = .ok b w) (hr : ∀ w, (eqF P d xs ys fs).run P w = .ok r w) (w : World) : (eqF P d xs ys ((true, t, o) :: fs)).run P w = .ok (b && r) w := by
  simp only [eqF, if_true, Sem.run_bind, hx, hy, he, Result.andThen_ok]
  cases b <;> simp [hr]
theorem eqI {t : TypeId} {k : IntKind} (h : P.underlying t = some (.int k)) (d : Nat) (a b : Int) (w : World) : (Op.equalIn (d + 1) t (.int k a) (.int k b)).run P w = .ok (decide (a = b)) w := by
  rw [run_equalIn_int w d t k k a b h, Bool.beq_eq_decide_eq]
theorem eqB {t : TypeId} (h : P.underlying t = some .bool) (d : Nat) (a b : Bool) (w : World) : (Op.equalIn (d + 1) t (.bool a) (.bool b)).run P w = .ok (decide (a = b)) w := by
  rw [run_equalIn_bool' w d t a b h]; cases a <;> cases b <;> rfl
theorem eqT {t : TypeId} (h : P.underlying t = some .string) (d : Nat) (a b : ByteArray) (w : World) : (Op.equalIn (d + 1) t (.string a) (.string b)).run P w = .ok (decide (a = b)) w := by
  rw [run_equalIn_string w d t a b h, Bool.beq_eq_decide_eq]
  congr 1
  exact decide_eq_decide.2 (str_inj a b)
theorem eqG {t : TypeId} {xs ys : Array Value} {b : Bool} {l : List (Bool × TypeId × Nat)} (d : Nat) (ht : P.underlying t = some (.struct (P.fieldsOf t))) (hp : P.stoodInHeld t = false)
    (hl : ((P.fieldsOf t).toList.map fun f => (f.name != "_", f.type, f.offset)) = l) (h : ∀ w, (eqF P d xs ys l).run P w = .ok b w) (w : World) : (Op.equalIn (d + 1) t (.agg xs) (.agg ys)).run P w = .ok b w := by
  rw [run_equalIn_struct w d t xs ys ht hp, eqF_eq (P := P), hl]
  exact h w
theorem eq_agg {t : TypeId} {c : Bool} {xs ys : Array Value} {b : Bool} (hg : P.eqGuardType P.depth t = false) (h : ∀ w, (Op.equalIn 10000 t (.agg xs) (.agg ys)).run P w = .ok b w) : PureV P (eqS .eql t c (.agg xs) (.agg ys)) K = K (.bool b) := pv_of fun w => by
  simp only [eqS, Sem.run_bind, run_program, Result.andThen_ok, hg, Bool.not_false, if_true]
  show (binOp .eql t (.agg xs) (.agg ys)).run P w = _
  rw [run_eql_struct, h]
  rfl
theorem ne_agg {t : TypeId} {c : Bool} {xs ys : Array Value} {b : Bool} (hg : P.eqGuardType P.depth t = false) (h : ∀ w, (Op.equalIn 10000 t (.agg xs) (.agg ys)).run P w = .ok b w) : PureV P (eqS .neq t c (.agg xs) (.agg ys)) K = K (.bool (!b)) := pv_of fun w => by
  simp only [eqS, Sem.run_bind, run_program, Result.andThen_ok, hg, Bool.not_false, if_true]
  show (binOp .neq t (.agg xs) (.agg ys)).run P w = _
  rw [run_neq_struct, h]
  rfl
@[go_sem ↓] theorem op_shr1 {t : TypeId} (x : Int) : PureV P (binS .shr t (.int .u64 x) (.int .u64 1)) K = K (.int .u64 (x / 2)) := pv_of fun _ => by
  have := shift_shr .u64 .u64 x 1 (by omega) (by decide)
  show (Op.shift .shr .u64 x .u64 1).run P _ = _
  rw [this]
  rfl
@[go_sem ↓] theorem max_int (ts : Array TypeId) (t : TypeId) (a b : Int) : ReadV P (maxS ts t #[.int .i64 a, .int .i64 b]) w K = K (.int .i64 (max a b)) := rv_of (by
  show (Builtin.max_ ts t #[.int .i64 a, .int .i64 b]).run P w = _
  rw [run_max_int2]
  congr 2
  by_cases h : b > a
  · rw [if_pos h]; omega
  · rw [if_neg h]; omega)
theorem callV_eq (f : FuncId) (first cap : Array Value) (args : List Value) : CallV P (.func (.func f) first cap) args w K2 = Sp P f (first.toList ++ args ++ cap.toList) w K2 := propext
  ⟨fun ⟨g, a, b, he, h⟩ => by injection he with h1 h2 h3; injection h1 with h1; subst h1; subst h2; subst h3; exact h, fun h => ⟨f, first, cap, rfl, h⟩⟩
@[go_sem ↓] theorem nil_ptr (a : Addr) : PureV P (nilS (.pointer (some a))) K = K (.pointer (some a)) := pv_of fun _ => rfl
@[go_sem ↓] theorem nil_func (f : FuncId) (x y : Array Value) : PureV P (nilS (.func (.func f) x y)) K = K (.func (.func f) x y) := pv_of fun _ => rfl
@[go_sem ↓] theorem extract_eq (vs : Array Value) (i : Nat) : PureV P (extrS (.tuple vs) i) K = ∃ v, vs[i]? = some v ∧ K v := by
  cases h : vs[i]? with
  | some v => rw [pv_of (v := v) fun _ => by simp [extrS, Instr.extract, h]]; simp
  | none =>
    refine propext ⟨fun ⟨u, hu, _⟩ => ?_, fun ⟨u, hu, _⟩ => by cases hu⟩
    have := hu default
    simp [extrS, Instr.extract, h] at this
theorem len_str {t : TypeId} {ty : TypeId} (h : P.underlying t = some .string) (s : ByteArray) : ReadV P (lenS #[t] ty #[.string s]) w K = K (.int .i64 s.size) :=
  rv_of (by simp [lenS, Builtin.len_, underlying, h, goInt])
theorem len_slice {t e : TypeId} {ty : TypeId} (h : P.underlying t = some (.slice e)) (a : Option Addr) (n c : Nat) : ReadV P (lenS #[t] ty #[.slice a n c]) w K = K (.int .i64 n) :=
  rv_of (by simp [lenS, Builtin.len_, underlying, h, goInt])
theorem stay_len_slice {t e : TypeId} {ty : TypeId} (h : P.underlying t = some (.slice e)) (a : Option Addr) (n c : Nat) (v : Value) : Stay P (lenS #[t] ty #[.slice a n c]) v w = (.int .i64 n = v) :=
  stay_of (by simp [lenS, Builtin.len_, underlying, h, goInt])
theorem index_str {t : TypeId} (h : P.underlying t = some .string) {k : IntKind} (s : ByteArray) (i : Int) (h0 : 0 ≤ i) (h1 : i < s.size) : PureV P (indexS t (.string s) (.int k i)) K = K (.int .u8 (sb s i.toNat).toNat) :=
  pv_of fun _ => by
    have hlt : i.toNat < s.size := by omega
    have hlt' : i.toNat < s.data.size := hlt
    have : s[i.toNat]? = some (sb s i.toNat) := by
      simp only [sb, Array.getD_eq_getD_getElem?, Array.getElem?_eq_getElem hlt', Option.getD_some]
      rw [getElem?_pos s i.toNat hlt]
      rfl
    simp [indexS, Instr.index, asIntOf, underlying, h, h0, this]
theorem slice_str {t : TypeId} (h : P.underlying t = some .string) {k : IntKind} (s : ByteArray) (i : Int) (h0 : 0 ≤ i) (h1 : i ≤ s.size) : PureV P (sliceS t (.string s) none (some (.int k i)) none) K = K (.string (s.extract 0 i.toNat)) :=
  pv_of fun _ => by simp [sliceS, Instr.sliceAt, underlying, h, Instr.slice, Instr.sliceBounds, Instr.sliceBound, asIntOf, h0, h1]

/-! slices -/
theorem index_slice {t e : TypeId} {n : Nat} (h : P.underlying t = some (.slice e)) (hs : sizeT P e = some n) {k : IntKind} (b o l c : Nat) (i : Int) (h0 : 0 ≤ i) (h1 : i < l) :
    PureV P (iaddrS t (.slice (some ⟨b, o, none⟩) l c) (.int k i)) K = K (ptr b (o + i.toNat * n)) :=
  pv_of fun _ => by
    unfold sizeT at hs
    simp only [Option.map_eq_some_iff] at hs
    obtain ⟨j, hj, hs⟩ := hs
    simp [iaddrS, Instr.indexAt, asIntOf, underlying, h, h0, h1, sizeOf, typeInfo, hj, hs, add_plain]
/-- Slicing x[lo:hi], as far as the capacity goes. -/
theorem slice_eq {t e : TypeId} {n : Nat} (h : P.underlying t = some (.slice e)) (hs : sizeT P e = some n) {k1 k2 : IntKind} (a : Option Addr) (l c : Nat) (lo hi : Int) (h0 : 0 ≤ lo) (h1 : lo ≤ hi) (h2 : hi ≤ c) :
    PureV P (sliceS t (.slice a l c) (some (.int k1 lo)) (some (.int k2 hi)) none) K = K (.slice (if c = lo.toNat then a else a.map (·.add (lo.toNat * n))) (hi.toNat - lo.toNat) (c - lo.toNat)) :=
  pv_of fun _ => by
    unfold sizeT at hs
    simp only [Option.map_eq_some_iff] at hs
    obtain ⟨j, hj, hs⟩ := hs
    obtain ⟨x, rfl⟩ := Int.eq_ofNat_of_zero_le h0
    obtain ⟨y, rfl⟩ := Int.eq_ofNat_of_zero_le (a := hi) (by omega)
    have h4 : x ≤ y := by omega
    have h5 : y ≤ c := by omega
    simp [sliceS, Instr.sliceAt, underlying, h, Instr.slice, Instr.sliceBounds, Instr.sliceBound, asIntOf, sizeOf, typeInfo, hj, hs, h4, h5]
theorem slice_lo {t e : TypeId} {n : Nat} (h : P.underlying t = some (.slice e)) (hs : sizeT P e = some n) {k1 : IntKind} (a : Option Addr) (l c : Nat) (lo : Int) (h0 : 0 ≤ lo) (h1 : lo ≤ l) :
    PureV P (sliceS t (.slice a l c) (some (.int k1 lo)) none none) K = K (.slice (if c = lo.toNat then a else a.map (·.add (lo.toNat * n))) (l - lo.toNat) (c - lo.toNat)) :=
  pv_of fun _ => by
    unfold sizeT at hs
    simp only [Option.map_eq_some_iff] at hs
    obtain ⟨j, hj, hs⟩ := hs
    simp [sliceS, Instr.sliceAt, underlying, h, Instr.slice, Instr.sliceBounds, Instr.sliceBound, asIntOf, sizeOf, typeInfo, hj, hs, h0, h1]
theorem slice_hi {t e : TypeId} {n : Nat} (h : P.underlying t = some (.slice e)) (hs : sizeT P e = some n) {k2 : IntKind} (a : Option Addr) (l c : Nat) (hi : Int) (h1 : 0 ≤ hi) (h2 : hi ≤ c) :
    PureV P (sliceS t (.slice a l c) none (some (.int k2 hi)) none) K = K (.slice a hi.toNat c) :=
  pv_of fun _ => by
    unfold sizeT at hs
    simp only [Option.map_eq_some_iff] at hs
    obtain ⟨j, hj, hs⟩ := hs
    have e1 : a.map (fun x => x.add 0) = a := by cases a <;> simp [Addr.add]
    simp [sliceS, Instr.sliceAt, underlying, h, Instr.slice, Instr.sliceBounds, Instr.sliceBound, asIntOf, sizeOf, typeInfo, hj, hs, h1, h2, e1]

/-! memory -/
@[go_sem] theorem load_def {t : TypeId} {a : Value} : LoadV P t a w K = ∃ v, loadO P t a w = some v ∧ K v := rfl
@[go_sem] theorem store_def {t : TypeId} {a x : Value} : StoreV P t a x w KU = ∃ w', storeO P t a x w = some w' ∧ KU w' := rfl
theorem load1 {t : TypeId} (h : shapeT P t = some none) (b o : Nat) : loadO P t (ptr b o) w = w.cell? ⟨b, o, none⟩ := by simp [loadO, h]
theorem loadN {t : TypeId} {n : Nat} (h : shapeT P t = some (some n)) (b o : Nat) : loadO P t (ptr b o) w = (cellsO w ⟨b, o, none⟩ 0 n).map fun l => .agg l.toArray := by simp [loadO, h]
theorem cells_zero (b o i : Nat) : cellsO w ⟨b, o, none⟩ i 0 = some [] := rfl
theorem cells_succ (b o i n : Nat) : cellsO w ⟨b, o, none⟩ i (n + 1) = (w.cell? ⟨b, o + i, none⟩).bind fun c => (cellsO w ⟨b, o, none⟩ (i + 1) n).map (c :: ·) := by
  simp only [cellsO, add_plain]
  cases w.cell? ⟨b, o + i, none⟩ <;> rfl
theorem storeO_eq {t : TypeId} {n : Nat} (h : sizeT P t = some n) (b o : Nat) (x : Value) (hx : x.cells.size = n) : storeO P t (ptr b o) x w = storeL w ⟨b, o, none⟩ 0 x.cells.toList := by simp [storeO, h, hx]
@[go_sem] theorem storeL_nil (b o i : Nat) : storeL w ⟨b, o, none⟩ i [] = some w := rfl
theorem storeL_cons (b o i : Nat) (c : Value) (l : List Value) (u : Value) (hc : w.cell? ⟨b, o + i, none⟩ = some u) (hf : w.frozen? ⟨b, o + i, none⟩ = false) (h1 : c.oneCell' = true) :
    storeL w ⟨b, o, none⟩ i (c :: l) = storeL (w.setCell ⟨b, o + i, none⟩ c) ⟨b, o, none⟩ (i + 1) l := by simp [storeL, add_plain, hc, hf, h1]
theorem storeL_new_at (zs : List Value) (t : TypeId) : ∀ (pre xs rest : List Value), zs = rest → rest.length = xs.length → (∀ x ∈ xs, x.oneCell' = true) →
    storeL (w.alloc (.cells (pre ++ rest).toArray t)) ⟨w.heap.size, 0, none⟩ pre.length xs = some (w.alloc (.cells (pre ++ xs).toArray t))
  | pre, [], rest, _, hl, _ => by
    have : rest = [] := List.eq_nil_of_length_eq_zero (by simpa using hl)
    subst this
    rfl
  | pre, x :: xs, [], _, hl, _ => by simp at hl
  | pre, x :: xs, r :: rest, _, hl, h1 => by
    have ih := storeL_new_at rest t (pre ++ [x]) xs rest rfl (by simpa using hl) (fun y hy => h1 y (by simp [hy]))
    have hc : (w.alloc (.cells (pre ++ r :: rest).toArray t)).cell? ⟨w.heap.size, 0 + pre.length, none⟩ = some r := by
      rw [World.cell?_alloc_new]
      simp
    rw [storeL_cons _ _ _ _ _ _ hc (World.frozen?_alloc_new _ _ _ _) (h1 x (by simp)), Nat.zero_add, World.setCell_alloc_at _ _ _ _ _ rfl]
    have e1 : (pre ++ r :: rest).toArray.setIfInBounds pre.length x = ((pre ++ [x]) ++ rest).toArray := by
      simp [List.setIfInBounds_toArray]
    rw [e1]
    simpa using ih
theorem storeL_new (zs xs : List Value) (t : TypeId) (hl : zs.length = xs.length) (h1 : ∀ x ∈ xs, x.oneCell' = true) :
    storeL (w.alloc (.cells zs.toArray t)) ⟨w.heap.size, 0, none⟩ 0 xs = some (w.alloc (.cells xs.toArray t)) := storeL_new_at zs t [] xs zs rfl hl h1
@[go_sem ↓] theorem box_eq (t : TypeId) (v : Value) : RunV P (boxS t v) w K2 = K2 (ptr w.heap.size 0) (w.alloc (.cells v.cells t)) := run_of rfl
end
@[go_sem] theorem cells_agg (cs : Array Value) : (Value.agg cs).cells = cs := rfl
@[go_sem] theorem cells_int (k : IntKind) (n : Int) : (Value.int k n).cells = #[.int k n] := rfl
@[go_sem] theorem cells_bool (b : Bool) : (Value.bool b).cells = #[.bool b] := rfl
@[go_sem] theorem cells_string (s : ByteArray) : (Value.string s).cells = #[.string s] := rfl
@[go_sem] theorem cells_slice (a : Option Addr) (n c : Nat) : (Value.slice a n c).cells = #[.slice a n c] := rfl
@[go_sem] theorem cells_pointer (a : Option Addr) : (Value.pointer a).cells = #[.pointer a] := rfl
@[go_sem] theorem cells_map (r : Option Nat) : (Value.map r).cells = #[.map r] := rfl
@[go_sem] theorem cells_iface (t : TypeId) (v : Value) : (Value.iface t v).cells = #[.iface t v] := rfl
@[go_sem] theorem cells_func (f : Fn) (x y : Array Value) : (Value.func f x y).cells = #[.func f x y] := rfl

/-! frames: blocks that may have turned -/
/-- w' is w, but for the blocks of M, and new ones. -/
structure Fr (M : List Nat) (w w' : World) : Prop where
  os : w'.os = w.os
  tape : w'.tape = w.tape
  output : w'.output = w.output
  size : w.heap.size ≤ w'.heap.size
  block : ∀ b, b < w.heap.size → b ∉ M → w'.heap[b]? = w.heap[b]?
abbrev Gr (w w' : World) : Prop := Fr [] w w'
theorem Fr.refl (M : List Nat) (w : World) : Fr M w w := ⟨rfl, rfl, rfl, Nat.le_refl _, fun _ _ _ => rfl⟩
theorem Fr.mono {M M' : List Nat} {w w' : World} (h : Fr M w w') (hm : ∀ b ∈ M, b ∈ M') : Fr M' w w' :=
  ⟨h.os, h.tape, h.output, h.size, fun b hb hn => h.block b hb fun hh => hn (hm b hh)⟩
theorem Fr.trans {M : List Nat} {w w1 w2 : World} (h : Fr M w w1) {M' : List Nat} (k : Fr M' w1 w2) (hm : ∀ b ∈ M', b ∈ M ∨ w.heap.size ≤ b) : Fr M w w2 :=
  ⟨k.os.trans h.os, k.tape.trans h.tape, k.output.trans h.output, Nat.le_trans h.size k.size, fun b hb hn =>
    (k.block b (Nat.lt_of_lt_of_le hb h.size) fun hh => by rcases hm b hh with h1 | h1 <;> first | exact hn h1 | omega).trans (h.block b hb hn)⟩
theorem Fr.gr {M : List Nat} {w w1 w2 : World} (h : Fr M w w1) (k : Gr w1 w2) : Fr M w w2 := h.trans k (by simp)
theorem Gr.to {w w1 : World} (h : Gr w w1) (M : List Nat) : Fr M w w1 := h.mono (by simp)
theorem Fr.drew {M : List Nat} {w w1 : World} (h : Fr M w w1) : Fr M w w1.drew := ⟨h.os, h.tape, h.output, h.size, h.block⟩
theorem Fr.alloc {M : List Nat} {w w1 : World} (h : Fr M w w1) (o : Obj) : Fr M w (w1.alloc o) :=
  ⟨h.os, h.tape, h.output, by have := h.size; simp; omega, fun b hb hn => (Below.heap_alloc w1 o b (Nat.lt_of_lt_of_le hb h.size)).trans (h.block b hb hn)⟩
theorem Fr.setCell {M : List Nat} {w w1 : World} (h : Fr M w w1) {b o : Nat} (hb : w.heap.size ≤ b ∨ b ∈ M) (u : Value) : Fr M w (w1.setCell ⟨b, o, none⟩ u) :=
  ⟨h.os, h.tape, h.output, by have := h.size; simp; omega, fun c hc hn => (Below.heap_setCell w1 ⟨b, o, none⟩ u c (by
    rintro rfl
    rcases hb with hb | hb
    · omega
    · exact hn hb)).trans (h.block c hc hn)⟩
theorem Fr.cell {M : List Nat} {w w1 : World} (h : Fr M w w1) {b : Nat} (o : Nat) (hb : b < w.heap.size) (hn : b ∉ M) : w1.cell? ⟨b, o, none⟩ = w.cell? ⟨b, o, none⟩ := World.cell?_of_block (w := w) (h.block b hb hn)
theorem Fr.frozen {M : List Nat} {w w1 : World} (h : Fr M w w1) {b : Nat} (o : Nat) (hb : b < w.heap.size) (hn : b ∉ M) : w1.frozen? ⟨b, o, none⟩ = w.frozen? ⟨b, o, none⟩ := World.frozen?_of_block (w := w) (h.block b hb hn)
theorem Gr.cell {w w1 : World} (h : Gr w w1) (b o : Nat) (hb : b < w.heap.size) : w1.cell? ⟨b, o, none⟩ = w.cell? ⟨b, o, none⟩ := Fr.cell h o hb (by simp)
theorem Gr.frozen {w w1 : World} (h : Gr w w1) (b o : Nat) (hb : b < w.heap.size) : w1.frozen? ⟨b, o, none⟩ = w.frozen? ⟨b, o, none⟩ := Fr.frozen h o hb (by simp)
theorem Fr.below {w w1 : World} (h : Gr w w1) : Below w.heap.size w w1 := ⟨h.os, h.tape, h.output, h.size, fun b hb => h.block b hb (by simp)⟩
theorem cell_lt {w : World} {b o : Nat} {v : Value} (h : w.cell? ⟨b, o, none⟩ = some v) : b < w.heap.size := World.block_lt_of_cell? w ⟨b, o, none⟩ h

theorem cell_alloc {w : World} {b o : Nat} {v : Value} (h : w.cell? ⟨b, o, none⟩ = some v) (X : Obj) : (w.alloc X).cell? ⟨b, o, none⟩ = some v := (World.cell?_alloc_lt w _ _ (cell_lt h)).trans h
theorem frozen_alloc {w : World} {b o : Nat} {v : Value} (h : w.cell? ⟨b, o, none⟩ = some v) (hf : w.frozen? ⟨b, o, none⟩ = false) (X : Obj) : (w.alloc X).frozen? ⟨b, o, none⟩ = false := (World.frozen?_alloc_old w _ _ (by have := cell_lt h; simp only; omega)).trans hf
theorem Gr.box {w w1 : World} {cs : Array Value} {t : TypeId} (h : Gr (w.alloc (.cells cs t)) w1) (i : Nat) : w1.cell? ⟨w.heap.size, i, none⟩ = cs[i]? := (Gr.cell h _ i (by simp)).trans (World.cell?_alloc_new w cs t i)
theorem cell_fr {w w' : World} {M : List Nat} {b o : Nat} {v : Value} (h : w.cell? ⟨b, o, none⟩ = some v) (hg : Fr M w w') (hn : b ∉ M) : w'.cell? ⟨b, o, none⟩ = some v := (hg.cell o (cell_lt h) hn).trans h
theorem cell_gr {w w' : World} {b o : Nat} {v : Value} (h : w.cell? ⟨b, o, none⟩ = some v) (hg : Gr w w') : w'.cell? ⟨b, o, none⟩ = some v := cell_fr h hg (by simp)
theorem cell_set {w : World} {b o b' o' : Nat} {v u : Value} (h : w.cell? ⟨b, o, none⟩ = some v) (hn : b ≠ b') : (w.setCell ⟨b', o', none⟩ u).cell? ⟨b, o, none⟩ = some v := (World.cell?_of_block (w := w) (Below.heap_setCell w ⟨b', o', none⟩ u b hn)).trans h
@[go_sem] theorem cell_new {w : World} {n i : Nat} {cs : Array Value} {t : TypeId} (hn : n = w.heap.size) : (w.alloc (.cells cs t)).cell? ⟨n, i, none⟩ = cs[i]? := by subst hn; exact World.cell?_alloc_new w cs t i
@[go_sem] theorem cell_old {w : World} {n i : Nat} {X : Obj} (hn : n < w.heap.size) : (w.alloc X).cell? ⟨n, i, none⟩ = w.cell? ⟨n, i, none⟩ := World.cell?_alloc_lt w _ _ hn
/-! whole blocks -/
def putB (w : World) (b : Nat) (X : Obj) : World := { w with heap := w.heap.setIfInBounds b X }
@[go_sem] theorem putB_size (w : World) (b : Nat) (X : Obj) : (putB w b X).heap.size = w.heap.size := by simp [putB]
theorem putB_heap {w : World} {b : Nat} (X : Obj) (hb : b < w.heap.size) : (putB w b X).heap[b]? = some X := by simp [putB, hb]
theorem putB_other {w : World} {b c : Nat} (X : Obj) (hb : c ≠ b) : (putB w b X).heap[c]? = w.heap[c]? := by simp [putB, Array.getElem?_setIfInBounds, Ne.symm hb]
theorem lt_of_heap {w : World} {b : Nat} {X : Obj} (h : w.heap[b]? = some X) : b < w.heap.size := (Array.getElem?_eq_some_iff.1 h).1
theorem Fr.putB {M : List Nat} {w w1 : World} (h : Fr M w w1) {b : Nat} (hb : w.heap.size ≤ b ∨ b ∈ M) (X : Obj) : Fr M w (putB w1 b X) :=
  ⟨h.os, h.tape, h.output, by have := h.size; simp [putB_size]; omega, fun c hc hn => (putB_other X (by
    rintro rfl
    rcases hb with hb | hb
    · omega
    · exact hn hb)).trans (h.block c hc hn)⟩
theorem heap_gr {w w' : World} {b : Nat} {X : Obj} (h : w.heap[b]? = some X) (hg : Gr w w') : w'.heap[b]? = some X := (hg.block b (lt_of_heap h) (by simp)).trans h
theorem heap_fr {w w' : World} {M : List Nat} {b : Nat} {X : Obj} (h : w.heap[b]? = some X) (hg : Fr M w w') (hn : b ∉ M) : w'.heap[b]? = some X := (hg.block b (lt_of_heap h) hn).trans h
theorem heap_old {w : World} {b : Nat} {X : Obj} (h : w.heap[b]? = some X) (Y : Obj) : (w.alloc Y).heap[b]? = some X := (Below.heap_alloc w Y b (lt_of_heap h)).trans h
theorem heap_new (w : World) (X : Obj) : (w.alloc X).heap[w.heap.size]? = some X := by
  show (w.heap.push X)[w.heap.size]? = some X
  simp
theorem heap_new_at {w : World} {n : Nat} {X : Obj} (hn : n = w.heap.size) : (w.alloc X).heap[n]? = some X := by subst hn; exact heap_new w X
theorem cell_of {w : World} {b i : Nat} {cs : Array Value} {t : TypeId} {fz : Nat × Nat} (h : w.heap[b]? = some (.cells cs t fz)) : w.cell? ⟨b, i, none⟩ = cs[i]? := by simp [World.cell?, h]
theorem putB_self {w : World} {b : Nat} {X : Obj} (h : w.heap[b]? = some X) : putB w b X = w := by
  have hlt := lt_of_heap h
  have : w.heap.setIfInBounds b X = w.heap := by
    apply Array.ext_getElem?
    intro i
    by_cases hi : i = b
    · subst hi; rw [h]; simp [hlt]
    · simp [Array.getElem?_setIfInBounds, Ne.symm hi]
  unfold putB
  rw [this]
theorem putB_putB (w : World) (b : Nat) (X Y : Obj) : putB (putB w b X) b Y = putB w b Y := by
  unfold putB
  congr 1
  apply Array.ext_getElem?
  intro i
  by_cases hi : i = b
  · subst hi; by_cases hlt : i < w.heap.size <;> simp [hlt]
  · simp [Array.getElem?_setIfInBounds, Ne.symm hi]
theorem setCell_putB {w : World} {b : Nat} {cs : Array Value} {t : TypeId} {fz : Nat × Nat} (h : w.heap[b]? = some (.cells cs t fz)) (o : Nat) (v : Value) : w.setCell ⟨b, o, none⟩ v = putB w b (.cells (cs.setIfInBounds o v) t fz) := by
  unfold World.setCell putB
  congr 1
  apply Array.ext_getElem?
  intro i
  by_cases hi : i = b
  · subst hi; rw [Array.getElem?_modify, h, Array.getElem?_setIfInBounds]; simp [lt_of_heap h]
  · simp [Array.getElem?_modify, Array.getElem?_setIfInBounds, Ne.symm hi]
theorem storeL_whole_at {w : World} {b : Nat} (hb : b < w.heap.size) (t : TypeId) : ∀ (pre xs rest : List Value), rest.length = xs.length → (∀ x ∈ xs, x.oneCell' = true) →
    storeL (putB w b (.cells (pre ++ rest).toArray t)) ⟨b, 0, none⟩ pre.length xs = some (putB w b (.cells (pre ++ xs).toArray t))
  | pre, [], rest, hl, _ => by
    have : rest = [] := List.eq_nil_of_length_eq_zero (by simpa using hl)
    subst this
    rfl
  | pre, x :: xs, [], hl, _ => by simp at hl
  | pre, x :: xs, r :: rest, hl, h1 => by
    have ih := storeL_whole_at hb t (pre ++ [x]) xs rest (by simpa using hl) (fun y hy => h1 y (by simp [hy]))
    have hh := putB_heap (w := w) (.cells (pre ++ r :: rest).toArray t) hb
    have hc : (putB w b (.cells (pre ++ r :: rest).toArray t)).cell? ⟨b, 0 + pre.length, none⟩ = some r := by
      rw [cell_of hh]
      simp
    have hf : (putB w b (.cells (pre ++ r :: rest).toArray t)).frozen? ⟨b, 0 + pre.length, none⟩ = false := by simp [World.frozen?, hh]
    rw [storeL_cons _ _ _ _ _ _ hc hf (h1 x (by simp)), Nat.zero_add, setCell_putB hh, putB_putB]
    have e1 : (pre ++ r :: rest).toArray.setIfInBounds pre.length x = ((pre ++ [x]) ++ rest).toArray := by
      simp [List.setIfInBounds_toArray]
    rw [e1]
    simpa using ih
theorem storeL_whole {w : World} {b : Nat} {cs : Array Value} {t : TypeId} (hb : w.heap[b]? = some (.cells cs t)) (xs : List Value) (hl : cs.size = xs.length) (h1 : ∀ x ∈ xs, x.oneCell' = true) :
    storeL w ⟨b, 0, none⟩ 0 xs = some (putB w b (.cells xs.toArray t)) := by
  have h := storeL_whole_at (lt_of_heap hb) t [] xs cs.toList (by simpa using hl) h1
  have e : putB w b (.cells ([] ++ cs.toList).toArray t) = w := by simpa using putB_self hb
  rw [e] at h
  exact h
theorem store_box {w : World} {b : Nat} {cs : Array Value} {t : TypeId} {KU : World → Prop} {xs : List Value} (hb : w.heap[b]? = some (.cells cs t)) (hl : cs.size = xs.length) (h1 : xs.all Value.oneCell' = true)
    (hk : KU (putB w b (.cells xs.toArray t))) : ∃ w', storeL w ⟨b, 0, none⟩ 0 xs = some w' ∧ KU w' := ⟨_, storeL_whole hb xs hl (fun x hx => List.all_eq_true.1 h1 x hx), hk⟩
@[go_sem] theorem cast_zero : ((0 : Nat) : Int) = 0 := rfl
theorem lt_1 (n : Nat) : n < n + 1 := by omega
theorem lt_2 (n : Nat) : n < n + 1 + 1 := by omega
theorem lt_3 (n : Nat) : n < n + 1 + 1 + 1 := by omega
theorem lt_4 (n : Nat) : n < n + 1 + 1 + 1 + 1 := by omega
attribute [go_sem] lt_1 lt_2 lt_3 lt_4
/-! loops -/
section
variable {w : World} {body : (List Value → World → Prop) → Env → World → Prop}
theorem loop0 (I : World → Prop) (μ : World → Nat) (h0 : I w)
    (hs : ∀ m w H, I w → (∀ w', I w' → μ w' < μ w → H [] w') → body H m w) : LoopP [] [] w body :=
  ⟨fun _ => I, fun _ => μ, h0, fun m w hI => hs m w _ hI fun w' h1 h2 => ⟨h1, h2⟩⟩
theorem loop1 {c : Nat} {x : Value} (I : Value → World → Prop) (μ : Value → World → Nat) (h0 : I x w)
    (hs : ∀ m w H, I (m c) w → (∀ y w', I y w' → μ y w' < μ (m c) w → H [y] w') → body H m w) : LoopP [c] [x] w body :=
  ⟨fun xs => I (xs.getD 0 undef), fun xs => μ (xs.getD 0 undef), h0, fun m w hI => hs m w _ hI fun y w' h1 h2 => ⟨h1, h2⟩⟩
theorem loop2 {c1 c2 : Nat} {x1 x2 : Value} (I : Value → Value → World → Prop) (μ : Value → Value → World → Nat) (h0 : I x1 x2 w)
    (hs : ∀ m w H, I (m c1) (m c2) w → (∀ y z w', I y z w' → μ y z w' < μ (m c1) (m c2) w → H [y, z] w') → body H m w) : LoopP [c1, c2] [x1, x2] w body :=
  ⟨fun xs => I (xs.getD 0 undef) (xs.getD 1 undef), fun xs => μ (xs.getD 0 undef) (xs.getD 1 undef), h0, fun m w hI => hs m w _ hI fun y z w' h1 h2 => ⟨h1, h2⟩⟩
theorem loop3 {c1 c2 c3 : Nat} {x1 x2 x3 : Value} (I : Value → Value → Value → World → Prop) (μ : Value → Value → Value → World → Nat) (h0 : I x1 x2 x3 w)
    (hs : ∀ m w H, I (m c1) (m c2) (m c3) w → (∀ y z u w', I y z u w' → μ y z u w' < μ (m c1) (m c2) (m c3) w → H [y, z, u] w') → body H m w) : LoopP [c1, c2, c3] [x1, x2, x3] w body :=
  ⟨fun xs => I (xs.getD 0 undef) (xs.getD 1 undef) (xs.getD 2 undef), fun xs => μ (xs.getD 0 undef) (xs.getD 1 undef) (xs.getD 2 undef), h0, fun m w hI => hs m w _ hI fun y z u w' h1 h2 => ⟨h1, h2⟩⟩
theorem loop4 {c1 c2 c3 c4 : Nat} {x1 x2 x3 x4 : Value} (I : Value → Value → Value → Value → World → Prop) (μ : Value → Value → Value → Value → World → Nat) (h0 : I x1 x2 x3 x4 w)
    (hs : ∀ m w H, I (m c1) (m c2) (m c3) (m c4) w → (∀ y z u t w', I y z u t w' → μ y z u t w' < μ (m c1) (m c2) (m c3) (m c4) w → H [y, z, u, t] w') → body H m w) : LoopP [c1, c2, c3, c4] [x1, x2, x3, x4] w body :=
  ⟨fun xs => I (xs.getD 0 undef) (xs.getD 1 undef) (xs.getD 2 undef) (xs.getD 3 undef), fun xs => μ (xs.getD 0 undef) (xs.getD 1 undef) (xs.getD 2 undef) (xs.getD 3 undef), h0, fun m w hI => hs m w _ hI fun y z u t w' h1 h2 => ⟨h1, h2⟩⟩
end
attribute [go_sem] Value.bool.injEq eq_self forall_const true_implies List.getElem?_toArray List.getElem?_cons_zero List.getElem?_cons_succ Option.some.injEq exists_eq_left' Option.bind_some Nat.zero_add Nat.add_zero World.cell?_drew World.size_alloc World.size_drew World.cell?_alloc_new decide_true decide_false Bool.not_true Bool.not_false Int.toNat_natCast
/-- The end of a walk is left open. -/
theorem post {Q : Value → World → Prop} {V : (Value → World → Prop) → Prop} (h : ∀ R, (∀ v w', Q v w' → R v w') → V R) : V Q := h Q fun _ _ h => h
end Go.Proofs.Ytbjakblkppnieaa
