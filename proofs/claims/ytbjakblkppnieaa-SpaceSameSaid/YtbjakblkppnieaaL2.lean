/- Words for verification conditions: slices that are read, slices of the call's own, append. It speaks of any program. -/
import Derived.Test.YtbjakblkppnieaaL
import Derived.Maps.AppendAt
import Derived.Laws.OwnMore
import Derived.Laws.AppendOwnNone
set_option linter.unusedVariables false
set_option linter.unusedSimpArgs false
namespace Go.Proofs.Ytbjakblkppnieaa
open Go Vc Go.RowKit

/-! rows of equal length -/
theorem flat_length {k : Nat} : ∀ (rows : List (List Value)), (∀ r ∈ rows, r.length = k) → rows.flatten.length = rows.length * k
  | [], _ => by simp
  | r :: l, h => by
    have := flat_length l fun x hx => h x (by simp [hx])
    have h1 := h r (by simp)
    simp only [List.flatten_cons, List.length_append, List.length_cons, this, h1, Nat.succ_mul]
    omega
theorem flat_get {k : Nat} : ∀ (rows : List (List Value)), (∀ r ∈ rows, r.length = k) → ∀ (i j : Nat), j < k → rows.flatten[i * k + j]? = (rows[i]?).bind (·[j]?)
  | [], _, i, j, _ => by simp
  | r :: l, h, i, j, hj => by
    have h1 := h r (by simp)
    cases i with
    | zero => simp [List.getElem?_append_left, h1, hj]
    | succ i =>
      have ih := flat_get l (fun x hx => h x (by simp [hx])) i j hj
      simp only [List.flatten_cons, List.getElem?_cons_succ]
      rw [List.getElem?_append_right (by rw [h1, Nat.succ_mul]; omega), h1, show (i + 1) * k + j - k = i * k + j by rw [Nat.succ_mul]; omega, ih]

/-- v is a slice of elements of type e, k cells each: these rows. -/
def Rd (w : World) (e k : Nat) (v : Value) (rows : List (List Value)) : Prop :=
  (∀ r ∈ rows, r.length = k) ∧ ∃ A c, v = .slice A rows.length c ∧ rows.length ≤ 9223372036854775807 ∧
    (rows ≠ [] → ∃ b o, A = some ⟨b, o, none⟩ ∧ (∃ cs fz, w.heap[b]? = some (.cells cs e fz)) ∧ ∀ j u, rows.flatten[j]? = some u → w.cell? ⟨b, o + j, none⟩ = some u)
/-- v is nil, or a slice of the call's own, from block base on. -/
def Ow (w : World) (base e k : Nat) (v : Value) (rows : List (List Value)) : Prop :=
  (∀ r ∈ rows, r.length = k) ∧ w.ownsRow base e k v rows.length rows.flatten
/-- The block of a slice. -/
def bl : Value → List Nat
  | .slice (some a) _ _ => [a.block]
  | _ => []
section
variable {w w' : World} {e k : Nat} {v : Value} {rows : List (List Value)}
theorem Rd.nil (w : World) (e k : Nat) (A : Option Addr) (c : Nat) : Rd w e k (.slice A 0 c) [] := ⟨by simp, A, c, rfl, by simp, fun h => absurd rfl h⟩
theorem Rd.form (h : Rd w e k v rows) : ∃ A c, v = .slice A rows.length c := ⟨_, _, h.2.choose_spec.choose_spec.1⟩
theorem Rd.fr (h : Rd w e k v rows) {M : List Nat} (hf : Fr M w w') (hn : ∀ b ∈ bl v, b ∉ M) : Rd w' e k v rows := by
  obtain ⟨h1, A, c, hv, h2, h3⟩ := h
  refine ⟨h1, A, c, hv, h2, fun hne => ?_⟩
  obtain ⟨b, o, hA, ⟨cs, fz, hb⟩, hc⟩ := h3 hne
  subst hA
  have hlt : b < w.heap.size := (Array.getElem?_eq_some_iff.1 hb).1
  have hm : b ∉ M := hn b (by rw [hv]; simp [bl])
  have hbl := hf.block b hlt hm
  exact ⟨b, o, rfl, ⟨cs, fz, hbl.trans hb⟩, fun j u hu => (hf.cell _ hlt hm).trans (hc j u hu)⟩
theorem Rd.gr (h : Rd w e k v rows) (hf : Gr w w') : Rd w' e k v rows := h.fr hf fun _ _ => by simp
theorem Rd.drew (h : Rd w e k v rows) : Rd w.drew e k v rows := h
theorem Rd.alloc (h : Rd w e k v rows) (o : Obj) : Rd (w.alloc o) e k v rows := h.gr ((Fr.refl _ _).alloc o)
/-- The block of a slice that is read holds elements of its type. -/
theorem Rd.type (h : Rd w e k v rows) (hne : rows ≠ []) {b : Nat} (hb : b ∈ bl v) : ∃ cs fz, w.heap[b]? = some (.cells cs e fz) := by
  obtain ⟨h1, A, c, hv, h2, h3⟩ := h
  obtain ⟨b', o, hA, ht, hc⟩ := h3 hne
  subst hA
  rw [hv] at hb
  simp only [bl, List.mem_singleton] at hb
  subst hb
  exact ht
theorem Rd.index {P : Program} {K : Value → Prop} (h : Rd w e k v rows) {t e' : TypeId} (hu : P.underlying t = some (.slice e')) (hs : sizeT P e' = some k) {kd : IntKind} (i : Int) (h0 : 0 ≤ i) (h1 : i < rows.length)
    (hk : ∀ b o, b < w.heap.size → (∀ j, j < k → w.cell? ⟨b, o + j, none⟩ = (rows[i.toNat]?).bind (·[j]?)) → K (ptr b o)) : PureV P (iaddrS t v (.int kd i)) K := by
  obtain ⟨hl, A, c, rfl, h2, h3⟩ := h
  obtain ⟨b, o, rfl, ⟨cs, fz, hb⟩, hc⟩ := h3 (by rintro rfl; simp at h1; omega)
  rw [index_slice hu hs b o _ c i h0 h1]
  refine hk _ _ (Array.getElem?_eq_some_iff.1 hb).1 fun j hj => ?_
  have hg := flat_get rows hl i.toNat j hj
  have hlt : i.toNat < rows.length := by omega
  have : ∃ u, rows.flatten[i.toNat * k + j]? = some u := by
    rw [hg, List.getElem?_eq_getElem hlt]
    have := hl rows[i.toNat] (List.getElem_mem hlt)
    exact ⟨_, by simp only [Option.bind_some]; rw [List.getElem?_eq_getElem (by omega)]⟩
  obtain ⟨u, hu⟩ := this
  rw [← hg, hu, Nat.add_assoc]
  exact hc _ _ hu
theorem Ow.nil (w : World) (base e k : Nat) : Ow w base e k (.slice none 0 0) [] := ⟨by simp, World.ownsRow_nil w base e k⟩
theorem Ow.rd {base : Nat} (h : Ow w base e k v rows) : Rd w e k v rows := by
  obtain ⟨h1, h2⟩ := h
  rcases h2.2 with ⟨rfl, h0⟩ | ⟨g, cap, cur, rfl, hb, hh, hn, hm, hs, ht⟩
  · refine ⟨h1, none, 0, by rw [h0], by omega, fun hne => absurd (List.eq_nil_of_length_eq_zero h0) hne⟩
  · simp only [maxLen] at hm
    exact ⟨h1, _, cap, rfl, by omega, fun hne => ⟨g, 0, rfl, ⟨cur, _, hh⟩, fun j u hu => by
      have := h2.cells (g := g) rfl j u hu
      rwa [add_plain] at this⟩⟩
theorem Ow.lt {base : Nat} (h : Ow w base e k v rows) : ∀ b ∈ bl v, base ≤ b ∧ b < w.heap.size := by
  intro b hb
  refine h.2.lt b ?_
  cases v with
  | slice a n c => cases a <;> simp [bl, Value.ownBlock] at hb ⊢; exact hb.symm
  | _ => simp [bl] at hb
theorem own_bl {v : Value} : v.ownBlock = none ∧ bl v = [] ∨ ∃ b, v.ownBlock = some b ∧ bl v = [b] := by
  cases v with
  | slice a n c => cases a <;> simp [bl, Value.ownBlock]
  | _ => simp [bl, Value.ownBlock]
theorem Fr.grown {M : List Nat} {row : Option Nat} (h : Fr M w w') (hn : ∀ b, row ≠ some b → b ∉ M) : w.grownBy w' row := ⟨h.os, h.tape, h.output, h.size, fun b hb hne => h.block b hb (hn b (Ne.symm hne))⟩
theorem Ow.fr {base : Nat} (h : Ow w base e k v rows) {M : List Nat} (hf : Fr M w w') (hn : ∀ b ∈ bl v, b ∉ M) : Ow w' base e k v rows := by
  refine ⟨h.1, ?_⟩
  obtain ⟨h1, h2⟩ := h.2
  refine ⟨h1, ?_⟩
  rcases h2 with h2 | ⟨g, cap, cur, rfl, hb, hh, hr⟩
  · exact .inl h2
  · exact .inr ⟨g, cap, cur, rfl, hb, (hf.block g (Array.getElem?_eq_some_iff.1 hh).1 (hn g (by simp [bl]))).trans hh, hr⟩
theorem Ow.gr {base : Nat} (h : Ow w base e k v rows) (hf : Gr w w') : Ow w' base e k v rows := h.fr hf fun _ _ => by simp
theorem Ow.drew {base : Nat} (h : Ow w base e k v rows) : Ow w.drew base e k v rows := h
theorem Ow.alloc {base : Nat} (h : Ow w base e k v rows) (o : Obj) : Ow (w.alloc o) base e k v rows := h.gr ((Fr.refl _ _).alloc o)
theorem Ow.base {base base' : Nat} (h : Ow w base e k v rows) (hb : base' ≤ base) : Ow w base' e k v rows := by
  obtain ⟨h0, h1, h2⟩ := h
  refine ⟨h0, h1, ?_⟩
  rcases h2 with h2 | ⟨g, cap, cur, rfl, hg, hr⟩
  · exact .inl h2
  · exact .inr ⟨g, cap, cur, rfl, by omega, hr⟩
theorem Fr.ofGrown {row : Option Nat} (h : w.grownBy w' row) {M : List Nat} (hm : ∀ b, row = some b → b ∈ M) : Fr M w w' := ⟨h.os, h.tape, h.output, h.size, fun b hb hn => h.block b hb fun he => hn (hm b he.symm)⟩

theorem Fr.to' {w w1 w2 : World} (h : Gr w w1) {M : List Nat} (k : Fr M w1 w2) : Fr M w w2 := (h.to M).trans k (fun _ hb => .inl hb)
/-- What a growing slice of the call's own turns is not seen from before. -/
theorem Fr.own {M : List Nat} {w w1 w2 : World} (h : Fr M w w1) {v : Value} (hf : Fr (bl v) w1 w2) (hb : ∀ b ∈ bl v, w.heap.size ≤ b) : Fr M w w2 := h.trans hf fun b hbb => .inr (hb b hbb)
/-- Told apart by their elements' types. -/
theorem Rd.fr' (h : Rd w e k v rows) {M : List Nat} (hf : Fr M w w') (hM : ∀ b ∈ M, ∀ cs fz, w.heap[b]? ≠ some (.cells cs e fz)) : Rd w' e k v rows := by
  obtain ⟨h1, A, c, hv, h2, h3⟩ := h
  refine ⟨h1, A, c, hv, h2, fun hne => ?_⟩
  obtain ⟨b, o, hA, ⟨cs, fz, hb⟩, hc⟩ := h3 hne
  have hlt : b < w.heap.size := (Array.getElem?_eq_some_iff.1 hb).1
  have hm : b ∉ M := fun hm => hM b hm cs fz hb
  exact ⟨b, o, hA, ⟨cs, fz, (hf.block b hlt hm).trans hb⟩, fun j u hu => (hf.cell _ hlt hm).trans (hc j u hu)⟩
theorem Ow.type {base : Nat} (h : Ow w base e k v rows) : ∀ b ∈ bl v, ∃ cs, w.heap[b]? = some (.cells cs e) := by
  intro b hb
  rcases h.2.2 with ⟨rfl, _⟩ | ⟨g, cap, cur, rfl, _, hh, _⟩
  · simp [bl] at hb
  · simp only [bl, List.mem_singleton] at hb
    subst hb
    exact ⟨cur, hh⟩
/-- What is read stays while a slice of other elements grows. -/
theorem Rd.own (h : Rd w e k v rows) {base e' k' : Nat} {x : Value} {rows' : List (List Value)} (ho : Ow w base e' k' x rows') (hne : e' ≠ e) (hf : Fr (bl x) w w') : Rd w' e k v rows :=
  h.fr' hf fun b hb cs fz hc => by
    obtain ⟨cs', hcs⟩ := ho.type b hb
    rw [hcs] at hc
    injection hc with hc
    injection hc with h1 h2
    exact hne h2
theorem Rd.put (h : Rd w e k v rows) {b e' : Nat} {cs : Array Value} (hb : w.heap[b]? = some (.cells cs e')) (hne : e' ≠ e) (X : Obj) : Rd (putB w b X) e k v rows :=
  h.fr' (M := [b]) ((Fr.refl _ _).putB (.inr (by simp)) _) fun c hc cs fz he => by
    simp only [List.mem_singleton] at hc
    subst hc
    rw [hb] at he
    injection he with he
    injection he with h1 h2
    exact hne h2
theorem run_append_nil_src {P : Program} {base t ty : Nat} {i : TypeInfo} (ht : P.underlying t = some (.slice e)) (hi : P.info? e = some i) {n : Nat} {xs : List Value} (hown : w.ownsRow base e k v n xs) (c : Nat) :
    (Builtin.append_ #[t, t] ty #[v, .slice none 0 c]).run P w = .ok v w := by
  rcases hown.2 with ⟨rfl, rfl⟩ | ⟨g, cap, cur, rfl, _, _, hnc, _⟩
  · simp [Builtin.append_, underlying, ht, sizeOf, typeInfo, hi, Builtin.lenOf, Builtin.firstCells]
  · simp [Builtin.append_, underlying, ht, sizeOf, typeInfo, hi, Builtin.lenOf, Builtin.firstCells, hnc, storeCells]
theorem append_rd {P : Program} {K : Value → World → Prop} {t ty bytes : Nat} {z x : Value} {ys : List (List Value)} {base : Nat} (ht : P.underlying t = some (.slice e))
    (hinf : (P.info? e).map (fun i => (i.zero, i.size, i.bytes)) = some (some z, k, bytes)) (hzs : z.cells.size = k) (hk : 0 < k) (hown : Ow w base e k v rows) (hx : Rd w e k x ys)
    (hone : ∀ r ∈ ys, ∀ u ∈ r, u.oneCell' = true) (hb : (rows.length + ys.length) * bytes ≤ 140737488355328) (hb2 : rows.length + ys.length ≤ 9223372036854775807) (hbase : base ≤ w.heap.size)
    (hK : ∀ v' w', Ow w' base e k v' (rows ++ ys) → Fr (bl v) w w' → (bl v' = bl v ∨ bl v' = [w.heap.size]) → K v' w') : RunV P (appS #[t, t] ty #[v, x]) w K := by
  obtain ⟨i, hi, hinf⟩ := Option.map_eq_some_iff.1 hinf
  simp only [Prod.mk.injEq] at hinf
  obtain ⟨hz, hsz, hby⟩ := hinf
  obtain ⟨hl, A, c, rfl, h2, h3⟩ := hx
  have hlen : ∀ r ∈ rows ++ ys, r.length = k := fun r hr => by
    rcases List.mem_append.1 hr with hr | hr
    · exact hown.1 r hr
    · exact hl r hr
  rcases A with _ | ad
  · have hy : ys = [] := by
      rcases Classical.em (ys = []) with h | h
      · exact h
      · obtain ⟨b, o, hA, _⟩ := h3 h
        cases hA
    subst hy
    rw [List.length_nil, run_of (s := appS _ _ _) (run_append_nil_src ht hi hown.2 c)]
    exact hK _ _ (by simpa using hown) (Fr.refl _ _) (.inl rfl)
  · have hcells : ∀ j u, ys.flatten[j]? = some u → w.cell? (ad.add j) = some u := by
      intro j u hu
      have hne : ys ≠ [] := by rintro rfl; simp at hu
      obtain ⟨b, o, hA, _, hc⟩ := h3 hne
      injection hA with hA
      subst hA
      rw [add_plain]
      exact hc j u hu
    obtain ⟨v', w', hrun, ho, hg, _, hloc⟩ := run_append_own_at (P := P) w base t ty e i z k bytes ht hi hz hsz hby hzs hk v rows.length rows.flatten hown.2 ad ys.length c ys.flatten (flat_length ys hl) hcells
      (fun u hu => by
        obtain ⟨r, hr, hur⟩ := List.mem_flatten.1 hu
        exact hone r hr u hur) (by simp only [maxLen]; omega) hb hbase
    rw [run_of (s := appS _ _ _) hrun]
    refine hK v' w' ⟨hlen, by simpa using ho⟩ (Fr.ofGrown hg fun b hb => ?_) ?_
    · rcases own_bl (v := v) with ⟨h1, _⟩ | ⟨g, h1, h2⟩
      · rw [h1] at hb; cases hb
      · rw [h1] at hb; injection hb with hb; subst hb; simp [h2]
    · rcases hloc with hloc | hloc
      · left
        rcases own_bl (v := v') with ⟨h1, h2⟩ | ⟨g, h1, h2⟩ <;> rcases own_bl (v := v) with ⟨h3, h4⟩ | ⟨g', h3, h4⟩
        · rw [h2, h4]
        · rw [h1, h3] at hloc; cases hloc
        · rw [h1, h3] at hloc; cases hloc
        · rw [h1, h3] at hloc; injection hloc with hloc; rw [h2, h4, hloc]
      · right
        rcases own_bl (v := v') with ⟨h1, h2⟩ | ⟨g, h1, h2⟩
        · rw [h1] at hloc; cases hloc
        · rw [h1] at hloc; injection hloc with hloc; rw [h2, hloc]
theorem heap_alloc_new (w : World) (o : Obj) : (w.alloc o).heap[w.heap.size]? = some o := by
  show (w.heap.push o)[w.heap.size]? = some o
  simp
/-- A literal slice of the call's own. -/
theorem Ow.lit (w : World) (e k : Nat) (cs : List Value) (rows : List (List Value)) (hl : ∀ r ∈ rows, r.length = k) (hc : rows.flatten = cs) (hm : rows.length ≤ 9223372036854775807) :
    Ow (w.alloc (.cells cs.toArray e)) w.heap.size e k (.slice (some ⟨w.heap.size, 0, none⟩) rows.length rows.length) rows := by
  refine ⟨hl, by rw [flat_length rows hl], .inr ⟨_, _, cs.toArray, rfl, Nat.le_refl _, heap_alloc_new w _, Nat.le_refl _, hm, ?_, ?_⟩⟩
  · rw [← hc, List.size_toArray, flat_length rows hl]
  · rw [← hc, ← flat_length rows hl]
    exact List.take_length
/-- One more row. -/
theorem append_lit {P : Program} {K : Value → World → Prop} {t ty bytes : Nat} {z : Value} {base : Nat} (ht : P.underlying t = some (.slice e))
    (hinf : (P.info? e).map (fun i => (i.zero, i.size, i.bytes)) = some (some z, k, bytes)) (hzs : z.cells.size = k) (hk : 0 < k) (hown : Ow w base e k v rows) (r : List Value) (hr : r.length = k)
    (hone : ∀ u ∈ r, u.oneCell' = true) (hb : (rows.length + 1) * bytes ≤ 140737488355328) (hb2 : rows.length + 1 ≤ 9223372036854775807) (hbase : base ≤ w.heap.size) {n : Nat} (hn : n = w.heap.size)
    (hK : ∀ v' w', Ow w' base e k v' (rows ++ [r]) → Fr (bl v) w w' → K v' w') : RunV P (appS #[t, t] ty #[v, .slice (some ⟨n, 0, none⟩) 1 1]) (w.alloc (.cells r.toArray e)) K := by
  subst hn
  have hx : Rd (w.alloc (.cells r.toArray e)) e k (.slice (some ⟨w.heap.size, 0, none⟩) 1 1) [r] := (Ow.lit w e k r [r] (by simp [hr]) (by simp) (by simp)).rd
  refine append_rd ht hinf hzs hk (hown.alloc _) hx (by simpa using hone) (by simpa using hb) (by simpa using hb2) (by simp only [World.size_alloc]; omega) fun v' w' ho hf _ => hK v' w' ho ?_
  exact (((Fr.refl _ _).alloc _).to' hf)
end
end Go.Proofs.Ytbjakblkppnieaa
