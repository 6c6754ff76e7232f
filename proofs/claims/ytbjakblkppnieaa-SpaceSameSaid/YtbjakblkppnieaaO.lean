/- The inputs of the laws of layer 10, opened. -/
import Derived.Test.YtbjakblkppnieaaC15
import Derived.Deep.Slices
set_option linter.unusedVariables false
set_option linter.unusedSimpArgs false
namespace Go.Proofs.Ytbjakblkppnieaa
open Go Vc Go.ChangeShapes Go.WideShapes Go.Deep

instance : Inhabited Op10 := ⟨⟨0, ⟨#[]⟩, 0, ⟨#[]⟩, false⟩⟩
theorem op_cells : P.cellsOf 30 = 5 := by kernel_rfl
theorem c1_int : P.cellsOf 3 = 1 := by kernel_rfl
theorem c1_str : P.cellsOf 9 = 1 := by kernel_rfl
theorem c1_bool : P.cellsOf 4 = 1 := by kernel_rfl
theorem list5 {α : Type} : ∀ {l : List α}, l.length = 5 → ∃ a b c d e, l = [a, b, c, d, e]
  | [a, b, c, d, e], _ => ⟨a, b, c, d, e, rfl⟩
theorem open_op {H : Type} {enc : TypeId × Value → H} {W : World} {base fuel : Nat} {sp : Nat → Bool} {held : Bool} {cs : List Value} {x : DataW H × List MemPlace} (h : DataW.trod enc P W base sp held fuel 30 cs = some x) : ∃ o : Op10, OpIn o ∧ cs = o.cs := by
  obtain ⟨xs, n, _, _, hlen, hxl, hf⟩ := DataW.trod_struct Try.underlying30 h
  rw [op_cells] at hlen
  have hxl5 : xs.length = 5 := hxl
  obtain ⟨v0, v1, v2, v3, v4, rfl⟩ := list5 hlen
  obtain ⟨y0, y1, y2, y3, y4, rfl⟩ := list5 hxl5
  · clear hxl hlen hxl5
    have g0 := hf 0 _ rfl
    have g1 := hf 1 _ rfl
    have g2 := hf 2 _ rfl
    have g3 := hf 3 _ rfl
    have g4 := hf 4 _ rfl
    simp [c1_int, c1_str, c1_bool] at g0 g1 g2 g3 g4
    obtain ⟨a0, e0, _, w0⟩ := DataW.trod_int Try.underlying3 g0
    obtain ⟨a1, e1, _, w1⟩ := DataW.trod_string Try.underlying9 g1
    obtain ⟨a2, e2, _, w2⟩ := DataW.trod_int Try.underlying3 g2
    obtain ⟨a3, e3, _, w3⟩ := DataW.trod_string Try.underlying9 g3
    obtain ⟨a4, e4, _⟩ := DataW.trod_bool Try.underlying4 g4
    simp only [List.cons.injEq, and_true] at e0 e1 e2 e3 e4
    subst e0 e1 e2 e3 e4
    refine ⟨⟨a0, a1, a2, a3, a4⟩, ⟨?_, ?_, ?_⟩, rfl⟩
    · simp only [Lit.wf, Bool.and_eq_true, decide_eq_true_eq] at w2
      exact w2.2
    · unfold maxLen at w1
      simp only
      omega
    · unfold maxLen at w3
      simp only
      omega
theorem open_ops {H : Type} {enc : TypeId × Value → H} {W : World} {base fuel : Nat} {sp : Nat → Bool} {held : Bool} {v : Value} {x : DataW H × List MemPlace} (hv : ∃ a n c, v = .slice a n c) (h : DataW.trod enc P W base sp held fuel 22 v.cells.toList = some x) :
    ∃ (e0 : TypeId) (l : List Op10), Rd W e0 5 v (orows l) ∧ ∀ o ∈ l, OpIn o := by
  obtain ⟨A, n0, c0, rfl⟩ := hv
  rcases open_slice Try.underlying22 h with ⟨h0, _⟩ | ⟨a, len, cap, m, n, D, Pl, hcs, hb, hl, hm, hmm, _, hx⟩
  · simp only [go_sem] at h0
    simp only [List.cons.injEq, and_true, Value.slice.injEq] at h0
    obtain ⟨rfl, rfl, rfl⟩ := h0
    exact ⟨0, [], Rd.nil _ _ _ _ _, by simp⟩
  · simp only [go_sem] at hcs
    simp only [List.cons.injEq, and_true, Value.slice.injEq] at hcs
    obtain ⟨rfl, rfl, rfl⟩ := hcs
    have hlm : n0 ≤ m := by rw [hmm]; split <;> omega
    have each : ∀ i, i < n0 → ∃ o : Op10, OpIn o ∧ ∀ j, j < 5 → W.cell? (a.add (i * 5 + j)) = o.cs[j]? := by
      intro i hi
      obtain ⟨cs', h1, h2⟩ := hx i (by omega)
      rw [op_cells] at h1
      obtain ⟨_, hlen, hcell⟩ := World.cells?_some h1
      obtain ⟨o, ho, rfl⟩ := open_op h2
      exact ⟨o, ho, fun j hj => by rw [← hcell j hj, add_add]⟩
    obtain ⟨f, hf⟩ := choose_lt each
    have hlen : ((List.range n0).map f).length = n0 := by simp
    have hrl : (orows ((List.range n0).map f)).length = n0 := by simp [orows]
    have hr5 : ∀ r ∈ orows ((List.range n0).map f), r.length = 5 := fun r hr => by
      obtain ⟨o, _, rfl⟩ := List.mem_map.1 hr
      rfl
    have hin : ∀ o ∈ (List.range n0).map f, OpIn o := fun o ho => by
      obtain ⟨i, hi, rfl⟩ := List.mem_map.1 ho
      exact (hf i (List.mem_range.1 hi)).1
    have hcell : ∀ j u, (orows ((List.range n0).map f)).flatten[j]? = some u → W.cell? (a.add j) = some u := by
      intro j u hu
      have e := flat_get _ hr5 (j / 5) (j % 5) (Nat.mod_lt _ (by omega))
      rw [show j / 5 * 5 + j % 5 = j by omega] at e
      rw [e] at hu
      have hlt : j / 5 < n0 := by
        rcases Nat.lt_or_ge (j / 5) n0 with h | h
        · exact h
        · rw [List.getElem?_eq_none (by rw [hrl]; exact h)] at hu
          simp at hu
      have hg : (orows ((List.range n0).map f))[j / 5]? = some (f (j / 5)).cs := by simp [orows, hlt]
      rw [hg, Option.bind_some] at hu
      have := (hf (j / 5) hlt).2 (j % 5) (Nat.mod_lt _ (by omega))
      rw [show j / 5 * 5 + j % 5 = j by omega, hu] at this
      exact this
    by_cases hn0 : n0 = 0
    · subst hn0
      exact ⟨0, [], Rd.nil _ _ _ _ _, by simp⟩
    · have hfirst : ∃ u, (orows ((List.range n0).map f)).flatten[0]? = some u := by
        have e := flat_get _ hr5 0 0 (by omega)
        have hg : (orows ((List.range n0).map f))[0]? = some (f 0).cs := by simp [orows, Nat.pos_of_ne_zero hn0]
        rw [hg] at e
        exact ⟨_, e⟩
      obtain ⟨u, hu⟩ := hfirst
      have h0 := hcell 0 u hu
      obtain ⟨b, o, spot⟩ := a
      have h0' : W.cell? ⟨b, o, spot⟩ = some u := by simpa [Addr.add] using h0
      unfold World.cell? at h0'
      split at h0'
      · rename_i c e0 fz hb
        cases spot with
        | some q => simp at h0'
        | none =>
          exact ⟨e0, (List.range n0).map f, ⟨hr5, _, c0, by rw [hrl], by rw [hrl]; unfold maxLen at hm; omega, fun _ => ⟨b, o, rfl, ⟨c, fz, hb⟩, fun j u hu => by have := hcell j u hu; rwa [add_plain] at this⟩⟩, hin⟩
      · cases h0'
end Go.Proofs.Ytbjakblkppnieaa
