/- Contracts: spaces, their keys in order. -/
import Derived.Test.YtbjakblkppnieaaC10
import Derived.Test.YtbjakblkppnieaaKs
set_option linter.unusedVariables false
set_option linter.unusedSimpArgs false
namespace Go.Proofs.Ytbjakblkppnieaa
open Go Vc

theorem sp_of_calls {P : Program} {f : FuncId} {args : List Value} {w : World} {R : Value → World → Prop} (hn : HasBody P f = true) (h : Calls P f args.toArray w fun e w' => ∃ v, e = .returned v ∧ R v w') : Sp P f args w R :=
  ⟨hn, h.mono fun e w' => by rintro ⟨v, rfl, hr⟩; exact hr⟩
theorem Below.gr {w w' : World} (h : RowKit.Below w.heap.size w w') : Gr w w' := ⟨h.os, h.tape, h.output, h.size, fun b hb _ => h.block b hb⟩
def ysk (ys : List XR) : List ByteArray := ys.map (·.k)
theorem space_Keys_spec (bs bm : Nat) (S : Rows) (N : Nat) (w : World) (h : MS w bs bm S) (hf : Fine S N) (hN : N ≤ 900000) :
    Sp P 12 [ptr bs 0] w fun v w' => Rd w' 9 1 v (srows (S.map (·.1))) ∧ Gr w w' := by
  obtain ⟨hh, ys, ho, hS, hy⟩ := h
  have hlen : ys.length ≤ N := by have := hf.2.1; rw [hS, List.length_map] at this; exact this
  have hsz : Maps.size (mapD ys) = ys.length := by simp [Maps.size, mapD]
  refine vc_space_Space_Keys (post fun R hR => ?_)
  unfold VC_space_Space_Keys
  simp only [go_sem, cell_of hh]
  refine Sp.mono (R := fun v w' => v = .func (.func 61) #[] #[.pointer (some ⟨w.heap.size, 0, none⟩)] ∧ w' = w.alloc (.cells #[.map (some bm)] 65)) (sp_of_calls (by kernel_rfl) ((callsIn_wide.1 (Try.maps_Keys_34 (some bm) w)).mono ?_)) ?_
  · rintro e w' ⟨rfl, rfl⟩
    exact ⟨_, rfl, rfl, rfl⟩
  rintro v w2 ⟨rfl, rfl⟩
  refine Sp.mono (R := fun v w' => Rd w' 9 1 v (srows (S.map (·.1))) ∧ Gr w w') (sp_of_calls (by kernel_rfl) ((callsIn_wide.1 (Try.slices_Sorted_keys_33_34 bm ys.length (mapD ys) RR w ho (by rw [hsz]; unfold maxLen; omega) (by rw [hsz]; omega))).mono ?_)) ?_
  · rintro e w' ⟨v, ss, rfl, hp, hrow, _, hb⟩
    refine ⟨v, rfl, ?_, ((Fr.refl _ _).alloc _).gr (Below.gr hb)⟩
    rw [sorted_keys (by rw [← hS]; exact hf.1) hp] at hrow
    have hsl : ss.length = (srows (S.map (·.1))).length := by
      rw [srows_len, List.length_map, hS, List.length_map]
      have := hp.length_eq
      rw [keys_mapD, List.length_map] at this
      exact this
    have hflat : (srows (S.map (·.1))).flatten = (ys.map fun y => y.k.data.toList).map encStr := by
      rw [hS]
      simp only [srows, List.map_map]
      clear hrow hp ho hy hS hsz hlen hsl
      induction ys with
      | nil => rfl
      | cons y t ih =>
        simp only [List.map_cons, List.flatten_cons, ih]
        rfl
    have hone : ∀ r ∈ srows (S.map (·.1)), r.length = 1 := fun r hr => by
      obtain ⟨s, _, rfl⟩ := List.mem_map.1 hr
      rfl
    rw [hsl, ← hflat] at hrow
    exact (show Ow w' _ 9 1 v (srows (S.map (·.1))) from ⟨hone, hrow⟩).rd
  · rintro v w2 hv
    exact hR _ _ hv
end Go.Proofs.Ytbjakblkppnieaa
