/- Contracts: objects, cleaned, put, compared. -/
import Derived.Test.YtbjakblkppnieaaC4
set_option linter.unusedVariables false
set_option linter.unusedSimpArgs false
namespace Go.Proofs.Ytbjakblkppnieaa
open Go Vc

theorem Ow.cap {w : World} {base e k : Nat} {v : Value} {rows : List (List Value)} (h : Ow w base e k v rows) : ∀ A m c, v = .slice A m c → m ≤ c := by
  rintro A m c rfl
  rcases h.2.2 with ⟨hv, h0⟩ | ⟨g, cap, cur, hv, hb, hh, hn, hr⟩
  · injection hv with h1 h2 h3
    omega
  · injection hv with h1 h2 h3
    omega
theorem object_Clean_spec (sl : Value) (l : List Ver) (n : Int) (w : World) (hl : Rd w 46 4 sl (vrows l)) (hs : short l.length) (hr : RightO l) (hc : ∀ A m c, sl = .slice A m c → m ≤ c) :
    Sp P 56 [.agg #[sl], .int .i64 n] w fun v w' => ∃ s, v = .agg #[s] ∧ Ow w' w.heap.size 46 4 s (vrows (cleanV l n)) ∧ Gr w w' := by
  obtain ⟨A, c, rfl⟩ := hl.form
  rw [vrows_len] at hl ⊢
  have hcl := hc _ _ _ rfl
  rw [vrows_len] at hcl
  have hmax := len_max hl
  refine vc_object_Object_Clean (post fun R hR => ?_)
  unfold VC_object_Object_Clean
  simp only [go_sem]
  have hl2 := (hl.alloc (.cells #[.slice A l.length c] 74)).alloc (.cells #[.slice none 0 0] 74)
  refine (object_Right_spec _ l _ hl2 hr).mono ?_
  rintro v w2 ⟨rfl, hg⟩
  have c1 := cell_gr (w' := w2) (b := w.heap.size) (o := 0) (v := .slice A l.length c) (by simp only [go_sem]) hg
  have B2 : w2.heap[w.heap.size + 1]? = some (.cells #[.slice none 0 0] 74) := heap_gr (heap_new_at (by simp only [go_sem])) hg
  simp only [go_sem, c1]
  refine (upto_spec _ l n _ (hl2.gr hg).drew hs hr).mono ?_
  rintro v w3 ⟨rfl, hg3⟩
  have hcn := cnt_le l n
  have hw : IntKind.i64.wrap ((cntV l n : Int) - 1) = (cntV l n : Int) - 1 := wrap_i64 _ (by omega) (by omega)
  have hm : max ((cntV l n : Int) - 1) 0 = ((cntV l n - 1 : Nat) : Int) := by omega
  simp only [go_sem, cell_gr (w' := w3) (w := w2.drew) c1 hg3, true_and, hw, hm]
  rw [slice_lo Try.underlying72 sz46 A l.length c ((cntV l n - 1 : Nat) : Int) (by omega) (by omega)]
  have hl3 : Rd w3 46 4 (.slice (if c = cntV l n - 1 then A else A.map (·.add ((cntV l n - 1) * 4))) (l.length - (cntV l n - 1)) (c - (cntV l n - 1))) (vrows (cleanV l n)) := by
    rw [clean_drop hr, vrows, List.map_drop]
    exact ((hl2.gr hg).drew.gr hg3).drop _ _ (by rw [vrows_len]; omega) (fun he => List.drop_eq_nil_of_le (by rw [vrows_len]; omega))
  have hlen : (cleanV l n).length ≤ l.length := List.length_filter_le _ _
  simp only [go_sem]
  refine (clone_Version_spec _ _ _ hl3 (by unfold short at *; omega)).mono ?_
  rintro v w4 ⟨ho, hg4⟩
  obtain ⟨A', c', rfl⟩ := ho.rd.form
  have B4 := heap_gr (heap_gr (w' := w3) (w := w2.drew) B2 hg3) hg4
  simp only [go_sem]
  refine store_box B4 rfl rfl ?_
  simp only [go_sem, cell_of (putB_heap _ (lt_of_heap B4))]
  have hsz := hg3.size
  have hsz2 := hg.size
  simp only [go_sem] at hsz hsz2
  have hf4 : Fr [w.heap.size + 1] w4 (putB w4 (w.heap.size + 1) (.cells #[.slice A' (vrows (cleanV l n)).length c'] 74)) := (Fr.refl _ _).putB (.inr (by simp)) _
  refine hR _ _ ⟨_, rfl, (ho.base (by omega)).fr hf4 (fun b hb => ?_), ((((((Fr.refl _ _).alloc _).alloc _).gr hg).drew.gr hg3).gr hg4).putB (.inl (by omega)) _⟩
  have := (ho.lt b hb).1
  simp only [List.mem_singleton]
  omega

theorem object_Put_spec (sl : Value) (l : List Ver) (a : Int) (s : ByteArray) (g : Bool) (w : World) (hl : Rd w 46 4 sl (vrows l)) (hs : l.length ≤ 1000000) (hr : RightO l)
    (hn : (lastV l).num < 18446744073709551615) (hz : s.size ≤ 9223372036854775807) :
    Sp P 39 [.agg #[sl], .int .i64 a, .string s, .bool g] w fun v w' => ∃ x, v = .tuple #[.agg #[x], .int .i64 (bif putOk l a s g then 0 else 1)] ∧ (putOk l a s g = true → Ow w' w.heap.size 46 4 x (vrows (putV l a s g))) ∧ (putOk l a s g = false → x = .slice none 0 0) ∧ Gr w w' := by
  obtain ⟨A, c, rfl⟩ := hl.form
  rw [vrows_len] at hl ⊢
  refine vc_object_Object_Put (post fun R hR => ?_)
  unfold VC_object_Object_Put
  simp only [go_sem]
  have hl2 := (hl.alloc (.cells #[.slice A l.length c] 74)).alloc (.cells #[.slice none 0 0] 74)
  refine (object_Last_spec _ l _ hl2 hr).mono ?_
  rintro v w2 ⟨rfl, hg⟩
  have c1 := cell_gr (w' := w2) (b := w.heap.size) (o := 0) (v := .slice A l.length c) (by simp only [go_sem]) hg
  have B2 : w2.heap[w.heap.size + 1]? = some (.cells #[.slice none 0 0] 74) := heap_gr (heap_new_at (by simp only [go_sem])) hg
  have hsz := hg.size
  simp only [go_sem] at hsz
  simp only [go_sem, cell_alloc c1]
  have hl3 := (hl2.gr hg).alloc (.cells (lastV l).cs.toArray 46)
  refine (object_Right_spec _ l _ hl3 hr).mono ?_
  rintro v w3 ⟨rfl, hg3⟩
  have c2 := cell_gr (cell_alloc c1 _) hg3
  have B3 := heap_gr (heap_old B2 _) hg3
  have L3 : w3.heap[w2.heap.size]? = some (.cells (lastV l).cs.toArray 46) := heap_gr (heap_new_at rfl) hg3
  have k0 : w3.cell? ⟨w2.heap.size, 0, none⟩ = some (.int .i64 (lastV l).at_) := cell_of L3
  have k1 : w3.cell? ⟨w2.heap.size, 1, none⟩ = some (.int .u64 (lastV l).num) := cell_of L3
  have hsz3 := hg3.size
  simp only [go_sem] at hsz3
  have hG3 : Gr w w3 := (((((Fr.refl _ _).alloc _).alloc _).gr hg).alloc _).gr hg3
  have hbad : ∀ w4, Gr w3 w4 → putOk l a s g = false → StoreV P 74 (ptr (w.heap.size + 1) 0) (.agg #[.slice none 0 0]) w4 (fun w17 => LoadV P 74 (ptr (w.heap.size + 1) 0) w17 fun v28 => R (.tuple #[v28, (.int .i64 1)]) w17) := by
    intro w4 hg4 hp
    have B4 := heap_gr B3 hg4
    simp only [go_sem]
    refine store_box B4 rfl rfl ?_
    simp only [go_sem, cell_of (putB_heap _ (lt_of_heap B4))]
    exact hR _ _ ⟨_, by rw [hp]; rfl, by rw [hp]; simp, fun _ => rfl, (hG3.gr hg4).putB (.inl (by omega)) _⟩
  have hle := lastV_le hr
  cases d1 : decide (a < 1)
  · have d1' : 1 ≤ a := by have := of_decide_eq_false d1; omega
    cases d2 : decide (a ≤ (lastV l).at_)
    · have d2' : (lastV l).at_ < a := by have := of_decide_eq_false d2; omega
      simp only [go_sem, k0, d1, d2]
      refine (object_value_spec s g _ hz).mono ?_
      rintro v w4 ⟨rfl, rfl⟩
      cases hm : mayV s g
      · simp only [go_sem]
        have := hbad w4 (Fr.refl _ _) (by simp [putOk, hm])
        simp only [go_sem] at this
        exact this
      · have hp : putOk l a s g = true := by simp [putOk, hm, d1', d2']
        have d3 : decide ((lastV l).num = 18446744073709551615) = false := decide_eq_false (by omega)
        simp only [go_sem, k1, d3]
        have hwn : IntKind.u64.wrap ((lastV l).num + 1) = (lastV l).num + 1 := wrap_u64 _ (by omega) (by omega)
        refine Join.intro (fun v w5 => v = .int .i64 0 ∧ Gr w w5 ∧ ∃ x, w5.heap[w.heap.size + 1]? = some (.cells #[x] 74) ∧ Ow w5 w.heap.size 46 4 x (vrows (putV l a s g))) ?_ ?_
        · intro K hK
          have hl4 := (hl3.gr hg3).drew
          have hfin : ∀ w5 w6 x, Gr w4 w5 → w4.heap.size ≤ w5.heap.size → Fr (bl x) w5 w6 → (∀ b ∈ bl x, w4.heap.size ≤ b) → ∀ y, Ow w6 w4.heap.size 46 4 y (vrows l ++ [Ver.cs ⟨a, (lastV l).num + 1, s, g⟩]) →
              PureV P (buildS 74 #[(0, y)]) fun v43 => StoreV P 74 (ptr (w.heap.size + 1) 0) v43 w6 fun w22 => K (.int .i64 0) w22 := by
            intro w5 w6 x hg5 hs5 hf5 hb5 y hy
            obtain ⟨A', c', rfl⟩ := hy.rd.form
            have B6 := heap_fr (heap_gr B3 hg5) hf5 (fun hb => by have := hb5 _ hb; omega)
            simp only [go_sem]
            refine store_box B6 rfl rfl ?_
            refine hK _ _ ⟨rfl, ((hG3.gr hg5).trans hf5 (fun b hb => .inr (by have := hb5 b hb; omega))).putB (.inl (by omega)) _, _, putB_heap _ (lt_of_heap B6), ?_⟩
            have hf6 : Fr [w.heap.size + 1] w6 (putB w6 (w.heap.size + 1) (.cells #[.slice A' (vrows l ++ [Ver.cs ⟨a, (lastV l).num + 1, s, g⟩]).length c'] 74)) := (Fr.refl _ _).putB (.inr (by simp)) _
            have := (hy.base (base' := w.heap.size) (by omega)).fr hf6 (fun b hb => by
              have := (hy.lt b hb).1
              simp only [List.mem_singleton]
              omega)
            rw [putV, vrows_app]
            exact this
          simp only [go_sem, c2, k1, hwn]
          constructor
          · refine (clone_Version_spec _ l _ hl4 (by unfold short; omega)).mono ?_
            rintro v w5 ⟨ho, hg5⟩
            simp only [go_sem, cell_gr (w := w4.drew) k1 hg5, true_and]
            have hlit := (Ow.lit w5 46 4 [.int .i64 a, .int .u64 ((lastV l).num + 1), .string s, .bool g] [Ver.cs ⟨a, (lastV l).num + 1, s, g⟩] (by simp [Ver.cs]) (by simp [Ver.cs]) (by simp)).rd
            refine append_rd (base := w4.heap.size) Try.underlying72 inf46 rfl (by omega) (ho.alloc _) hlit (vrows_one [⟨a, (lastV l).num + 1, s, g⟩]) (by simp [vrows_len]; omega) (by simp [vrows_len]; omega) (by have := hg5.size; simp only [go_sem] at this ⊢; omega) ?_
            intro y w6 hy hf hloc
            have hg5' : Gr w4 w5 := (Fr.refl [] w4).drew.gr hg5
            exact hfin _ w6 v (hg5'.alloc _) (by have := hg5'.size; simp only [go_sem]; omega) hf (fun b hb => (ho.lt b hb).1) y hy
          · have B4 := ((hl3.gr hg3).alloc (.cells #[.int .i64 a, .int .u64 ((lastV l).num + 1), .string s, .bool g] 46)).drew
            refine ⟨cell_alloc c2 _, ?_⟩
            refine (clone_Version_spec _ l _ B4 (by unfold short; omega)).mono ?_
            rintro v w5 ⟨ho, hg5⟩
            have hlit := ((Ow.lit w4 46 4 [.int .i64 a, .int .u64 ((lastV l).num + 1), .string s, .bool g] [Ver.cs ⟨a, (lastV l).num + 1, s, g⟩] (by simp [Ver.cs]) (by simp [Ver.cs]) (by simp)).rd.drew).gr hg5
            have hsz5 := hg5.size
            simp only [go_sem] at hsz5
            have ho' : Ow w5 w4.heap.size 46 4 v (vrows l) := ho.base (by simp only [go_sem]; omega)
            refine append_rd (base := w4.heap.size) Try.underlying72 inf46 rfl (by omega) ho' hlit (vrows_one [⟨a, (lastV l).num + 1, s, g⟩]) (by simp [vrows_len]; omega) (by simp [vrows_len]; omega) (by omega) ?_
            intro y w6 hy hf hloc
            have hg5' : Gr w4 w5 := (((Fr.refl [] w4).alloc _).drew).gr hg5
            exact hfin w5 w6 v hg5' hg5'.size hf (fun b hb => (ho'.lt b hb).1) y hy
        · rintro v w5 ⟨rfl, hg5, x, B5, hx⟩
          simp only [go_sem, cell_of B5]
          exact hR _ _ ⟨x, by rw [hp]; rfl, fun _ => hx, by rw [hp]; simp, hg5⟩
    · have hp : putOk l a s g = false := by
        have := of_decide_eq_true d2
        have : decide ((lastV l).at_ < a) = false := decide_eq_false (by omega)
        simp [putOk, this]
      have := hbad w3 (Fr.refl _ _) hp
      simp only [go_sem] at this
      simp only [go_sem, k0, d1, d2]
      exact this
  · have hp : putOk l a s g = false := by
      have := of_decide_eq_true d1
      have : decide (1 ≤ a) = false := decide_eq_false (by omega)
      simp [putOk, this]
    have := hbad w3 (Fr.refl _ _) hp
    simp only [go_sem] at this
    simp only [go_sem, d1]
    exact this
end Go.Proofs.Ytbjakblkppnieaa
