/- The law SpaceApart. -/
import Derived.Test.YtbjakblkppnieaaC14
set_option linter.unusedVariables false
set_option linter.unusedSimpArgs false
namespace Go.Proofs.Ytbjakblkppnieaa
open Go Vc

theorem Fine.nil (N : Nat) : Fine [] N := ⟨by simp [Rise], by simp, by simp⟩
theorem RS.new (w : World) : RS (w.alloc (.cells #[.slice none 0 0] 28)) w.heap.size [] := ⟨_, [], heap_new _ _, rfl, Rd.nil _ _ _ _ _, by simp⟩
def kA : ByteArray := ⟨#[97]⟩
def kB : ByteArray := ⟨#[98]⟩
theorem slt_ab : slt kA kB = true := by rw [slt, less_before, ByteArray.toList_eq, ByteArray.toList_eq]; rfl
theorem slt_ba : slt kB kA = false := slt_asym slt_ab
theorem awake_1 : putS [] kA 1 ⟨#[120]⟩ false = [(kA, [⟨1, 1, ⟨#[120]⟩, false⟩])] := by rfl
theorem awake_2 : putS [(kA, [⟨1, 1, ⟨#[120]⟩, false⟩])] kB 2 ⟨#[121]⟩ false = [(kA, [⟨1, 1, ⟨#[120]⟩, false⟩]), (kB, [⟨2, 1, ⟨#[121]⟩, false⟩])] := by
  have h : putS [(kA, [⟨1, 1, ⟨#[120]⟩, false⟩])] kB 2 ⟨#[121]⟩ false = insS (kB, [⟨2, 1, ⟨#[121]⟩, false⟩]) [(kA, [⟨1, 1, ⟨#[120]⟩, false⟩])] := by rfl
  rw [h]
  simp [insS, slt_ba]
theorem law10_awake_spec (w : World) : Sp P 15 [] w fun v w' => v = .bool true ∧ Gr w w' := by
  refine vc_sautoirlaw10_awake (post fun R hR => ?_)
  unfold VC_sautoirlaw10_awake
  refine (space_New_spec w).mono ?_
  rintro v w1 ⟨rfl, hM1, hg1⟩
  have h1 := awake_1
  unfold putS at h1
  refine (space_Put_spec _ _ [] 0 kA 1 ⟨#[120]⟩ false w1 hM1 (Fine.nil 0) (by omega) (by decide) (by decide)).mono ?_
  rintro v w2 ⟨rfl, hM2, hf2⟩
  rw [h1] at hM2
  have F1 : Fine [(kA, [⟨1, 1, ⟨#[120]⟩, false⟩])] 1 := by
    have := (Fine.nil 0).put (by omega) (key := kA) (a := 1) (s := ⟨#[120]⟩) (g := false) (by decide) (by omega)
    rwa [awake_1] at this
  have h2 := awake_2
  unfold putS at h2
  refine (space_Put_spec _ _ _ 1 kB 2 ⟨#[121]⟩ false w2 hM2 F1 (by omega) (by decide) (by decide)).mono ?_
  rintro v w3 ⟨rfl, hM3, hf3⟩
  rw [h2] at hM3
  have F2 : Fine [(kA, [⟨1, 1, ⟨#[120]⟩, false⟩]), (kB, [⟨2, 1, ⟨#[121]⟩, false⟩])] 2 := by
    have := F1.put (by omega) (key := kB) (a := 2) (s := ⟨#[121]⟩) (g := false) (by decide) (by omega)
    rwa [awake_2] at this
  have hg3 : Gr w w3 := (hg1.trans hf2 (fun b hb => .inr (by simp at hb; omega))).trans hf3 (fun b hb => .inr (by simp at hb; omega))
  refine (space_Dirty_spec _ _ _ 2 1 w3 hM3 F2 (by omega)).mono ?_
  rintro v w4 ⟨hv, hg4⟩
  have hfl : (([(kA, [(⟨1, 1, ⟨#[120]⟩, false⟩ : Ver)]), (kB, [⟨2, 1, ⟨#[121]⟩, false⟩])].filter fun p => decide (cntV p.2 1 < p.2.length)).map (·.1)) = [kB] := by rfl
  rw [hfl] at hv
  obtain ⟨A, c, rfl⟩ := hv.form
  have e1 : (bif keyOk kA && putOk (getS [] kA) 1 ⟨#[120]⟩ false then (0 : Int) else 1) = 0 := by rfl
  have e2 : (bif keyOk kB && putOk (getS [(kA, [⟨1, 1, ⟨#[120]⟩, false⟩])] kB) 2 ⟨#[121]⟩ false then (0 : Int) else 1) = 0 := by rfl
  have e3 : (srows [kB]).length = 1 := rfl
  have e4 : ((1 : Nat) : Int) = 1 := rfl
  rw [e1, e2]
  rw [e3] at hv ⊢
  simp only [go_sem, e4]
  refine srd_index (l := [kB]) hv Try.underlying33 sz9 0 (by simp) ?_
  intro b o hb e0
  have e0' : w4.cell? ⟨b, o, none⟩ = some (.string kB) := e0
  have e5 : decide (kB = (⟨#[98]⟩ : ByteArray)) = true := by simp [kB]
  simp only [go_sem, e0', e5]
  refine (space_Num_spec _ _ _ 2 kA w4 (hM3.gr hg4) F2 (by decide)).mono ?_
  rintro v w5 ⟨rfl, hg5⟩
  have e6 : (lastV (getS [(kA, [(⟨1, 1, ⟨#[120]⟩, false⟩ : Ver)]), (kB, [⟨2, 1, ⟨#[121]⟩, false⟩])] kA)).num = 1 := by rfl
  rw [e6]
  simp only [go_sem]
  exact hR _ _ ⟨rfl, (hg3.gr hg4).gr hg5⟩
/-- Operations in memory. -/
def orows (l : List Op10) : List (List Value) := l.map Op10.cs
theorem ord_index {K : Value → Prop} {w : World} {v : Value} {l : List Op10} {e0 : TypeId} (h : Rd w e0 5 v (orows l)) {kd : IntKind} (i : Nat) (hi : i < l.length)
    (hk : ∀ b o, b < w.heap.size → w.cell? ⟨b, o, none⟩ = some (.int .i64 l[i].kind) → w.cell? ⟨b, o + 1, none⟩ = some (.string l[i].key) → w.cell? ⟨b, o + 2, none⟩ = some (.int .i64 l[i].at_) → w.cell? ⟨b, o + 3, none⟩ = some (.string l[i].val) → w.cell? ⟨b, o + 4, none⟩ = some (.bool l[i].gone) → K (ptr b o)) :
    Vc.PureV P (Vc.iaddrS 22 v (.int kd i)) K := by
  refine h.index Try.underlying22 sz30 i (by omega) (by rw [orows, List.length_map]; omega) fun b o hb hc => ?_
  have hg : (orows l)[i]? = some l[i].cs := by simp [orows, hi]
  simp only [Int.toNat_natCast, hg, Option.bind_some, Op10.cs] at hc
  exact hk b o hb (hc 0 (by omega)) (hc 1 (by omega)) (hc 2 (by omega)) (hc 3 (by omega)) (hc 4 (by omega))
/-- What an operation of the input may be. -/
def OpIn (o : Op10) : Prop := o.at_ ≤ 9223372036854775807 ∧ o.key.size ≤ 9223372036854775807 ∧ o.val.size ≤ 9223372036854775807
theorem spaceApart_walk (e0 : TypeId) (sl : Value) (l : List Op10) (o : Op10) (key : ByteArray) (n : Int) (w : World) (hl : Rd w e0 5 sl (orows l)) (hin : ∀ x ∈ l, OpIn x) (ho : OpIn o) (hk : key.size ≤ 9223372036854775807) :
    Sp P 4 [sl, .agg #[.int .i64 o.kind, .string o.key, .int .i64 o.at_, .string o.val, .bool o.gone], .string key, .int .i64 n] w fun v w' => v = .bool true ∧ Gr w w' := by
  obtain ⟨A, c, rfl⟩ := hl.form
  have hll : (orows l).length = l.length := by simp [orows]
  rw [hll] at hl ⊢
  have hmax : l.length ≤ 9223372036854775807 := by have := hl.2.choose_spec.choose_spec.2.1; rwa [hll] at this
  refine vc_sautoirlaw10_SpaceApart (post fun R hR => ?_)
  unfold VC_sautoirlaw10_SpaceApart
  simp only [go_sem]
  refine (space_New_spec _).mono ?_
  rintro v w1 ⟨rfl, hM1, hg1⟩
  have hg0 : Gr w w1 := ((Fr.refl _ _).alloc _).gr hg1
  have B1 : w1.heap[w.heap.size]? = some (.cells o.cs.toArray 30) := heap_gr (heap_new _ _) hg1
  have hlt1 := hM1.lt
  simp only [go_sem] at hM1 hlt1 ⊢
  have hR1 := RS.new w1
  have hM2 := hM1.gr ((Fr.refl _ _).alloc (.cells #[.slice none 0 0] 28))
  refine loop1 (fun y w2 => ∃ (k : Nat) (S : Rows) (N : Nat), y = .int .i64 k ∧ k ≤ l.length ∧ N ≤ 15 ∧ N ≤ k ∧ Gr w w2 ∧ MS w2 (w.heap.size + 1 + 1) (w.heap.size + 1) S ∧ RS w2 w1.heap.size S ∧ Fine S N ∧ w2.heap[w.heap.size]? = some (.cells o.cs.toArray 30)) (fun y w1 => match y with | .int _ k => (l.length - k).toNat | _ => 0)
    ⟨0, [], 0, rfl, by omega, by omega, by omega, hg0.alloc _, hM2, hR1, Fine.nil 0, heap_old B1 _⟩ ?_
  rintro m1 w2 H ⟨k, S, N, hkk, hle, hN, hNk, hg, hM, hRS, hF, hB⟩ hH
  rw [hkk] at hH ⊢
  simp only [go_sem]
  by_cases hlt : (k : Int) < l.length
  · have hkl : k < l.length := by omega
    simp only [hlt, go_sem]
    refine Join.intro0 (fun w3 => ∃ (S : Rows) (N : Nat), N ≤ 15 ∧ N ≤ k + 1 ∧ Gr w w3 ∧ MS w3 (w.heap.size + 1 + 1) (w.heap.size + 1) S ∧ RS w3 w1.heap.size S ∧ Fine S N ∧ w3.heap[w.heap.size]? = some (.cells o.cs.toArray 30)) ?_ ?_
    · intro K hK
      refine ord_index (hl.gr hg) k hkl ?_
      intro b o' hb e0 e1 e2 e3 e4
      simp only [go_sem, e0, e1, e2, e3, e4]
      have hga : Gr w2 (w2.alloc (.cells l[k].cs.toArray 30)) := (Fr.refl _ _).alloc _
      by_cases h15 : (k : Int) < 15
      · simp only [h15, go_sem]
        have hok := hin _ (List.getElem_mem hkl)
        refine (law10_step_spec _ _ _ S N l[k] _ (hM.gr hga) (hRS.gr hga) hF (by omega) hok.1 hok.2.1 hok.2.2).mono ?_
        rintro v w4 ⟨rfl, hM4, hR4, hf4⟩
        refine hK _ ⟨_, N + 1, by omega, by omega, (hg.gr hga).trans hf4 (fun b hb => .inr (by simp at hb; omega)), hM4, hR4, hF.step (by omega) _ hok.1, heap_fr (heap_gr hB hga) hf4 (by simp; omega)⟩
      · simp only [h15, go_sem]
        exact hK _ ⟨S, N, hN, by omega, hg.gr hga, hM.gr hga, hRS.gr hga, hF, heap_gr hB hga⟩
    · rintro w3 ⟨S3, N3, a1, a2, a3, a4, a5, a6, a7⟩
      rw [wrap_i64 _ (by omega) (by omega)]
      exact hH _ _ ⟨k + 1, S3, N3, by simp, by omega, a1, a2, a3, a4, a5, a6, a7⟩ (by simp only; omega)
  · simp only [hlt, go_sem]
    clear hH
    refine (space_Read_spec _ _ S N key n w2 hM hF (by omega) hk).mono ?_
    rintro v w3 ⟨rfl, hg3⟩
    simp only [go_sem]
    have hgA : Gr w2 (w3.alloc (.cells (readV (getS S key) n).1.cs.toArray 46)) := hg3.alloc _
    refine (space_Num_spec _ _ S N key _ (hM.gr hgA) hF hk).mono ?_
    rintro v w4 ⟨rfl, hg4⟩
    have hg24 := hgA.gr hg4
    have B4 := heap_gr hB hg24
    have M4 := hM.gr hg24
    have V4 : w4.heap[w3.heap.size]? = some (.cells (readV (getS S key) n).1.cs.toArray 46) := heap_gr (heap_new _ _) hg4
    have b1 : w4.cell? ⟨w.heap.size, 1, none⟩ = some (.string o.key) := cell_of B4
    have b2 : w4.cell? ⟨w.heap.size, 2, none⟩ = some (.int .i64 o.at_) := cell_of B4
    have b3 : w4.cell? ⟨w.heap.size, 3, none⟩ = some (.string o.val) := cell_of B4
    have b4 : w4.cell? ⟨w.heap.size, 4, none⟩ = some (.bool o.gone) := cell_of B4
    simp only [go_sem, b1, b2, b3, b4]
    refine (space_Put_spec _ _ S N o.key o.at_ o.val o.gone w4 M4 hF (by omega) ho.2.1 ho.2.2).mono ?_
    rintro v w5 ⟨rfl, hM5, hf5⟩
    have hF5 : Fine (putS S o.key o.at_ o.val o.gone) (N + 1) := hF.put (by omega) ho.2.1 ho.1
    refine (space_Read_spec _ _ (putS S o.key o.at_ o.val o.gone) (N + 1) key n w5 hM5 hF5 (by omega) hk).mono ?_
    rintro v w6 ⟨rfl, hg6⟩
    have hw3 := hM.lt
    have hs3 := hg3.size
    have B6 : w6.heap[w.heap.size]? = some (.cells o.cs.toArray 30) := heap_gr (heap_fr B4 hf5 (by simp)) hg6
    have V6 : w6.heap[w3.heap.size]? = some (.cells (readV (getS S key) n).1.cs.toArray 46) := heap_gr (heap_fr V4 hf5 (by simp; omega)) hg6
    have d1 : w6.cell? ⟨w.heap.size, 1, none⟩ = some (.string o.key) := cell_of B6
    have v0 : w6.cell? ⟨w3.heap.size, 0, none⟩ = some (.int .i64 (readV (getS S key) n).1.at_) := cell_of V6
    have v1 : w6.cell? ⟨w3.heap.size, 1, none⟩ = some (.int .u64 (readV (getS S key) n).1.num) := cell_of V6
    have v2 : w6.cell? ⟨w3.heap.size, 2, none⟩ = some (.string (readV (getS S key) n).1.val) := cell_of V6
    have v3 : w6.cell? ⟨w3.heap.size, 3, none⟩ = some (.bool (readV (getS S key) n).1.gone) := cell_of V6
    have hgW : Gr w w6 := (((hg.gr hg24).trans hf5 (fun b hb => .inr (by simp at hb; omega)))).gr hg6
    have hfin : ∀ w7, Gr w6 w7 → Sp P 15 [] w7 R := fun w7 h7 => (law10_awake_spec w7).mono (by
      rintro v w8 ⟨rfl, hg8⟩
      exact hR _ _ ⟨rfl, (hgW.gr h7).gr hg8⟩)
    have hga : ∀ X, Gr w6 (w6.alloc X) := fun X => (Fr.refl _ _).alloc X
    by_cases hko : o.key = key
    · have dk : decide (o.key = key) = true := decide_eq_true hko
      simp only [go_sem, cell_alloc d1, dk]
      exact (hfin _ (hga _)).mono fun v w' hr => hr
    · have dk : decide (o.key = key) = false := decide_eq_false hko
      have hgs : getS (putS S o.key o.at_ o.val o.gone) key = getS S key := by
        unfold putS
        cases keyOk o.key && putOk (getS S o.key) o.at_ o.val o.gone
        · rfl
        · rw [cond_true, getS_set, dk]; rfl
      rw [hgs]
      have hbb : ((readV (getS S key) n).2 == (readV (getS S key) n).2) = true := beq_self_eq_true _
      simp only [go_sem, cell_alloc d1, cell_alloc v0, cell_alloc v1, cell_alloc v2, cell_alloc v3, dk, Bool.and_self, hbb]
      refine (space_Num_spec _ _ _ (N + 1) key _ (hM5.gr (hg6.gr (hga _))) hF5 hk).mono ?_
      rintro v w7 ⟨rfl, hg7⟩
      have hgs' : getS (bif keyOk o.key && putOk (getS S o.key) o.at_ o.val o.gone then setS S o.key (putV (getS S o.key) o.at_ o.val o.gone) else S) key = getS S key := hgs
      rw [hgs']
      simp only [go_sem]
      exact (hfin _ ((hga _).gr hg7)).mono fun v w' hr => hr
end Go.Proofs.Ytbjakblkppnieaa
