/- Contracts: the law's reads and step. -/
import Derived.Test.YtbjakblkppnieaaC12
set_option linter.unusedVariables false
set_option linter.unusedSimpArgs false
namespace Go.Proofs.Ytbjakblkppnieaa
open Go Vc

theorem MS.frR {w w' : World} {bs bm br : Nat} {S S2 : Rows} (h : MS w bs bm S) (hR : RS w br S2) (hf : Fr [br] w w') : MS w' bs bm S := by
  obtain ⟨Rv, xs, hh, _⟩ := hR
  refine h.fr hf ?_ ?_ ?_
  · simp only [List.mem_singleton]
    rintro rfl
    have := h.1
    rw [hh] at this
    injection this with this
    injection this with h1 h2
    exact absurd h2 (by decide)
  · simp only [List.mem_singleton]
    rintro rfl
    exact h.map _ _ _ hh
  · intro b hb cs fz hc
    simp only [List.mem_singleton] at hb
    subst hb
    rw [hh] at hc
    injection hc with hc
    injection hc with h1 h2
    exact absurd h2 (by decide)
theorem RS.frM {w w' : World} {bs bm br : Nat} {S S2 : Rows} (h : RS w br S2) (hM : MS w bs bm S) (hf : Fr [bm] w w') : RS w' br S2 := by
  have hm := hM.map
  refine h.fr hf ?_ ?_ ?_
  · obtain ⟨Rv, xs, hh, _⟩ := h
    simp only [List.mem_singleton]
    rintro rfl
    exact hm _ _ _ hh
  · intro b hb
    simp only [List.mem_singleton] at hb
    subst hb
    exact fun cs fz => hm cs _ fz
  · intro b hb
    simp only [List.mem_singleton] at hb
    subst hb
    exact fun cs fz => hm cs _ fz
theorem law10_reads_spec (bs bm br : Nat) (S : Rows) (N : Nat) (key : ByteArray) (n : Int) (w : World) (h : MS w bs bm S) (hR : RS w br S) (hf : Fine S N) (hN : N ≤ 900000) (hk : key.size ≤ 9223372036854775807) :
    Sp P 9 [ptr bs 0, ptr br 0, .string key, .int .i64 n] w fun v w' => v = .bool true ∧ Gr w w' := by
  refine vc_sautoirlaw10_reads (post fun R hQ => ?_)
  unfold VC_sautoirlaw10_reads
  refine (space_Read_spec bs bm S N key n w h hf hN hk).mono ?_
  rintro v w1 ⟨rfl, hg1⟩
  generalize hu : (readV (getS S key) n) = u at *
  simp only [go_sem]
  refine (ref10_Of_spec br S key _ ((hR.gr hg1).gr ((Fr.refl _ _).alloc _))).mono ?_
  rintro v w2 ⟨hv, hg2⟩
  obtain ⟨f1, f2, f3⟩ := hf.get key
  refine (ref09_Read_spec v (getS S key) n _ hv (by omega)).mono ?_
  rintro v w3 ⟨rfl, hg3⟩
  have B3 : w3.heap[w1.heap.size]? = some (.cells u.1.cs.toArray 46) := heap_gr (heap_gr (heap_new_at rfl) hg2) hg3
  have q0 : w3.cell? ⟨w1.heap.size, 0, none⟩ = some (.int .i64 u.1.at_) := cell_of B3
  have q1 : w3.cell? ⟨w1.heap.size, 1, none⟩ = some (.int .u64 u.1.num) := cell_of B3
  have q2 : w3.cell? ⟨w1.heap.size, 2, none⟩ = some (.string u.1.val) := cell_of B3
  have q3 : w3.cell? ⟨w1.heap.size, 3, none⟩ = some (.bool u.1.gone) := cell_of B3
  rw [hu]
  have hbb : (u.2 == u.2) = true := beq_self_eq_true _
  simp only [go_sem, hbb, cell_alloc q0, cell_alloc q1, cell_alloc q2, cell_alloc q3, Bool.and_self]
  exact hQ _ _ ⟨rfl, (((hg1.alloc _).gr hg2).gr hg3).alloc _⟩
theorem law10_Keys_spec (s1 s2 : Value) (l m : List ByteArray) (w : World) (h1 : Rd w 9 1 s1 (srows l)) (h2 : Rd w 9 1 s2 (srows m)) :
    Sp P 11 [s1, s2] w fun v w' => v = .bool (decide (l = m)) ∧ Gr w w' := by
  obtain ⟨A1, c1, rfl⟩ := h1.form
  obtain ⟨A2, c2, rfl⟩ := h2.form
  have hx1 := srd_max h1
  have hx2 := srd_max h2
  rw [srows_len] at h1 h2 ⊢
  rw [srows_len]
  refine vc_sautoirlaw10_Keys (post fun R hR => ?_)
  unfold VC_sautoirlaw10_Keys
  simp only [go_sem]
  by_cases hlen : l.length = m.length
  · have d0 : decide ((l.length : Int) = m.length) = true := decide_eq_true (by omega)
    simp only [d0, go_sem]
    refine loop1 (fun v w1 => ∃ k : Nat, v = .int .i64 k ∧ k ≤ m.length ∧ Gr w w1 ∧ ∀ i (a : i < l.length) (b : i < m.length), i < k → l[i] = m[i]) (fun v w1 => match v with | .int _ k => (m.length - k).toNat | _ => 0) ⟨0, rfl, by omega, Fr.refl _ _, by omega⟩ ?_
    rintro m1 w1 H ⟨k, hk, hle, hg, ha⟩ hH
    rw [hk] at hH ⊢
    simp only [go_sem]
    by_cases hlt : (k : Int) < m.length
    · simp only [hlt, go_sem]
      have hkl : k < l.length := by omega
      have hkm : k < m.length := by omega
      refine srd_index (h1.gr hg) Try.underlying33 sz9 k hkl ?_
      intro b o hb e0
      simp only [go_sem, e0]
      refine srd_index (h2.gr hg) Try.underlying33 sz9 k hkm ?_
      intro b o hb e0
      simp only [go_sem, e0]
      by_cases he : l[k] = m[k]
      · simp only [he, go_sem]
        rw [wrap_i64 _ (by omega) (by omega)]
        refine hH _ _ ⟨k + 1, by simp, by omega, hg.drew, fun i a b hi => ?_⟩ (by simp only; omega)
        rcases Nat.lt_or_eq_of_le (show i ≤ k by omega) with h | rfl
        · exact ha i a b h
        · exact he
      · simp only [he, go_sem]
        refine hR _ _ ⟨?_, hg.drew⟩
        have : ¬ l = m := by rintro rfl; exact he rfl
        simp [this]
    · simp only [hlt, go_sem]
      refine hR _ _ ⟨?_, hg⟩
      have : l = m := eq_of_all hlen fun i a b => ha i a b (by omega)
      simp [this]
  · have d0 : decide ((l.length : Int) = m.length) = false := decide_eq_false (by omega)
    simp only [d0, go_sem]
    refine hR _ _ ⟨?_, Fr.refl _ _⟩
    have : ¬ l = m := by rintro rfl; exact hlen rfl
    simp [this]
/-- An operation of the law. -/
structure Op10 where
  kind : Int
  key : ByteArray
  at_ : Int
  val : ByteArray
  gone : Bool
def Op10.cs (o : Op10) : List Value := [.int .i64 o.kind, .string o.key, .int .i64 o.at_, .string o.val, .bool o.gone]
def cutS (s : ByteArray) (n : Nat) : ByteArray := bif decide (n < s.size) then s.extract 0 n else s
def putS (S : Rows) (key : ByteArray) (a : Int) (s : ByteArray) (g : Bool) : Rows := bif keyOk key && putOk (getS S key) a s g then setS S key (putV (getS S key) a s g) else S
def stepS (S : Rows) (o : Op10) : Rows :=
  bif decide (o.kind = 0) || (decide (o.kind = 1) || (decide (o.kind = 2) || decide (o.kind = 3))) then putS S (cutS o.key 40) o.at_ (cutS o.val 70) o.gone
  else bif decide (o.kind = 4) then turnS (undoV · o.at_) S else bif decide (o.kind = 5) then turnS (cleanV · o.at_) S else S
theorem cut_size (s : ByteArray) (n : Nat) : (cutS s n).size ≤ n := by
  unfold cutS
  by_cases h : n < s.size
  · simp only [h, decide_true, cond_true, ByteArray.size_extract]
    omega
  · simp only [h, decide_false, cond_false]
    omega
theorem mem_setS {S : Rows} {key : ByteArray} {l : List Ver} {p : ByteArray × List Ver} (h : p ∈ setS S key l) : (p = (key, l) ∧ l.length ≠ 0) ∨ p ∈ S := by
  unfold setS at h
  by_cases h0 : l.length = 0
  · simp only [h0, decide_true, cond_true] at h
    exact .inr (List.mem_filter.1 h).1
  · simp only [h0, decide_false, cond_false] at h
    rcases mem_ins h with h | h
    · exact .inl ⟨h, h0⟩
    · exact .inr (List.mem_filter.1 h).1
theorem len_ins (x : ByteArray × List Ver) : ∀ S : Rows, (insS x S).length = S.length + 1
  | [] => rfl
  | y :: t => by
    unfold insS
    cases slt x.1 y.1 <;> simp [len_ins x t]
theorem len_setS (S : Rows) (key : ByteArray) (l : List Ver) : (setS S key l).length ≤ S.length + 1 := by
  have hd : (delR S key).length ≤ S.length := List.length_filter_le _ _
  unfold setS
  cases decide (l.length = 0)
  · rw [cond_false, len_ins]
    omega
  · rw [cond_true]
    omega
theorem Fine.mono {S : Rows} {N : Nat} (h : Fine S N) : Fine S (N + 1) :=
  ⟨h.1, by have := h.2.1; omega, fun p hp => ⟨(h.2.2 p hp).1, by have := (h.2.2 p hp).2.1; omega, fun v hv => by have := (h.2.2 p hp).2.2.1 v hv; omega, (h.2.2 p hp).2.2.2⟩⟩
theorem Fine.put {S : Rows} {N : Nat} (h : Fine S N) (hN : N ≤ 900000) {key : ByteArray} {a : Int} {s : ByteArray} {g : Bool} (hk : key.size ≤ 9223372036854775807) (ha : a ≤ 9223372036854775807) : Fine (putS S key a s g) (N + 1) := by
  unfold putS
  cases hc : keyOk key && putOk (getS S key) a s g
  · exact h.mono
  · rw [Bool.and_eq_true] at hc
    obtain ⟨f1, f2, f3⟩ := h.get key
    refine ⟨h.1.set _ _, Nat.le_trans (len_setS _ _ _) (by have := h.2.1; omega), fun p hp => ?_⟩
    rcases mem_setS hp with ⟨rfl, h0⟩ | hp
    · refine ⟨f1.put hc.2 ha (by omega), by simp only [putV, List.length_append, List.length_cons, List.length_nil]; omega, fun v hv => ?_, h0, hk⟩
      rcases List.mem_append.1 hv with hv | hv
      · rcases getS_mem S key with hm | he
        · have := (h.2.2 _ hm).2.2.1 v hv
          omega
        · rw [he] at hv
          simp at hv
      · simp only [List.mem_singleton] at hv
        subst hv
        simp only
        omega
    · exact (h.mono).2.2 p hp
theorem Fine.turn {S : Rows} {N : Nat} (h : Fine S N) {f : List Ver → List Ver} (hf : ∀ l, RightO l → RightO (f l)) (hl : ∀ l, (f l).length ≤ l.length) (hm : ∀ l, ∀ v ∈ f l, v ∈ l) : Fine (turnS f S) (N + 1) := by
  refine ⟨h.1.turn, by have := turn_len f S; have := h.2.1; omega, fun p hp => ?_⟩
  obtain ⟨q, hq, rfl, h0⟩ := mem_turn hp
  obtain ⟨q1, q2, q3, q4, q5⟩ := h.2.2 q hq
  exact ⟨hf _ q1, by have := hl q.2; simp only; omega, fun v hv => by have := q3 v (hm _ v hv); omega, h0, q5⟩
theorem Fine.undo {S : Rows} {N : Nat} (h : Fine S N) (n : Int) : Fine (turnS (undoV · n) S) (N + 1) := h.turn (fun l hl => hl.undo n) (fun l => List.length_filter_le _ _) (fun l v hv => (List.mem_filter.1 hv).1)
theorem Fine.clean {S : Rows} {N : Nat} (h : Fine S N) (n : Int) : Fine (turnS (cleanV · n) S) (N + 1) := h.turn (fun l hl => hl.clean n) (fun l => List.length_filter_le _ _) (fun l v hv => (List.mem_filter.1 hv).1)
theorem Fine.step {S : Rows} {N : Nat} (h : Fine S N) (hN : N ≤ 900000) (o : Op10) (ha : o.at_ ≤ 9223372036854775807) : Fine (stepS S o) (N + 1) := by
  unfold stepS
  cases decide (o.kind = 0) || (decide (o.kind = 1) || (decide (o.kind = 2) || decide (o.kind = 3)))
  · cases decide (o.kind = 4)
    · cases decide (o.kind = 5)
      · exact h.mono
      · exact h.clean _
    · exact h.undo _
  · exact h.put hN (by have := cut_size o.key 40; omega) ha
end Go.Proofs.Ytbjakblkppnieaa
