/- Contracts: spaces. -/
import Derived.Test.YtbjakblkppnieaaC9
set_option linter.unusedVariables false
set_option linter.unusedSimpArgs false
namespace Go.Proofs.Ytbjakblkppnieaa
open Go Vc

/-- What an object's slice holds, in the program's memory. -/
def OX (w : World) (y : XR) : Prop := Rd w 46 4 y.s (vrows y.l) ∧ ∀ A m c, y.s = .slice A m c → m ≤ c
/-- The program's space in block bs, its map in block bm: these rows. -/
def MS (w : World) (bs bm : Nat) (S : Rows) : Prop :=
  w.heap[bs]? = some (.cells #[.map (some bm)] 67) ∧ ∃ ys : List XR, w.ownsMap P 9 RR bm ys.length (mapD ys) ∧ S = ys.map XR.r ∧ ∀ y ∈ ys, OX w y
theorem OX.fr {w w' : World} {y : XR} (h : OX w y) {M : List Nat} (hf : Fr M w w') (hM : ∀ b ∈ M, ∀ cs fz, w.heap[b]? ≠ some (.cells cs 46 fz)) : OX w' y := ⟨h.1.fr' hf hM, h.2⟩
theorem own_fr {w w' : World} {k b n : Nat} {D : DataW Value} (h : w.ownsMap P k RR b n D) {M : List Nat} (hf : Fr M w w') (hb : b ∉ M) : w'.ownsMap P k RR b n D := by
  obtain ⟨es, clock, hh, r⟩ := h
  exact ⟨es, clock, heap_fr hh hf hb, r⟩
theorem MS.fr {w w' : World} {bs bm : Nat} {S : Rows} (h : MS w bs bm S) {M : List Nat} (hf : Fr M w w') (hs : bs ∉ M) (hm : bm ∉ M) (hM : ∀ b ∈ M, ∀ cs fz, w.heap[b]? ≠ some (.cells cs 46 fz)) : MS w' bs bm S := by
  obtain ⟨hh, ys, ho, hS, hy⟩ := h
  exact ⟨heap_fr hh hf hs, ys, own_fr ho hf hm, hS, fun y hy' => (hy y hy').fr hf hM⟩
theorem MS.gr {w w' : World} {bs bm : Nat} {S : Rows} (h : MS w bs bm S) (hf : Gr w w') : MS w' bs bm S := h.fr hf (by simp) (by simp) (by simp)
theorem MS.lt {w : World} {bs bm : Nat} {S : Rows} (h : MS w bs bm S) : bs < w.heap.size ∧ bm < w.heap.size := by
  obtain ⟨hh, ys, ho, _⟩ := h
  exact ⟨lt_of_heap hh, ho.lt⟩
theorem MS.map {w : World} {bs bm : Nat} {S : Rows} (h : MS w bs bm S) : ∀ cs t fz, w.heap[bm]? ≠ some (.cells cs t fz) := by
  obtain ⟨hh, ys, ⟨es, clock, hb, _⟩, _⟩ := h
  intro cs t fz hc
  rw [hb] at hc
  cases hc
theorem MS.ne {w : World} {bs bm : Nat} {S : Rows} (h : MS w bs bm S) : bs ≠ bm := by
  rintro rfl
  exact h.map _ _ _ h.1

theorem key_of {key : ByteArray} (hk : key.size ≤ 9223372036854775807) : keyOf P 9 (.string key) = some (.string key.data.toList) := by
  rw [keyOf_string Try.underlying9]
  have : key.size ≤ maxLen := by unfold maxLen; omega
  simp [mapKey, Try.underlying9, this]
theorem look_map {K : Value → Prop} {w : World} {bm : Nat} {ys : List XR} (h : w.ownsMap P 9 RR bm ys.length (mapD ys)) {key : ByteArray} (hk : key.size ≤ 9223372036854775807) :
    ReadV P (lookS 65 (.map (some bm)) (.string key) false) w K = K (.agg #[(lookX ys key).s]) := by
  obtain ⟨v, ps, hrun, hR⟩ := h.lookup (t := 65) (e := 74) (Maps.string_keyed Try.underlying9) Try.underlying65 (z := .agg #[nilS0]) (by kernel_rfl) (zd := .held (.agg #[nilS0])) (zp := []) rfl (key_of hk)
  rw [atKey_mapD] at hR
  simp only [RR, Option.some.injEq, Prod.mk.injEq, DataW.held.injEq] at hR
  rw [hR.1] at hrun
  exact rv_of hrun
theorem put_map {KU : World → Prop} {w : World} {bm : Nat} {ys : List XR} (h : w.ownsMap P 9 RR bm ys.length (mapD ys)) (hn : ys.length ≤ 1000000) {key : ByteArray} (hk : key.size ≤ 9223372036854775807) (s : Value) (l : List Ver)
    (hK : ∀ w', w'.ownsMap P 9 RR bm (insX ⟨key, s, l⟩ (delX ys key)).length (mapD (insX ⟨key, s, l⟩ (delX ys key))) → Fr [bm] w w' → KU w') : RunU P (mapupS 65 (.map (some bm)) (.string key) (.agg #[s])) w KU := by
  obtain ⟨w', hrun, ho, hg⟩ := h.update (t := 65) (e := 74) (Maps.string_keyed Try.underlying9) Try.underlying65 (by unfold maxLen; omega) (key_of hk) (val := .agg #[s]) (d := .held (.agg #[s])) (ps := []) rfl
  rw [put_mapD key s l] at ho
  rw [runU_of (s := mapupS _ _ _ _) hrun]
  exact hK w' (own_tight ho) (Fr.ofGrown hg fun b hb => by injection hb with hb; simp [hb])
theorem del_map {K2 : Value → World → Prop} {w : World} {bm : Nat} {ys : List XR} (h : w.ownsMap P 9 RR bm ys.length (mapD ys)) {key : ByteArray} (hk : key.size ≤ 9223372036854775807)
    (hK : ∀ w', w'.ownsMap P 9 RR bm (delX ys key).length (mapD (delX ys key)) → Fr [bm] w w' → K2 (.tuple #[]) w') (ty : TypeId) : RunV P (delS #[65, 9] ty #[.map (some bm), .string key]) w K2 := by
  obtain ⟨w', hrun, ho, hg⟩ := h.drop (t := 65) (e := 74) (Maps.string_keyed Try.underlying9) Try.underlying65 (key_of hk) ty
  rw [del_mapD] at ho
  rw [run_of (s := delS _ _ _) hrun]
  exact hK w' (own_tight ho) (Fr.ofGrown hg.grown fun b hb => by injection hb with hb; simp [hb])
theorem OX.look {w : World} {ys : List XR} (h : ∀ y ∈ ys, OX w y) (key : ByteArray) : OX w (lookX ys key) := by
  rcases lookX_mem ys key with hm | he
  · exact h _ hm
  · rw [he]
    exact ⟨Rd.nil _ _ _ _ _, fun A m c hs => by unfold nilS0 at hs; injection hs with h1 h2 h3; omega⟩

theorem space_New_spec (w : World) : Sp P 7 [] w fun v w' => v = ptr (w.heap.size + 1) 0 ∧ MS w' (w.heap.size + 1) w.heap.size [] ∧ Gr w w' := by
  refine vc_space_New (post fun R hR => ?_)
  unfold VC_space_New
  rw [run_of (s := mkmapS _ _) (RowKit.run_makeMap 65 w)]
  simp only [go_sem]
  refine hR _ _ ⟨rfl, ⟨heap_new_at (by simp only [go_sem]), [], ?_, rfl, by simp⟩, ((Fr.refl _ _).alloc _).alloc _⟩
  exact (World.ownsMap_made w P 9 RR).alloc _
/-- All objects are right. -/
def Fine (S : Rows) (N : Nat) : Prop := Rise S ∧ S.length ≤ N ∧ ∀ p ∈ S, RightO p.2 ∧ p.2.length ≤ N ∧ (∀ v ∈ p.2, v.num ≤ N) ∧ p.2.length ≠ 0 ∧ p.1.size ≤ 9223372036854775807
theorem getS_mem (S : Rows) (key : ByteArray) : (key, getS S key) ∈ S ∨ getS S key = [] := by
  induction S with
  | nil => exact .inr rfl
  | cons p t ih =>
    rw [getS_cons]
    by_cases h : p.1 = key
    · left
      simp only [h, decide_true, cond_true]
      rw [← h]
      simp
    · simp only [h, decide_false, cond_false]
      rcases ih with ih | ih
      · exact .inl (by simp [ih])
      · exact .inr ih
theorem Fine.get {S : Rows} {N : Nat} (h : Fine S N) (key : ByteArray) : RightO (getS S key) ∧ (getS S key).length ≤ N ∧ (lastV (getS S key)).num ≤ N := by
  rcases getS_mem S key with hm | he
  · have := h.2.2 _ hm
    refine ⟨this.1, this.2.1, ?_⟩
    rw [lastV_eq this.2.2.2.1]
    exact this.2.2.1 _ (List.getElem_mem _)
  · rw [he]
    exact ⟨RightO.nil, by simp, by simp [lastV, Ver.zero]⟩
theorem space_Put_spec (bs bm : Nat) (S : Rows) (N : Nat) (key : ByteArray) (a : Int) (s : ByteArray) (g : Bool) (w : World) (h : MS w bs bm S) (hf : Fine S N) (hN : N ≤ 900000) (hk : key.size ≤ 9223372036854775807) (hz : s.size ≤ 9223372036854775807) :
    Sp P 17 [ptr bs 0, .string key, .int .i64 a, .string s, .bool g] w fun v w' =>
      v = .int .i64 (bif keyOk key && putOk (getS S key) a s g then 0 else 1) ∧ MS w' bs bm (bif keyOk key && putOk (getS S key) a s g then setS S key (putV (getS S key) a s g) else S) ∧ Fr [bm] w w' := by
  have hne := h.ne
  have h0 := h
  obtain ⟨hh, ys, ho, hS, hy⟩ := h
  refine vc_space_Space_Put (post fun R hR => ?_)
  unfold VC_space_Space_Put
  simp only [go_sem]
  refine (keys_Right_spec key w hk).mono ?_
  rintro v w1 ⟨rfl, rfl⟩
  cases hko : keyOk key
  · simp only [go_sem]
    exact hR _ _ ⟨by rw [hko]; rfl, by rw [hko]; exact h0, Fr.refl _ _⟩
  · simp only [go_sem, cell_of hh]
    rw [look_map ho hk]
    have hox := OX.look hy key
    have hlk := lookX_l ys key
    rw [← hS] at hlk
    obtain ⟨f1, f2, f3⟩ := hf.get key
    have hrd := hox.1
    rw [hlk] at hrd
    refine (object_Put_spec (lookX ys key).s (getS S key) a s g w1 hrd (by omega) f1 (by omega) hz).mono ?_
    rintro v w2 ⟨x, rfl, hx1, hx0, hg⟩
    cases hp : putOk (getS S key) a s g
    · rw [hx0 hp]
      simp only [go_sem]
      refine Join.intro0 (fun w3 => Gr w1 w3) ?_ ?_
      · intro K hK
        have e0 : decide ((bif false then (0 : Int) else 1) = 0) = false := rfl
        simp only [e0, go_sem]
        exact hK _ (hg.alloc _)
      · intro w3 hg3
        exact hR _ _ ⟨by rw [hko, hp]; rfl, by rw [hko, hp]; exact h0.gr hg3, Gr.to hg3 _⟩
    · have hx := hx1 hp
      obtain ⟨A, c, rfl⟩ := hx.rd.form
      simp only [go_sem]
      refine Join.intro0 (fun w3 => MS w3 bs bm (setS S key (putV (getS S key) a s g)) ∧ Fr [bm] w1 w3) ?_ ?_
      · intro K hK
        have hg3 : Gr w1 (w2.alloc (.cells #[.slice A (vrows (putV (getS S key) a s g)).length c] 74)) := hg.alloc _
        have hg4 := hg3.drew
        have e0 : decide ((bif true then (0 : Int) else 1) = 0) = true := rfl
        simp only [go_sem, cell_of (heap_old (heap_gr hh hg) _), e0]
        refine put_map (own_fr ho hg4 (by simp)) (by have := hf.2.1; rw [hS, List.length_map] at this; omega) hk _ (putV (getS S key) a s g) ?_
        intro w5 ho5 hf5
        have hmap : ∀ b ∈ [bm], ∀ cs fz, (w2.alloc (.cells #[.slice A (vrows (putV (getS S key) a s g)).length c] 74)).drew.heap[b]? ≠ some (.cells cs 46 fz) := by
          intro b hb cs fz
          simp only [List.mem_singleton] at hb
          subst hb
          exact (h0.gr hg4).map _ _ _
        refine hK _ ⟨⟨heap_fr (heap_gr hh hg4) hf5 (by simpa using hne), _, ho5, ?_, fun y hy' => ?_⟩, hg4.to' hf5⟩
        · rw [insX_r, delX_r, ← hS]
          have hl : (putV (getS S key) a s g).length ≠ 0 := by simp [putV]
          simp only [setS, hl, decide_false, cond_false]
          rfl
        · rcases mem_insX hy' with rfl | hy'
          · exact ⟨((hx.alloc _).drew.rd).fr' hf5 hmap, hx.cap⟩
          · exact ((hy y ((List.mem_filter.1 hy').1)).fr hg4 (by simp)).fr hf5 hmap
      · rintro w3 ⟨hm3, hf3⟩
        exact hR _ _ ⟨by rw [hko, hp]; rfl, by rw [hko, hp]; exact hm3, hf3⟩
theorem space_Read_spec (bs bm : Nat) (S : Rows) (N : Nat) (key : ByteArray) (n : Int) (w : World) (h : MS w bs bm S) (hf : Fine S N) (hN : N ≤ 900000) (hk : key.size ≤ 9223372036854775807) :
    Sp P 16 [ptr bs 0, .string key, .int .i64 n] w fun v w' => v = .tuple #[(readV (getS S key) n).1.v, .bool (readV (getS S key) n).2] ∧ Gr w w' := by
  obtain ⟨hh, ys, ho, hS, hy⟩ := h
  refine vc_space_Space_Read (post fun R hR => ?_)
  unfold VC_space_Space_Read
  simp only [go_sem, cell_of (heap_old hh _)]
  rw [look_map (ho.alloc _) hk]
  have hox := OX.look hy key
  have hlk := lookX_l ys key
  rw [← hS] at hlk
  obtain ⟨f1, f2, f3⟩ := hf.get key
  have hrd := hox.1
  rw [hlk] at hrd
  refine (object_Read_spec _ (getS S key) n _ (hrd.alloc _) (by unfold short; omega) f1).mono ?_
  rintro v w2 ⟨rfl, hg⟩
  have B2 : w2.heap[w.heap.size]? = some (.cells Ver.zero.cs.toArray 46) := heap_gr (heap_new_at rfl) hg
  simp only [go_sem]
  refine store_box B2 rfl rfl ?_
  simp only [go_sem, cell_of (putB_heap _ (lt_of_heap B2))]
  exact hR _ _ ⟨rfl, (((Fr.refl _ _).alloc _).gr hg).putB (.inl (by omega)) _⟩
theorem space_Num_spec (bs bm : Nat) (S : Rows) (N : Nat) (key : ByteArray) (w : World) (h : MS w bs bm S) (hf : Fine S N) (hk : key.size ≤ 9223372036854775807) :
    Sp P 10 [ptr bs 0, .string key] w fun v w' => v = .int .u64 (lastV (getS S key)).num ∧ Gr w w' := by
  obtain ⟨hh, ys, ho, hS, hy⟩ := h
  refine vc_space_Space_Num (post fun R hR => ?_)
  unfold VC_space_Space_Num
  simp only [go_sem, cell_of hh]
  rw [look_map ho hk]
  have hlk := lookX_l ys key
  rw [← hS] at hlk
  obtain ⟨f1, f2, f3⟩ := hf.get key
  have hrd := (OX.look hy key).1
  rw [hlk] at hrd
  refine (object_Last_spec _ (getS S key) _ hrd f1).mono ?_
  rintro v w2 ⟨rfl, hg⟩
  simp only [go_sem]
  exact hR _ _ ⟨rfl, hg⟩
end Go.Proofs.Ytbjakblkppnieaa
