/- Contracts: the document's spaces: Of, set. -/
import Derived.Test.YtbjakblkppnieaaC7
set_option linter.unusedVariables false
set_option linter.unusedSimpArgs false
namespace Go.Proofs.Ytbjakblkppnieaa
open Go Vc

def xcs (x : XR) : List Value := [.string x.k, x.s]
theorem xrd_index {K : Value → Prop} {w : World} {v : Value} {xs : List XR} (h : Rd w 36 2 v (xs.map xcs)) {kd : IntKind} (i : Nat) (hi : i < xs.length)
    (hk : ∀ b o, b < w.heap.size → w.cell? ⟨b, o, none⟩ = some (.string xs[i].k) → w.cell? ⟨b, o + 1, none⟩ = some xs[i].s → K (ptr b o)) :
    Vc.PureV P (Vc.iaddrS 26 v (.int kd i)) K := by
  refine h.index Try.underlying26 sz36 i (by omega) (by rw [List.length_map]; omega) fun b o hb hc => ?_
  have hg : (xs.map xcs)[i]? = some (xcs xs[i]) := by simp [hi]
  simp only [Int.toNat_natCast, hg, Option.bind_some, xcs] at hc
  exact hk b o hb (hc 0 (by omega)) (hc 1 (by omega))
/-- The document's space in block br: these rows. -/
def RS (w : World) (br : Nat) (S : Rows) : Prop :=
  ∃ Rv, ∃ xs : List XR, w.heap[br]? = some (.cells #[Rv] 28) ∧ S = xs.map XR.r ∧ Rd w 36 2 Rv (xs.map xcs) ∧ ∀ x ∈ xs, Rd w 40 4 x.s (vrows x.l)
theorem RS.fr {w w' : World} {br : Nat} {S : Rows} (h : RS w br S) {M : List Nat} (hf : Fr M w w') (hb : br ∉ M) (h1 : ∀ b ∈ M, ∀ cs fz, w.heap[b]? ≠ some (.cells cs 36 fz)) (h2 : ∀ b ∈ M, ∀ cs fz, w.heap[b]? ≠ some (.cells cs 40 fz)) : RS w' br S := by
  obtain ⟨Rv, xs, hh, hS, hr, hx⟩ := h
  exact ⟨Rv, xs, heap_fr hh hf hb, hS, hr.fr' hf h1, fun x hx' => (hx x hx').fr' hf h2⟩
theorem RS.gr {w w' : World} {br : Nat} {S : Rows} (h : RS w br S) (hf : Gr w w') : RS w' br S := h.fr hf (by simp) (by simp) (by simp)
theorem RS.lt {w : World} {br : Nat} {S : Rows} (h : RS w br S) : br < w.heap.size := by
  obtain ⟨Rv, xs, hh, _⟩ := h
  exact lt_of_heap hh

theorem ref10_Of_spec (br : Nat) (S : Rows) (key : ByteArray) (w : World) (h : RS w br S) :
    Sp P 31 [ptr br 0, .string key] w fun v w' => Rd w' 40 4 v (vrows (getS S key)) ∧ Gr w w' := by
  obtain ⟨Rv, xs, hh, rfl, hr, hx⟩ := h
  obtain ⟨A, c, rfl⟩ := hr.form
  rw [List.length_map] at hr hh
  have hmax : xs.length ≤ 9223372036854775807 := by have := hr.2.choose_spec.choose_spec.2.1; rwa [List.length_map] at this
  refine vc_sautoirref10_Space_Of (post fun R hR => ?_)
  unfold VC_sautoirref10_Space_Of
  simp only [go_sem, cell_of hh]
  refine loop1 (fun v w1 => ∃ k : Nat, v = .int .i64 k ∧ k ≤ xs.length ∧ Gr w w1 ∧ getS (xs.map XR.r) key = getS ((xs.drop k).map XR.r) key) (fun v w1 => match v with | .int _ k => (xs.length - k).toNat | _ => 0) ⟨0, rfl, by omega, Fr.refl _ _, rfl⟩ ?_
  rintro m1 w1 H ⟨k, hk, hle, hg, he⟩ hH
  rw [hk] at hH ⊢
  simp only [go_sem]
  by_cases hlt : (k : Int) < xs.length
  · have hkl : k < xs.length := by omega
    simp only [hlt, go_sem]
    refine xrd_index (hr.gr hg) k hkl ?_
    intro b o hb e0 e1
    have hxk := hx _ (List.getElem_mem hkl)
    obtain ⟨A', c', hs⟩ := hxk.form
    rw [hs] at e1
    simp only [go_sem, e0, e1]
    have hd : xs.drop k = xs[k] :: xs.drop (k + 1) := List.drop_eq_getElem_cons hkl
    by_cases hq : xs[k].k = key
    · simp only [go_sem, hq]
      refine hR _ _ ⟨?_, hg.alloc _⟩
      have : getS (xs.map XR.r) key = xs[k].l := by rw [he, hd, List.map_cons, getS_cons]; simp [XR.r, hq]
      rw [this, ← hs]
      exact (hxk.gr hg).alloc _
    · simp only [go_sem, hq]
      rw [wrap_i64 _ (by omega) (by omega)]
      refine hH _ _ ⟨k + 1, by simp, by omega, hg.alloc _, ?_⟩ (by simp only; omega)
      rw [he, hd, List.map_cons, getS_cons]
      simp [XR.r, hq]
  · simp only [hlt, go_sem]
    refine hR _ _ ⟨?_, hg⟩
    have : getS (xs.map XR.r) key = [] := by rw [he, List.drop_eq_nil_of_le (by omega)]; rfl
    rw [this]
    exact Rd.nil _ _ _ _ _

theorem xcs_one {xs : List XR} (h : ∀ x ∈ xs, x.s.oneCell' = true) : ∀ r ∈ xs.map xcs, ∀ u ∈ r, u.oneCell' = true := by
  intro r hr u hu
  obtain ⟨x, hx, rfl⟩ := List.mem_map.1 hr
  simp only [xcs, List.mem_cons, List.not_mem_nil, or_false] at hu
  rcases hu with rfl | rfl
  · rfl
  · exact h x hx
theorem ref10_set_spec (br : Nat) (S : Rows) (key : ByteArray) (lv : Value) (l : List Ver) (w : World) (h : RS w br S) (hl : Rd w 40 4 lv (vrows l)) (hs : S.length ≤ 1000000) :
    Sp P 51 [ptr br 0, .string key, lv] w fun v w' => RS w' br (refset key l (decide (l.length = 0)) S) ∧ Fr [br] w w' := by
  obtain ⟨Rv, xs, hh, rfl, hr, hx⟩ := h
  rw [List.length_map] at hs
  obtain ⟨A, c, rfl⟩ := hr.form
  obtain ⟨A2, c2, rfl⟩ := hl.form
  rw [List.length_map] at hr hh
  rw [vrows_len] at hl ⊢
  refine vc_sautoirref10_Space_set (post fun R hR => ?_)
  unfold VC_sautoirref10_Space_set
  simp only [go_sem, cell_of hh]
  have hd0 : decide ((l.length : Int) = 0) = decide (l.length = 0) := decide_eq_decide.2 (by omega)
  rw [hd0]
  have happ : ∀ (w1 : World) (x : Value) (ys : List XR) (a : XR) (n : Nat) (K : Value → World → Prop), n = w1.heap.size → Gr w w1 → Ow w1 w.heap.size 36 2 x (ys.map xcs) → ys.length ≤ 3000000 → (∀ y ∈ ys, Rd w1 40 4 y.s (vrows y.l)) → Rd w1 40 4 a.s (vrows a.l) →
      (∀ v' w', Gr w w' → Ow w' w.heap.size 36 2 v' ((ys ++ [a]).map xcs) → Fr (bl x) w1 w' → (∀ y ∈ ys ++ [a], Rd w' 40 4 y.s (vrows y.l)) → K v' w') →
      RunV P (appS #[26, 26] 26 #[x, .slice (some ⟨n, 0, none⟩) 1 1]) (w1.alloc (.cells (xcs a).toArray 36)) K := by
    intro w1 x ys a n K hn hg ho hy hys ha hK
    obtain ⟨A', c', hs'⟩ := ha.form
    have hsz := hg.size
    refine append_lit (base := w.heap.size) Try.underlying26 inf36 rfl (by omega) ho (xcs a) rfl (by simp [xcs, hs', Value.oneCell']) (by rw [List.length_map]; omega) (by rw [List.length_map]; omega) hsz hn ?_
    intro v' w' hv hf
    refine hK v' w' (hg.own hf fun b hb => (ho.lt b hb).1) (by simpa using hv) hf fun y hy => ?_
    rcases List.mem_append.1 hy with hy | hy
    · exact (hys y hy).own ho (by omega) hf
    · simp only [List.mem_singleton] at hy
      subst hy
      exact ha.own ho (by omega) hf
  refine loop3 (fun x y z w1 => ∃ (k : Nat) (d : Bool) (ys : List XR), y = .bool d ∧ z = .int .i64 k ∧ k ≤ xs.length ∧ Gr w w1 ∧ Ow w1 w.heap.size 36 2 x (ys.map xcs) ∧ ys.length ≤ 2 * k ∧ (∀ y ∈ ys, Rd w1 40 4 y.s (vrows y.l)) ∧
    ys.map XR.r ++ refset key l d ((xs.drop k).map XR.r) = refset key l (decide (l.length = 0)) (xs.map XR.r)) (fun x y z w1 => match z with | .int _ k => (xs.length - k).toNat | _ => 0) ⟨0, _, [], rfl, rfl, by omega, Fr.refl _ _, Ow.nil _ _ _ _, by simp, by simp, rfl⟩ ?_
  rintro m1 w1 H ⟨k, d, ys, hd, hk, hle, hg, ho, hyl, hys, he⟩ hH
  rw [hk] at hH
  rw [hd, hk]
  simp only [go_sem]
  by_cases hlt : (k : Int) < xs.length
  · have hkl : k < xs.length := by omega
    have hdr : xs.drop k = xs[k] :: xs.drop (k + 1) := List.drop_eq_getElem_cons hkl
    simp only [hlt, go_sem]
    refine Join.intro2 (fun x y w2 => ∃ (d : Bool) (ys : List XR), y = .bool d ∧ Gr w w2 ∧ Ow w2 w.heap.size 36 2 x (ys.map xcs) ∧ ys.length ≤ 2 * (k + 1) ∧ (∀ y ∈ ys, Rd w2 40 4 y.s (vrows y.l)) ∧
      ys.map XR.r ++ refset key l d ((xs.drop (k + 1)).map XR.r) = refset key l (decide (l.length = 0)) (xs.map XR.r)) ?_ ?_
    · intro K hK
      refine xrd_index (hr.gr hg) k hkl ?_
      intro b o hb e0 e1
      have hxk := hx _ (List.getElem_mem hkl)
      obtain ⟨A', c', hs'⟩ := hxk.form
      rw [hs'] at e1
      simp only [go_sem, e0, e1]
      have hbox : ∀ b ∈ bl (m1 6), b < w1.heap.size := fun b hb => (ho.lt b hb).2
      refine Join.intro2 (fun x y w2 => ∃ ys2 : List XR, y = .bool (d || !slt xs[k].k key) ∧ Gr w w2 ∧ Ow w2 w.heap.size 36 2 x (ys2.map xcs) ∧ ys2.length ≤ 2 * k + 1 ∧ (∀ y ∈ ys2, Rd w2 40 4 y.s (vrows y.l)) ∧ w2.cell? ⟨w1.heap.size, 0, none⟩ = some (.string xs[k].k) ∧ w2.cell? ⟨w1.heap.size, 1, none⟩ = some (.slice A' (vrows xs[k].l).length c') ∧
        ys2.map XR.r = ys.map XR.r ++ (bif !d && !slt xs[k].k key then [(key, l)] else [])) ?_ ?_
      · intro K3 hK3
        have ho1 := ho.alloc (.cells #[.string xs[k].k, .slice A' (vrows xs[k].l).length c'] 36)
        have hys1 : ∀ y ∈ ys, Rd (w1.alloc (.cells #[.string xs[k].k, .slice A' (vrows xs[k].l).length c'] 36)) 40 4 y.s (vrows y.l) := fun y hy => (hys y hy).alloc _
        have hno : (!d && !slt xs[k].k key) = false → d = (d || !slt xs[k].k key) → K3 (m1 6) (.bool d) (w1.alloc (.cells #[.string xs[k].k, .slice A' (vrows xs[k].l).length c'] 36)) := fun h1 h2 =>
          hK3 _ _ _ ⟨ys, by rw [← h2], hg.alloc _, ho1, by omega, hys1, by simp only [go_sem], by simp only [go_sem], by rw [h1]; simp⟩
        cases d
        · cases hsl : slt xs[k].k key
          · simp only [go_sem, hsl]
            refine happ _ (m1 6) ys ⟨key, .slice A2 l.length c2, l⟩ _ _ (by simp only [go_sem]) (hg.alloc _) ho1 (by omega) hys1 ((hl.gr hg).alloc _) ?_
            intro v' w' hg' ho' hf' hy'
            refine hK3 _ _ _ ⟨ys ++ [⟨key, .slice A2 l.length c2, l⟩], by rw [hsl]; rfl, hg', ho', by simp; omega, hy', cell_fr (by simp only [go_sem]) hf' fun hb => by have := hbox _ hb; omega, cell_fr (by simp only [go_sem]) hf' fun hb => by have := hbox _ hb; omega, by rw [hsl]; simp [XR.r]⟩
          · simp only [go_sem, hsl]
            exact hno (by rw [hsl]; rfl) (by rw [hsl]; rfl)
        · simp only [go_sem]
          exact hno rfl rfl
      · rintro x y w2 ⟨ys2, rfl, hg2, ho2, hl2, hys2, c0, c1, he2⟩
        simp only [go_sem, c0, c1]
        rw [hdr, List.map_cons] at he
        simp only [refset] at he
        rw [← List.append_assoc, show XR.r xs[k] = (xs[k].k, xs[k].l) from rfl] at he
        simp only at he
        rw [← he2] at he
        by_cases hq : xs[k].k = key
        · simp only [go_sem, hq]
          rw [hq] at he
          refine hK _ _ _ ⟨_, ys2, rfl, hg2, ho2, by omega, hys2, ?_⟩
          rw [← he]
          simp [hq]
        · simp only [go_sem, hq]
          refine happ w2 x ys2 ⟨xs[k].k, .slice A' (vrows xs[k].l).length c', xs[k].l⟩ _ _ rfl hg2 ho2 (by omega) hys2 (by rw [← hs']; exact hxk.gr hg2) ?_
          intro v' w' hg' ho' hf' hy'
          refine hK _ _ _ ⟨_, ys2 ++ [⟨xs[k].k, .slice A' (vrows xs[k].l).length c', xs[k].l⟩], rfl, hg', ho', by simp; omega, hy', ?_⟩
          rw [← he]
          simp [hq, XR.r]
    · rintro x y w2 ⟨d2, ys2, rfl, hg2, ho2, hl2, hys2, he2⟩
      rw [wrap_i64 _ (by omega) (by omega)]
      exact hH _ _ _ _ ⟨k + 1, d2, ys2, rfl, by simp, by omega, hg2, ho2, hl2, hys2, he2⟩ (by simp only; omega)
  · simp only [hlt, go_sem]
    have hk2 : k = xs.length := by omega
    subst hk2
    rw [List.drop_length] at he
    refine Join.intro (fun x w2 => ∃ ys2 : List XR, Gr w w2 ∧ Ow w2 w.heap.size 36 2 x (ys2.map xcs) ∧ (∀ y ∈ ys2, Rd w2 40 4 y.s (vrows y.l)) ∧ ys2.map XR.r = refset key l (decide (l.length = 0)) (xs.map XR.r)) ?_ ?_
    · intro K hK
      cases d
      · simp only [go_sem]
        refine happ w1 (m1 6) ys ⟨key, .slice A2 l.length c2, l⟩ _ _ rfl hg ho (by omega) hys (hl.gr hg) ?_
        intro v' w' hg' ho' hf' hy'
        refine hK _ _ ⟨_, hg', ho', hy', ?_⟩
        rw [← he]
        simp [refset, XR.r]
      · simp only [go_sem]
        refine hK _ _ ⟨ys, hg, ho, hys, ?_⟩
        rw [← he]
        simp [refset]
    · rintro x w2 ⟨ys2, hg2, ho2, hys2, he2⟩
      obtain ⟨A3, c3, rfl⟩ := ho2.rd.form
      have B2 := heap_gr hh hg2
      simp only [go_sem]
      refine store_box B2 rfl rfl ?_
      refine hR _ _ ⟨⟨_, ys2, putB_heap _ (lt_of_heap B2), he2.symm, (ho2.rd).put B2 (by omega) _, fun y hy => (hys2 y hy).put B2 (by omega) _⟩, (hg2.to _).putB (.inr (by simp)) _⟩
end Go.Proofs.Ytbjakblkppnieaa
