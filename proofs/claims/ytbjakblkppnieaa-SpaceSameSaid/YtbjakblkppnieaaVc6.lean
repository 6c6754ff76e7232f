/- Drawn regions, whole code, functions: what the predicate transformer says holds of the machine. -/
import Derived.Test.YtbjakblkppnieaaVc5
set_option linter.unusedVariables false
set_option linter.unusedSimpArgs false
namespace Go.Proofs.Ytbjakblkppnieaa
namespace Vc
open Go
section
variable {P : Program} {ops : Array Oper} {M N : Nat} {ps : List Nat}

def ssize : Sched → Nat
  | .done => 0
  | .rd _ k => ssize k + 1
  | .imp _ _ k => ssize k + 1
  | .both a b => ssize a + ssize b + 1
theorem heads_size : ∀ (s : Sched), ∀ h ∈ heads s, ssize h.2.2 < ssize s
  | .done, h, hm => by cases hm
  | .rd _ _, h, hm => by cases hm
  | .imp i st k, h, hm => by
    simp only [heads, List.mem_singleton] at hm
    subst hm
    simp [ssize]
  | .both a b, h, hm => by
    simp only [heads, List.mem_append] at hm
    rcases hm with hm | hm
    · have := heads_size a h hm; simp only [ssize]; omega
    · have := heads_size b h hm; simp only [ssize]; omega
theorem heads_dr {QE : Env → World → Prop} : ∀ (s : Sched) (e : Env) (w : World), drE P ops QE s e w → ∀ h ∈ heads s, drE P ops QE (.imp h.1 h.2.1 h.2.2) e w
  | .done, e, w, _, h, hm => by cases hm
  | .rd _ _, e, w, _, h, hm => by cases hm
  | .imp i st k, e, w, hd, h, hm => by
    simp only [heads, List.mem_singleton] at hm
    subst hm
    exact hd
  | .both a b, e, w, hd, h, hm => by
    simp only [heads, List.mem_append] at hm
    rcases hm with hm | hm
    · exact heads_dr a e w hd.1 h hm
    · exact heads_dr b e w hd.2 h hm
theorem heads_chk {L : Nat} {T : List Nat} : ∀ (s : Sched) (g : Bool), chk ops ps g L T s = true → ∀ h ∈ heads s, chk ops ps true L T (.imp h.1 h.2.1 h.2.2) = true
  | .done, g, _, h, hm => by cases hm
  | .rd _ _, g, _, h, hm => by cases hm
  | .imp i st k, g, hc, h, hm => by
    simp only [heads, List.mem_singleton] at hm
    subst hm
    simp only [chk, Bool.and_eq_true] at hc ⊢
    exact ⟨by simp, hc.2⟩
  | .both a b, g, hc, h, hm => by
    simp only [heads, List.mem_append] at hm
    simp only [chk, Bool.and_eq_true] at hc
    rcases hm with hm | hm
    · exact heads_chk a _ hc.2.1 h hm
    · exact heads_chk b _ hc.2.2 h hm
/-- Whoever may come up is a head. -/
theorem heads_all {L : Nat} {T : List Nat} : ∀ (s : Sched), chk ops ps false L T s = true → (∃ h, h ∈ heads s) → ∀ i, i < ops.size → L.testBit i = false → (∀ j ∈ waits (getO ops i), L.testBit j = true) → ∃ h ∈ heads s, h.1 = i
  | .done, hc, ⟨h, hm⟩, i, _, _, _ => by cases hm
  | .rd _ _, hc, ⟨h, hm⟩, i, _, _, _ => by cases hm
  | .imp i st k, hc, _, j, hj, hL, hw => by
    simp only [chk, Bool.and_eq_true, Bool.false_or, List.all_eq_true, List.mem_range] at hc
    have := hc.1 j hj
    rw [hL] at this
    simp only [Bool.false_or, Bool.or_eq_true, Bool.not_eq_true', List.all_eq_false] at this
    rcases this with ⟨x, hx, h⟩ | h
    · exact absurd (hw x hx) h
    · exact ⟨(i, st, k), by simp [heads], (Nat.eq_of_beq_eq_true h).symm⟩
  | .both a b, hc, _, j, hj, hL, hw => by
    simp only [chk, Bool.and_eq_true, Bool.false_or, List.all_eq_true, List.mem_range] at hc
    have := hc.1 j hj
    rw [hL] at this
    simp only [Bool.false_or, Bool.or_eq_true, Bool.not_eq_true', List.all_eq_false, List.any_eq_true] at this
    rcases this with ⟨x, hx, h⟩ | ⟨h, hm, he⟩
    · exact absurd (hw x hx) h
    · exact ⟨h, hm, (Nat.eq_of_beq_eq_true he).symm⟩

theorem stays_spec {e : Env} {w : World} {A : Prop} : ∀ (st : List Nat), stays P ops e w st A → A ∧ ∀ j ∈ st, wantE ops e (getO ops j) → stayE P (getO ops j) (ev e) (gv e ops j) w
  | [], h => ⟨h, fun j hj => by cases hj⟩
  | i :: l, h => by
    obtain ⟨h1, h2⟩ := h
    obtain ⟨h3, h4⟩ := stays_spec l h2
    refine ⟨h3, fun j hj hw => ?_⟩
    rcases List.mem_cons.1 hj with rfl | hj
    · unfold wantE at hw
      cases hg : (getO ops j).guard with
      | none => simp only [hg] at h1; exact h1
      | some g =>
        obtain ⟨x, b⟩ := g
        simp only [hg] at h1 hw
        exact h1 hw
    · exact h4 j hj hw
theorem stepE_rd {o : Oper} {e : Env} {w : World} {K : Value → World → Prop} (hc : (isRead o.op || isPure o.op) = true) (h : stepE P ops o e w K) :
    ∃ v, K v w ∧ Yat P ops e w o v ∧ (isPure o.op = true → ∀ w1, Yat P ops e w1 o v) := by
  unfold stepE at h
  split at h
  · rename_i hg
    obtain ⟨v, h1, h2, h3⟩ := opE_rd hc h
    have hw : wantE ops e o := by unfold wantE; rw [hg]; trivial
    exact ⟨v, h1, ⟨fun _ => h2, fun hn => absurd hw hn⟩, fun hp w1 => ⟨fun _ => h3 hp w1, fun hn => absurd hw hn⟩⟩
  · rename_i j b hg
    obtain ⟨h1, h2⟩ := h
    have hw : wantE ops e o ↔ gv e ops j = .bool b := by unfold wantE; rw [hg]
    by_cases hb : gv e ops j = .bool b
    · obtain ⟨v, g1, g2, g3⟩ := opE_rd hc (h1 hb)
      exact ⟨v, g1, ⟨fun _ => g2, fun hn => absurd (hw.2 hb) hn⟩, fun hp w1 => ⟨fun _ => g3 hp w1, fun hn => absurd (hw.2 hb) hn⟩⟩
    · exact ⟨undef, h2 hb, ⟨fun hn => absurd (hw.1 hn) hb, fun _ => rfl⟩, fun _ _ => ⟨fun hn => absurd (hw.1 hn) hb, fun _ => rfl⟩⟩
theorem opK_wp' {o : Oper} {e : Env} {a : Act} {w : World} {K : Value → World → Prop} {next : Act → World → Prop} {Q : Exit → Act → World → Prop}
    (h : OpK P o (ev e) w K) (he : execOp a.eval o = execOp (ev e) o) (hn : ∀ v w', K v w' → next (a.put o.dst v) w') : o.wp P a w next Q := by
  unfold Oper.wp
  rw [he]
  unfold OpK at h
  generalize (execOp (ev e) o).run P w = r at h
  cases r with
  | ok x w' =>
    cases x <;> simp only [Oper.upon] at h ⊢
    case value v => exact hn _ _ h
    case skip => exact hn _ _ h
    case enter f args =>
      refine h.mono ?_
      intro e' w'' hk
      cases e' with
      | returned v => exact hn _ _ hk
      | panicked c => exact hk.elim
      | outgrown => exact hk.elim
  | halt x w' => cases x <;> exact h.elim

theorem drE_sound {e0 : Env} {QE : Env → World → Prop} {Q : Exit → Act → World → Prop} (hok : okOps M N ops ps = true)
    (hQ : ∀ a' e' w', Sim N a' e' → Agree M e0 e' → QE e' w' → Q .normal a' w') : ∀ (sz : Nat) (s : Sched), ssize s ≤ sz → ∀ (L : Nat) (T : List Nat) (e : Env) (w : World),
      chk ops ps false L T s = true → drE P ops QE s e w → Agree M e0 e → ∀ (fuel : Nat) (listed : Array Bool) (a : Act), cnt ops.size listed ≤ fuel → Rel P ops ps N L T e listed a w →
      wpAny P .any ops Q fuel listed a w := by
  intro sz
  induction sz with
  | zero =>
    intro s hs L T e w hc hd ha fuel
    cases s with
    | done =>
      simp only [chk, Bool.not_false, Bool.true_and, List.all_eq_true, List.mem_range] at hc
      induction fuel with
      | zero =>
        intro listed a hcn r
        have hall := cnt_zero (Nat.le_zero.1 hcn)
        refine ⟨?_, hQ _ _ _ (r.sim hall) ha hd⟩
        rw [List.eq_nil_iff_forall_not_mem]
        intro i hi
        obtain ⟨h1, h2, _⟩ := (ready_iff r.size).1 hi
        rw [hall i h1] at h2; cases h2
      | succ fuel ih =>
        intro listed a hcn r
        refine ⟨fun hr => hQ _ _ _ (r.sim (all_listed hok r.size hr)) ha hd, fun i hi => ?_⟩
        obtain ⟨h1, h2, h3⟩ := (ready_iff r.size).1 hi
        have hL := hc i h1
        have hcs := cnt_set r.size h1 h2
        have hnext := ih (listed.setIfInBounds i true) _ (by omega) (r.pend hok h1 hL h2 h3)
        obtain ⟨hl1, hl2⟩ := same_look (ops_ok hok h1).1 (r.look hok h1 h3)
        obtain ⟨y, _⟩ := r.yld i h1 hL h2
        unfold wpOp
        rw [getO_some h1]
        by_cases hw : wantE ops e (getO ops i)
        · simp only [hl2.2 hw, if_true]
          refine .inl ?_
          unfold Oper.wp
          rw [hl1, y.1 hw]
          exact hnext
        · have hwf : ¬ Region.wanted (getO ops i) (yielded ops a.tmps) = true := fun hh => hw (hl2.1 hh)
          simp only [hwf]
          rw [y.2 hw] at hnext
          exact hnext
    | rd i k => simp [ssize] at hs
    | imp i st k => simp [ssize] at hs
    | both x y => simp [ssize] at hs
  | succ sz ih =>
    intro s hs L T e w hc hd ha
    -- a pending reader, or one of the heads
    have group : (∃ h, h ∈ heads s) → ∀ (fuel : Nat) (listed : Array Bool) (a : Act), cnt ops.size listed ≤ fuel → Rel P ops ps N L T e listed a w → wpAny P .any ops Q fuel listed a w := by
      rintro ⟨h0, hm0⟩ fuel
      -- the first head is not there yet
      have hnot : ∀ (listed : Array Bool) (a : Act), Rel P ops ps N L T e listed a w → ¬ ∀ i, i < ops.size → listed.getD i false = true := by
        intro listed a r hall
        have h1 := heads_chk s _ hc h0 hm0
        simp only [chk, Bool.and_eq_true, Bool.not_eq_true'] at h1
        have hlt := Nat.le_of_ble_eq_true h1.2.1
        have := r.inL h0.1 hlt (hall h0.1 hlt)
        rw [h1.2.2.1] at this
        cases this
      induction fuel with
      | zero =>
        intro listed a hcn r
        exact absurd (cnt_zero (Nat.le_zero.1 hcn)) (hnot listed a r)
      | succ fuel ihf =>
        intro listed a hcn r
        refine ⟨fun hr => absurd (all_listed hok r.size hr) (hnot listed a r), fun i hi => ?_⟩
        obtain ⟨h1, h2, h3⟩ := (ready_iff r.size).1 hi
        have hcs := cnt_set r.size h1 h2
        obtain ⟨hl1, hl2⟩ := same_look (ops_ok hok h1).1 (r.look hok h1 h3)
        unfold wpOp
        rw [getO_some h1]
        cases hL : L.testBit i with
        | true =>
          have hnext := ihf (listed.setIfInBounds i true) _ (by omega) (r.pend hok h1 hL h2 h3)
          obtain ⟨y, _⟩ := r.yld i h1 hL h2
          by_cases hw : wantE ops e (getO ops i)
          · simp only [hl2.2 hw, if_true]
            refine .inl ?_
            unfold Oper.wp
            rw [hl1, y.1 hw]
            exact hnext
          · have hwf : ¬ Region.wanted (getO ops i) (yielded ops a.tmps) = true := fun hh => hw (hl2.1 hh)
            simp only [hwf]
            rw [y.2 hw] at hnext
            exact hnext
        | false =>
          have hwL : ∀ j ∈ waits (getO ops i), L.testBit j = true := fun j hj => r.inL j (by have := (ops_ok hok h1).2.2 j hj; omega) (h3 j hj)
          obtain ⟨hd1, hm1, rfl⟩ := heads_all s hc ⟨h0, hm0⟩ i h1 hL hwL
          have hck := heads_chk s _ hc hd1 hm1
          have hdr := heads_dr s e w hd hd1 hm1
          have hsz := heads_size s hd1 hm1
          simp only [chk, Bool.and_eq_true, List.all_eq_true] at hck
          have hno := hck.2.2.2.2.1
          have hk := hck.2.2.2.2.2
          simp only [drE] at hdr
          have cont : ∀ v w', (stays P ops e w' hd1.2.1 (drE P ops QE hd1.2.2 (putE e (getO ops hd1.1).dst v) w')) → wpAny P .any ops Q fuel (listed.setIfInBounds hd1.1 true) (a.put (getO ops hd1.1).dst v) w' := by
            intro v w' hst
            obtain ⟨hA, hst⟩ := stays_spec _ hst
            refine ih hd1.2.2 (by omega) _ _ _ _ hk hA (ha.put (ops_ok hok h1).2.1 v) fuel _ _ (by omega) (r.act hok h1 hL h3 (st := hd1.2.1) (fun j hj => ?_) hst)
            have h := hno j hj
            simp only [Bool.and_eq_true, Bool.or_eq_true, List.contains_iff_mem] at h
            exact ⟨h.1, h.2⟩
          unfold stepE at hdr
          split at hdr
          · rename_i hg
            simp only [wanted_none hg _, if_true]
            exact .inl (opK_wp' (opE_ok hdr) hl1 cont)
          · rename_i j b hg
            obtain ⟨g1, g2⟩ := hdr
            have hw : wantE ops e (getO ops hd1.1) ↔ gv e ops j = .bool b := by unfold wantE; rw [hg]
            by_cases hb : gv e ops j = .bool b
            · simp only [hl2.2 (hw.2 hb), if_true]
              exact .inl (opK_wp' (opE_ok (g1 hb)) hl1 cont)
            · have hwf : ¬ Region.wanted (getO ops hd1.1) (yielded ops a.tmps) = true := fun hh => hb (hw.1 (hl2.1 hh))
              simp only [hwf]
              exact cont _ _ (g2 hb)
    cases s with
    | done => exact ih .done (by simp [ssize]) L T e w hc hd ha
    | rd i k =>
      intro fuel listed a hcn r
      simp only [chk, Bool.and_eq_true, Bool.not_eq_true', List.all_eq_true, List.mem_range] at hc
      obtain ⟨_, hi, hL, hw, hcl, hself, hall, hk⟩ := hc
      have hi := Nat.le_of_ble_eq_true hi
      obtain ⟨v, h1, h2, h3⟩ := stepE_rd hcl hd
      refine ih k (by simp only [ssize] at hs; omega) _ _ _ _ hk h1 (ha.put (ops_ok hok hi).2.1 v) fuel listed a hcn (r.take hok hi hL hw hself (fun j hj hne => ?_) h2 h3)
      have := hall j hj
      simp only [Bool.or_eq_true] at this
      rcases this with h | h | h
      · exact absurd (Nat.eq_of_beq_eq_true h) hne
      · exact .inl h
      · exact .inr h
    | imp i st k => exact group ⟨_, by simp [heads]; rfl⟩
    | both x y =>
      refine group ?_
      -- one of the two has a head
      simp only [chk, Bool.and_eq_true] at hc
      have : ∀ (s : Sched), chk ops ps true L T s = true → ∃ h, h ∈ heads s := by
        intro s
        induction s with
        | done => intro h; simp [chk] at h
        | rd i k _ => intro h; simp [chk] at h
        | imp i st k _ => intro _; exact ⟨_, by simp [heads]; rfl⟩
        | both p q ihp ihq =>
          intro h
          simp only [chk, Bool.and_eq_true] at h
          obtain ⟨x, hx⟩ := ihp h.2.1
          exact ⟨x, by simp only [heads, List.mem_append]; exact .inl hx⟩
      obtain ⟨h, hm⟩ := this x hc.2.1
      exact ⟨h, by simp only [heads, List.mem_append]; exact .inl hm⟩
theorem Rel.start {n : Nat} {e : Env} {a : Act} {w : World} (hs : Sim N a e) : Rel P ops ps N 0 [] e (Array.replicate ops.size false) a w := by
  have hf : ∀ i, (Array.replicate ops.size false).getD i false = false := by
    intro i
    rw [Array.getD_eq_getD_getElem?, Array.getElem?_replicate]
    split <;> rfl
  have hz : ∀ i : Nat, (0 : Nat).testBit i = false := fun i => Nat.zero_testBit i
  refine ⟨by simp, ?_, ?_, ?_, ?_, ?_, hs.1, hs.2.1, fun t _ => hs.2.2 t, ?_⟩
  · intro i hi h; rw [hf] at h; cases h
  · intro i hi h; rw [hz] at h; cases h
  · intro i hi h; rw [hf] at h; cases h
  · intro i hi h; rw [hz] at h; cases h
  · intro i hi; cases hi
  · intro i hi h; rw [hz] at h; cases h
end
end Vc
end Go.Proofs.Ytbjakblkppnieaa
