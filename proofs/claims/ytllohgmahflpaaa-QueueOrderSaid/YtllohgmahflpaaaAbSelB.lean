/- A select alone: what becomes of memory. -/
import Derived.Test.YtllohgmahflpaaaAbSel
import Derived.Conc.LoneSelect
set_option linter.unusedSectionVars false
set_option linter.unusedSimpArgs false
set_option linter.unusedVariables false
namespace Ab
open Go
section
variable [Uni] [Cod]
variable {P : Program} {e : Env} {X Y : Cx} {h i : List Blk} {w w' : World} {v : AV}

theorem setChan_at {k cap s r : Nat} {buf : Array Value} {cl tm : Bool} {ob : Obj} (hk : w.heap[k]? = some ob) : (w.setChan k cap buf cl s r tm).heap[k]? = some (.chan cap buf cl s r tm) :=
  Go.Conc.heap_setChan w k cap buf cl s r tm (lt_of_heap hk)
theorem setChan_else {k cap s r : Nat} {buf : Array Value} {cl tm : Bool} {k' : Nat} (hne : k' ≠ k) : (w.setChan k cap buf cl s r tm).heap[k']? = w.heap[k']? := by
  show (w.heap.setIfInBounds k _)[k']? = _
  rw [Array.getElem?_setIfInBounds_ne (fun hh => hne hh.symm)]

theorem setChan_cell {k cap cap' s r s' r' : Nat} {buf buf' : Array Value} {cl tm cl' tm' : Bool} (hk : w.heap[k]? = some (.chan cap buf cl s r tm)) (k' o : Nat) : (w.setChan k cap' buf' cl' s' r' tm').cell? ⟨k', o, none⟩ = w.cell? ⟨k', o, none⟩ := by
  by_cases hkk : k' = k
  · subst hkk
    simp [World.cell?, setChan_at hk, hk]
  · exact World.cell?_of_block (w := w) (setChan_else hkk)

theorem ext_setChan {F : Nat → Nat → Prop} {k cap s r s' r' : Nat} {buf buf' : Array Value} (hk : w.heap[k]? = some (.chan cap buf false s r false)) (hF : ∃ q, ¬ F k q) : Ext F w (w.setChan k cap buf' false s' r' false) := by
  refine ⟨rfl, rfl, rfl, ?_, fun k' _ => ?_, fun k' o _ => setChan_cell hk k' o, fun k' _ hall => ?_⟩
  · rw [Go.Conc.size_setChan]; exact Nat.le_refl _
  · by_cases hkk : k' = k
    · subst hkk
      rw [setChan_at hk, hk]
      exact ⟨_, _, _, rfl⟩
    · rw [setChan_else hkk]; exact sameHdr.refl _
  · by_cases hkk : k' = k
    · subst hkk
      obtain ⟨q, hq⟩ := hF
      exact absurd (hall q) hq
    · rw [setChan_else hkk]; exact sameMk.refl _

/-- The context in which a row has been sent. -/
def Cx.send (X : Cx) (b r n : Nat) : Cx := { X with sub := fun b' => if b' = b then (fun i => if i = n then (X.ρ r, X.own r) else X.sub b i) else X.sub b' }

theorem Good.send (hH : RelH X h w) {b r c cap s' r' : Nat} {LL : List (List (Uni.val c))} {L : List (Uni.val c)} {buf : Array Value} {u : Value} (hb : h[b]? = some (.chn c cap LL)) (hr : h[r]? = some (.row c L)) (hu : RepC X h w (.slw r) u) (hroom : LL.length < cap)
    (hw : w.heap[(X.ρ b).1]? = some (.chan cap buf false s' r' false)) :
    Good X h w (X.send b r LL.length) ((h.set r .dead).set b (.chn c cap (LL ++ [L]))) (w.setChan (X.ρ b).1 cap (buf.push u) false (s' + 1) r' false) := by
  have hbl := lt_of_list hb
  have hrl := lt_of_list hr
  have hbr : b ≠ r := fun hh => by subst hh; rw [hb] at hr; cases hr
  obtain ⟨buf2, s2, r2, hw2, h1, h2, h3, h4⟩ := hH.blk b _ hb
  rw [hw] at hw2
  simp only [Option.some.injEq, Obj.chan.injEq] at hw2
  obtain ⟨_, rfl, _, rfl, rfl, _⟩ := hw2
  have hfb : ∀ q, foot X h b (X.ρ b).1 q := fun q => by unfold foot; rw [hb]; exact .inl rfl
  have get_b : ((h.set r .dead).set b (.chn c cap (LL ++ [L])))[b]? = some (.chn c cap (LL ++ [L])) := by simp [hbl]
  have get_r : ((h.set r .dead).set b (.chn c cap (LL ++ [L])))[r]? = some .dead := by simp [List.getElem?_set, hbr, hrl]
  have get_o : ∀ b', b' ≠ b → b' ≠ r → ((h.set r .dead).set b (.chn c cap (LL ++ [L])))[b']? = h[b']? := fun b' e1 e2 => by
    simp [List.getElem?_set, Ne.symm e1, Ne.symm e2]
  have m : Mono X h (X.send b r LL.length) ((h.set r .dead).set b (.chn c cap (LL ++ [L]))) := by
    refine ⟨by simp, fun _ _ => rfl, fun _ _ => Iff.rfl, fun _ _ f => f, fun b' c' L' hb' hL => ?_, fun b' c2' c' LL' p' hb' hL => ?_⟩
    all_goals
      by_cases e1 : b' = b
      · subst e1; rw [get_b] at hL; cases hL
      by_cases e2 : b' = r
      · subst e2; rw [get_r] at hL; cases hL
      rw [get_o b' e1 e2] at hL
    · exact ⟨L', hL, rfl⟩
    · exact ⟨LL', p', hL, fun v mm hj => JVal.congr (X := X) (Y := X.send b r LL.length) (b := b') (j := b') rfl Iff.rfl (by simp [Cx.send, e1]) hj⟩
  have ex : Ext X.F w (w.setChan (X.ρ b).1 cap (buf.push u) false (s' + 1) r' false) := ext_setChan hw ⟨0, hH.free b _ _ (hfb 0)⟩
  have exf : Ext (frameF X h w) w (w.setChan (X.ρ b).1 cap (buf.push u) false (s' + 1) r' false) := ext_setChan hw ⟨0, fun hf => hf.2 b (hfb 0)⟩
  -- where the feet come from
  have key : ∀ b' k q, foot (X.send b r LL.length) ((h.set r .dead).set b (.chn c cap (LL ++ [L]))) b' k q → (foot X h b' k q ∧ b' ≠ r) ∨ (b' = b ∧ foot X h r k q) := by
    intro b' k q hf
    by_cases e1 : b' = b
    · subst e1
      unfold foot at hf
      rw [get_b] at hf
      simp only [Cx.send, if_true] at hf
      rcases hf with hf | ⟨i2, hi, ho, hk⟩
      · exact .inl ⟨by unfold foot; rw [hb]; exact .inl hf, hbr⟩
      · by_cases hin : i2 = LL.length
        · subst hin
          simp only [if_true] at ho hk
          exact .inr ⟨rfl, by unfold foot; rw [hr]; exact ⟨ho, hk⟩⟩
        · simp only [hin, if_false] at ho hk
          refine .inl ⟨?_, hbr⟩
          unfold foot; rw [hb]
          refine .inr ⟨i2, ?_, ho, hk⟩
          simp at hi; omega
    · by_cases e2 : b' = r
      · subst e2
        unfold foot at hf
        rw [get_r] at hf
        exact hf.elim
      · refine .inl ⟨?_, e2⟩
        unfold foot at hf ⊢
        rw [get_o b' e1 e2] at hf
        simp only [Cx.send, if_neg e1] at hf
        exact hf
  have hRr := hH.blk r _ hr
  refine ⟨⟨fun b' bl hbl' => ?_, fun b1 b2 k q hf1 hf2 => ?_, fun b' k q hf => ?_, fun k q hf => ?_⟩, m, exf, fun k q hf => .inl hf, fun b' k q hf => ?_⟩
  · by_cases e1 : b' = b
    · subst e1
      rw [get_b] at hbl'
      simp only [Option.some.injEq] at hbl'
      subst hbl'
      refine ⟨buf.push u, s' + 1, r', setChan_at hw, by simp [h1], by simp; omega, fun i2 M hM => ?_, fun i2 j2 hi hj hoi hoj hk => ?_⟩
      · by_cases hin : i2 = LL.length
        · subst hin
          have hML : M = L := by simpa using hM.symm
          subst hML
          simp only [Cx.send, if_true]
          refine ⟨RowAt.keep (p := (X.ρ r, X.own r)) hRr m ex (fun _ o => setChan_cell hw _ _), u, by rw [← h1]; simp, ?_⟩
          cases hu with
          | slw hlt q1 _ =>
            rcases q1 c M hr with ⟨ho, cap2, hv, hc, hro⟩ | ⟨ho, a, hv⟩
            · exact .inl ⟨ho, cap2, by rw [hv]; simp [Cx.addr], hc, hro.ext ex⟩
            · have hM0 := hRr.2 ho
              subst hM0
              exact .inr ⟨ho, a, hv⟩
        · have hi2 : i2 < LL.length := by have := lt_of_list hM; simp at this; omega
          have hM' : LL[i2]? = some M := by rw [List.getElem?_append_left hi2] at hM; exact hM
          obtain ⟨q1, uu, q2, q3⟩ := h3 i2 M hM'
          simp only [Cx.send, if_true, hin, if_false]
          refine ⟨q1.keep m ex (fun _ o => setChan_cell hw _ _), uu, ?_, q3.ext ex⟩
          rw [Array.getElem?_push, if_neg (by rw [h1]; exact hin)]
          exact q2
      · simp at hi hj
        simp only [Cx.send, if_true] at hoi hoj hk
        have clash : ∀ i2, i2 < LL.length → (X.sub b' i2).2 → X.own r → (X.sub b' i2).1.1 = (X.ρ r).1 → False := fun i2 hi ho hor hk => by
          have f1 : foot X h b' (X.ρ r).1 0 := by unfold foot; rw [hb]; exact .inr ⟨i2, hi, ho, hk.symm⟩
          have f2 : foot X h r (X.ρ r).1 0 := by unfold foot; rw [hr]; exact ⟨hor, rfl⟩
          exact hbr (hH.disj _ _ _ _ f1 f2)
        by_cases hin : i2 = LL.length <;> by_cases hjn : j2 = LL.length
        · omega
        · subst hin
          simp only [if_true, hjn, if_false] at hoi hoj hk
          exact absurd hk.symm (fun hh => clash j2 (by omega) hoj hoi hh)
        · subst hjn
          simp only [if_true, hin, if_false] at hoi hoj hk
          exact absurd hk (fun hh => clash i2 (by omega) hoi hoj hh)
        · simp only [hin, hjn, if_false] at hoi hoj hk
          exact h4 i2 j2 (by omega) (by omega) hoi hoj hk
    · by_cases e2 : b' = r
      · subst e2
        rw [get_r] at hbl'
        simp only [Option.some.injEq] at hbl'
        subst hbl'
        trivial
      · rw [get_o b' e1 e2] at hbl'
        refine (hH.blk b' bl hbl').keep hbl' m ex (fun k q _ => setChan_cell hw k q) (by simp [Cx.send, e1]) (fun k hk => ?_)
        by_cases hkk : k = (X.ρ b).1
        · subst hkk
          exact absurd (hH.disj b' b _ _ (hk 0) (hfb 0)) e1
        · rw [setChan_else hkk]; exact sameMk.refl _
  · rcases key b1 k q hf1 with ⟨g1, n1⟩ | ⟨rfl, g1⟩ <;> rcases key b2 k q hf2 with ⟨g2, n2⟩ | ⟨rfl, g2⟩
    · exact hH.disj _ _ _ _ g1 g2
    · exact absurd (hH.disj _ _ _ _ g1 g2) n1
    · exact absurd (hH.disj _ _ _ _ g2 g1) n2
    · rfl
  · rcases key b' k q hf with ⟨g1, n1⟩ | ⟨rfl, g1⟩
    · exact hH.free _ _ _ g1
    · exact hH.free _ _ _ g1
  · rw [Go.Conc.size_setChan]; exact hH.fsz k q hf
  · rcases key b' k q hf with ⟨g1, n1⟩ | ⟨rfl, g1⟩
    · exact .inr ⟨_, g1⟩
    · exact .inr ⟨_, g1⟩

/-- The context in which a row has been received. -/
def Cx.recv (X : Cx) (n b : Nat) : Cx := { ρ := fun b' => if b' = n then (X.sub b 0).1 else X.ρ b', own := fun b' => if b' = n then (X.sub b 0).2 else X.own b', F := X.F, sub := fun b' => if b' = b then (fun i => X.sub b (i + 1)) else X.sub b' }

theorem Good.recv (hH : RelH X h w) {b c cap s' r' : Nat} {LL : List (List (Uni.val c))} {L : List (Uni.val c)} {buf : Array Value} (hb : h[b]? = some (.chn c cap (L :: LL)))
    (hw : w.heap[(X.ρ b).1]? = some (.chan cap buf false s' r' false)) :
    Good X h w (X.recv h.length b) (h.set b (.chn c cap LL) ++ [.row c L]) (w.setChan (X.ρ b).1 cap (buf.extract 1 buf.size) false s' (r' + 1) false) ∧
    RepC (X.recv h.length b) (h.set b (.chn c cap LL) ++ [.row c L]) (w.setChan (X.ρ b).1 cap (buf.extract 1 buf.size) false s' (r' + 1) false) (.slw h.length) (buf.getD 0 undef) ∧ 0 < buf.size := by
  have hbl := lt_of_list hb
  obtain ⟨buf2, s2, r2, hw2, h1, h2, h3, h4⟩ := hH.blk b _ hb
  rw [hw] at hw2
  simp only [Option.some.injEq, Obj.chan.injEq] at hw2
  obtain ⟨_, rfl, _, rfl, rfl, _⟩ := hw2
  simp only [List.length_cons] at h1 h2
  have hfb : ∀ q, foot X h b (X.ρ b).1 q := fun q => by unfold foot; rw [hb]; exact .inl rfl
  have get_b : (h.set b (.chn c cap LL) ++ [Blk.row c L])[b]? = some (.chn c cap LL) := by
    rw [List.getElem?_append_left (by simpa using hbl)]; simp [hbl]
  have get_n : (h.set b (.chn c cap LL) ++ [Blk.row c L])[h.length]? = some (.row c L) := by
    rw [List.getElem?_append_right (by simp)]; simp
  have get_o : ∀ b', b' ≠ b → b' < h.length → (h.set b (.chn c cap LL) ++ [Blk.row c L])[b']? = h[b']? := fun b' e1 e2 => by
    rw [List.getElem?_append_left (by simpa using e2), List.getElem?_set, if_neg (Ne.symm e1)]
  have cls : ∀ b' bl, (h.set b (.chn c cap LL) ++ [Blk.row c L])[b']? = some bl → b' < h.length ∨ b' = h.length := fun b' bl hb' => by
    have := lt_of_list hb'; simp at this; omega
  have nb : h.length ≠ b := by omega
  have m : Mono X h (X.recv h.length b) (h.set b (.chn c cap LL) ++ [.row c L]) := by
    refine ⟨by simp, fun b' hb' => by simp [Cx.recv, show b' ≠ h.length by omega], fun b' hb' => by simp [Cx.recv, show b' ≠ h.length by omega], fun _ _ f => f, fun b' c' L' hb' hL => ?_, fun b' c2' c' LL' p' hb' hL => ?_⟩
    all_goals
      by_cases e1 : b' = b
      · subst e1; rw [get_b] at hL; cases hL
      rw [get_o b' e1 hb'] at hL
    · exact ⟨L', hL, rfl⟩
    · exact ⟨LL', p', hL, fun v mm hj => hj.congr (by simp [Cx.recv, show b' ≠ h.length by omega]) (by simp [Cx.recv, show b' ≠ h.length by omega]) (by simp [Cx.recv, e1])⟩
  have ex : Ext X.F w (w.setChan (X.ρ b).1 cap (buf.extract 1 buf.size) false s' (r' + 1) false) := ext_setChan hw ⟨0, hH.free b _ _ (hfb 0)⟩
  have exf : Ext (frameF X h w) w (w.setChan (X.ρ b).1 cap (buf.extract 1 buf.size) false s' (r' + 1) false) := ext_setChan hw ⟨0, fun hf => hf.2 b (hfb 0)⟩
  obtain ⟨p1, u0, p2, p3⟩ := h3 0 L rfl
  -- where the feet come from
  have key : ∀ b' k q, foot (X.recv h.length b) (h.set b (.chn c cap LL) ++ [.row c L]) b' k q →
      (b' < h.length ∧ b' ≠ b ∧ foot X h b' k q) ∨ (b' = b ∧ (k = (X.ρ b).1 ∨ ∃ i, i < LL.length ∧ (X.sub b (i + 1)).2 ∧ k = (X.sub b (i + 1)).1.1)) ∨ (b' = h.length ∧ (X.sub b 0).2 ∧ k = (X.sub b 0).1.1) := by
    intro b' k q hf
    have hlt := foot_blt hf
    simp at hlt
    by_cases e1 : b' = b
    · subst e1
      unfold foot at hf
      rw [get_b] at hf
      simp only [Cx.recv, if_true, if_neg (show b' ≠ h.length by omega)] at hf
      exact .inr (.inl ⟨rfl, hf⟩)
    · by_cases e2 : b' = h.length
      · subst e2
        unfold foot at hf
        rw [get_n] at hf
        simp only [Cx.recv, if_true] at hf
        exact .inr (.inr ⟨rfl, hf⟩)
      · have hlt' : b' < h.length := by omega
        refine .inl ⟨hlt', e1, ?_⟩
        unfold foot at hf ⊢
        rw [get_o b' e1 hlt'] at hf
        simp only [Cx.recv, if_neg e1, if_neg e2] at hf
        exact hf
  have old : ∀ b' k q, foot (X.recv h.length b) (h.set b (.chn c cap LL) ++ [.row c L]) b' k q → ∃ b0, foot X h b0 k q ∧ (b' < h.length ∧ b' ≠ b → b0 = b') ∧ (¬ (b' < h.length ∧ b' ≠ b) → b0 = b) := by
    intro b' k q hf
    rcases key b' k q hf with ⟨g1, g2, g3⟩ | ⟨rfl, g⟩ | ⟨rfl, g1, g2⟩
    · exact ⟨b', g3, fun _ => rfl, fun hn => absurd ⟨g1, g2⟩ hn⟩
    · refine ⟨b', ?_, fun hn => absurd rfl hn.2, fun _ => rfl⟩
      unfold foot; rw [hb]
      rcases g with g | ⟨i2, hi, ho, hk⟩
      · exact .inl g
      · exact .inr ⟨i2 + 1, by simp; omega, ho, hk⟩
    · refine ⟨b, ?_, fun hn => by omega, fun _ => rfl⟩
      unfold foot; rw [hb]
      exact .inr ⟨0, by simp, g1, g2⟩
  -- the row that leaves stands apart from what stays
  have apart : ∀ k, (X.sub b 0).2 → k = (X.sub b 0).1.1 → ¬ (k = (X.ρ b).1 ∨ ∃ i, i < LL.length ∧ (X.sub b (i + 1)).2 ∧ k = (X.sub b (i + 1)).1.1) := by
    intro k ho hk hh
    rcases hh with hh | ⟨i2, hi, hoi, hki⟩
    · obtain ⟨carr, el, ⟨fz, hwc, _⟩, _⟩ := p1.1 ho
      rw [← hk, hh, hw] at hwc
      cases hwc
    · have := h4 0 (i2 + 1) (by simp) (by simp; omega) ho hoi (by rw [← hk, ← hki])
      omega
  have hu0 : buf.getD 0 undef = u0 := by rw [Array.getD_eq_getD_getElem?, p2]; rfl
  refine ⟨⟨⟨fun b' bl hbl' => ?_, fun b1 b2 k q hf1 hf2 => ?_, fun b' k q hf => ?_, fun k q hf => ?_⟩, m, exf, fun k q hf => .inl hf, fun b' k q hf => ?_⟩, ?_, by omega⟩
  · by_cases e1 : b' = b
    · subst e1
      rw [get_b] at hbl'
      simp only [Option.some.injEq] at hbl'
      subst hbl'
      refine ⟨buf.extract 1 buf.size, s', r' + 1, ?_, by simp [h1], by omega, fun i2 M hM => ?_, fun i2 j2 hi hj hoi hoj hk => ?_⟩
      · simp only [Cx.recv, if_neg (show b' ≠ h.length by omega)]
        exact setChan_at hw
      · obtain ⟨q1, uu, q2, q3⟩ := h3 (i2 + 1) M (by simpa using hM)
        simp only [Cx.recv, if_true]
        refine ⟨q1.keep m ex (fun _ o => setChan_cell hw _ _), uu, ?_, q3.ext ex⟩
        rw [Array.getElem?_extract, if_pos (by have := lt_of_list hM; omega), Nat.add_comm]
        exact q2
      · simp only [Cx.recv, if_true] at hoi hoj hk
        have := h4 (i2 + 1) (j2 + 1) (by simp; omega) (by simp; omega) hoi hoj hk
        omega
    · rcases cls b' bl hbl' with hlt | e2
      · rw [get_o b' e1 hlt] at hbl'
        refine (hH.blk b' bl hbl').keep hbl' m ex (fun k q _ => setChan_cell hw k q) (by simp [Cx.recv, e1]) (fun k hk => ?_)
        by_cases hkk : k = (X.ρ b).1
        · subst hkk
          exact absurd (hH.disj b' b _ _ (hk 0) (hfb 0)) e1
        · rw [setChan_else hkk]; exact sameMk.refl _
      · subst e2
        rw [get_n] at hbl'
        simp only [Option.some.injEq] at hbl'
        subst hbl'
        have := p1.keep m ex (w' := w.setChan (X.ρ b).1 cap (buf.extract 1 buf.size) false s' (r' + 1) false) (fun _ o => setChan_cell hw _ _)
        unfold RowAt at this
        unfold RelB
        simp only [Cx.recv, if_true] at this ⊢
        exact this
  · rcases key b1 k q hf1 with ⟨l1, n1, g1⟩ | ⟨rfl, g1⟩ | ⟨rfl, g1, k1⟩ <;> rcases key b2 k q hf2 with ⟨l2, n2, g2⟩ | ⟨rfl, g2⟩ | ⟨rfl, g2, k2⟩
    · exact hH.disj _ _ _ _ g1 g2
    · obtain ⟨b0, f0, _, e0⟩ := old _ k q hf2
      rw [e0 (fun hh => hh.2 rfl)] at f0
      exact hH.disj _ _ _ _ g1 f0
    · obtain ⟨b0, f0, _, e0⟩ := old _ k q hf2
      rw [e0 (fun hh => by omega)] at f0
      exact absurd (hH.disj _ _ _ _ g1 f0) n1
    · obtain ⟨b0, f0, _, e0⟩ := old _ k q hf1
      rw [e0 (fun hh => hh.2 rfl)] at f0
      exact hH.disj _ _ _ _ f0 g2
    · rfl
    · exact absurd g1 (apart k g2 k2)
    · obtain ⟨b0, f0, _, e0⟩ := old _ k q hf1
      rw [e0 (fun hh => by omega)] at f0
      exact absurd (hH.disj _ _ _ _ g2 f0) n2
    · exact absurd g2 (apart k g1 k1)
    · rfl
  · obtain ⟨b0, f0, _⟩ := old _ k q hf
    exact hH.free _ _ _ f0
  · rw [Go.Conc.size_setChan]; exact hH.fsz k q hf
  · obtain ⟨b0, f0, _⟩ := old _ k q hf
    exact .inr ⟨_, f0⟩
  · rw [hu0]
    have hone : u0.oneCell' = true := by
      rcases p3 with ⟨_, cp, rfl, _⟩ | ⟨_, a, rfl⟩ <;> rfl
    refine .slw (by simp) (fun c2 L2 hL2 => ?_) hone
    rw [get_n] at hL2
    simp only [Option.some.injEq, Blk.row.injEq] at hL2
    obtain ⟨rfl, hL2⟩ := hL2
    have hL2 := eq_of_heq hL2
    subst hL2
    have hr0 : (X.recv h.length b).ρ h.length = (X.sub b 0).1 := by simp [Cx.recv]
    have ho0 : (X.recv h.length b).own h.length = (X.sub b 0).2 := by simp [Cx.recv]
    unfold Cx.addr
    rw [hr0, ho0]
    rcases p3 with ⟨ho, cp, hv, hc, hro⟩ | ⟨ho, a, hv⟩
    · exact .inl ⟨ho, cp, by rw [hv]; simp, hc, hro.ext ex⟩
    · exact .inr ⟨ho, a, hv⟩

end
end Ab
