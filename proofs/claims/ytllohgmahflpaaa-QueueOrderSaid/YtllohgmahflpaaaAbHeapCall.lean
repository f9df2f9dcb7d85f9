/- A call that is handed blocks of the run's own. -/
import Derived.Test.YtllohgmahflpaaaAbFreeze
set_option linter.unusedSectionVars false
set_option linter.unusedSimpArgs false
set_option linter.unusedVariables false
namespace Ab
open Go
section
variable [Uni] [Cod]
variable {P : Program} {e : Env} {X Y : Cx} {h i : List Blk} {w w' : World} {o : Oper} {ρA : Operand → AV} {ρ : Operand → Value} {v : AV}

theorem layBack_len : ∀ {m : List Nat} {h r : List Blk}, m.length ≤ r.length → (layBack h m r).length = h.length + (r.length - m.length)
  | [], h, r, _ => by cases r <;> simp [layBack]
  | b :: m, h, [], hl => by simp at hl
  | b :: m, h, bl :: r, hl => by
    simp only [layBack]
    rw [layBack_len (by simpa using hl)]
    simp

theorem layBack_get : ∀ {m : List Nat} {h r : List Blk}, m.length ≤ r.length → nodupB m = true → (∀ b ∈ m, b < h.length) →
    (∀ (j b : Nat), m[j]? = some b → (layBack h m r)[b]? = r[j]?) ∧ (∀ b, b < h.length → b ∉ m → (layBack h m r)[b]? = h[b]?) ∧ (∀ t, (layBack h m r)[h.length + t]? = r[m.length + t]?)
  | [], h, r, hl, _, _ => by
    refine ⟨fun j b hj => by simp at hj, fun b hb _ => ?_, fun t => ?_⟩
    · cases r <;> simp [layBack, List.getElem?_append_left hb]
    · cases r with
      | nil => simp [layBack]
      | cons hd tl => simp only [layBack]; rw [List.getElem?_append_right (by omega)]; simp
  | b0 :: m, h, [], hl, _, _ => by simp at hl
  | b0 :: m, h, bl :: r, hl, hn, hlt => by
    simp only [nodupB, Bool.and_eq_true, Bool.not_eq_true'] at hn
    have hb0 : b0 ∉ m := by
      intro hm
      have := hn.1
      rw [List.any_eq_false] at this
      exact absurd (this b0 hm) (by simp [Nat.beq_eq])
    obtain ⟨h1, h2, h3⟩ := layBack_get (m := m) (h := h.set b0 bl) (r := r) (by simpa using hl) hn.2 (fun b hb => by simp; exact hlt b (by simp [hb]))
    simp only [layBack]
    refine ⟨fun j b hj => ?_, fun b hb hbm => ?_, fun t => ?_⟩
    · cases j with
      | zero =>
        simp at hj; subst hj
        rw [h2 b0 (by simp; exact hlt b0 (by simp)) hb0]
        simp [hlt b0 (by simp)]
      | succ j => simpa using h1 j b (by simpa using hj)
    · simp at hbm
      rw [h2 b (by simpa using hb) hbm.2, List.getElem?_set, if_neg (fun hh => hbm.1 hh.symm)]
    · have := h3 t
      simp at this
      simp [Nat.add_right_comm, this]

theorem RelB.fits {f : Nat → Option Nat} (ft : Fits X h Y i f) {b j : Nat} {bl : Blk} (hf : f b = some j) (r : RelB X h w b bl) : RelB Y i w j (renB f bl) := by
  cases bl with
  | dead => trivial
  | cells l =>
    obtain ⟨carr, el, ⟨fz, hw, hfz⟩, hsz, hcell⟩ := r
    refine ⟨carr, el, by rw [ft.ρ _ _ hf]; exact ⟨fz, hw, hfz⟩, by rw [ft.ρ _ _ hf]; simpa using hsz, fun k x hx => ?_⟩
    rw [List.getElem?_map] at hx
    obtain ⟨y, hy, rfl⟩ := Option.map_eq_some_iff.mp hx
    obtain ⟨u, hu, ru⟩ := hcell k y hy
    exact ⟨u, by rw [ft.ρ _ _ hf]; exact hu, renC_ok ft ru⟩
  | row c L =>
    obtain ⟨r1, r2⟩ := r
    refine ⟨fun ho => ?_, fun ho => r2 (fun hh => ho ((ft.own _ _ hf).mpr hh))⟩
    obtain ⟨carr, el, hw, hsz, hcell⟩ := r1 ((ft.own _ _ hf).mp ho)
    refine ⟨carr, el, by rw [ft.ρ _ _ hf]; exact hw, by rw [ft.ρ _ _ hf]; exact hsz, fun k x q y hx hy => ?_⟩
    obtain ⟨u, hu, ru⟩ := hcell k x q y hx hy
    exact ⟨u, by rw [ft.ρ _ _ hf]; exact hu, ru.move ft.F (Cod.enc_closed c x y (List.mem_of_getElem? hy))⟩
  | bg c2 c LL p =>
    obtain ⟨r1, r2⟩ := r
    have base : ∀ (p' : Option Nat), p'.isSome = p.isSome → (∀ r', p' = some r' → ∃ r, p = some r ∧ f r = some r') → RelB Y i w j (.bg c2 c LL p') := by
      intro p' hps hpr
      refine ⟨fun ho => ?_, fun ho => ?_⟩
      · obtain ⟨carr, el, hw, hsz, h3, h4, h5, h6⟩ := r1 ((ft.own _ _ hf).mp ho)
        refine ⟨carr, el, by rw [ft.ρ _ _ hf]; exact hw, by rw [ft.ρ _ _ hf, hps]; exact hsz, fun i2 L hL => ?_, by rw [ft.sub _ _ hf]; exact h4, by rw [ft.sub _ _ hf, ft.ρ _ _ hf]; exact h5, fun r' hr' => ?_⟩
        · obtain ⟨q1, q2⟩ := h3 i2 L hL
          rw [ft.sub _ _ hf, ft.ρ _ _ hf]
          exact ⟨q1.move ft.F, q2⟩
        · obtain ⟨r, hp, hi⟩ := hpr r' hr'
          obtain ⟨u, hu, ru⟩ := h6 r hp
          have := renC_ok ft ru
          rw [show renC f (.slw r) = .slw r' by show (match f r with | some b => Cl.slw b | none => .top) = _; rw [hi]] at this
          exact ⟨u, by rw [ft.ρ _ _ hf]; exact hu, this⟩
      · obtain ⟨e1, e2⟩ := r2 (fun hh => ho ((ft.own _ _ hf).mpr hh))
        refine ⟨e1, ?_⟩
        rw [e2] at hps
        cases p' with
        | none => rfl
        | some _ => cases hps
    cases p with
    | none => exact base none rfl (fun _ hh => by cases hh)
    | some r =>
      show RelB Y i w j (match f r with | some r => Blk.bg c2 c LL (some r) | none => .dead)
      split
      · rename_i r' hr'
        exact base (some r') rfl (fun r'' hh => by cases hh; exact ⟨r, rfl, hr'⟩)
      · trivial
  | chn c cap LL =>
    obtain ⟨buf, s, r, hw, h1, h2, h3, h4⟩ := r
    refine ⟨buf, s, r, by rw [ft.ρ _ _ hf]; exact hw, h1, h2, fun i2 L hL => ?_, by rw [ft.sub _ _ hf]; exact h4⟩
    obtain ⟨q1, q2⟩ := h3 i2 L hL
    rw [ft.sub _ _ hf]
    exact ⟨q1.move ft.F, q2⟩

theorem idxOf_none : ∀ {m : List Nat} {b : Nat}, b ∉ m → idxOf b m = none
  | [], _, _ => rfl
  | x :: r, b, h => by
    unfold idxOf
    rw [if_neg (by simp; exact fun hh => h (by simp [hh]))]
    rw [idxOf_none (fun hh => h (List.mem_cons_of_mem _ hh))]; rfl
theorem idxOf_some {m : List Nat} {b j : Nat} (hn : nodupB m = true) (hj : m[j]? = some b) : idxOf b m = some j := by
  cases hi : idxOf b m with
  | some j' => rw [nodup_inj hn (idxOf_get hi) hj]
  | none =>
    exfalso
    have : ∀ {m : List Nat} {b j : Nat}, m[j]? = some b → idxOf b m ≠ none := by
      intro m
      induction m with
      | nil => intro b j h; simp at h
      | cons x r ih =>
        intro b j hj
        unfold idxOf
        split
        · simp
        · rename_i hne
          cases j with
          | zero => simp at hj; subst hj; simp at hne
          | succ j => simp; exact ih (by simpa using hj)
    exact this hj hi

theorem foot_fits {f : Nat → Option Nat} (ft : Fits X h Y i f) {b j : Nat} {bl : Blk} (hf : f b = some j) (hb : h[b]? = some bl) (hj : i[j]? = some (renB f bl)) {k q : Nat} (hq : foot Y i j k q) : foot X h b k q := by
  revert hq
  unfold foot
  rw [hb, hj]
  cases bl with
  | dead => simp [renB]
  | cells l => simp [renB, ft.ρ _ _ hf]
  | row c L => simp [renB, ft.ρ _ _ hf, ft.own _ _ hf]
  | bg c2 c LL p =>
    intro hq
    rcases renB_bg (f := f) (bl := renB f (.bg c2 c LL p)) rfl with h9 | ⟨p', h9⟩
    · rw [h9] at hq; exact hq.elim
    · rw [h9] at hq
      simp only [ft.ρ _ _ hf, ft.own _ _ hf, ft.sub _ _ hf] at hq
      exact hq
  | chn c cap LL => simp [renB, ft.ρ _ _ hf, ft.sub _ _ hf]

/-- The caller's context behind a call. -/
def Cx.back (X : Cx) (n : Nat) (X' : Cx) (k : Nat) (m : List Nat) : Cx := { ρ := fun b => if b < n then X.ρ b else X'.ρ (k + (b - n)), own := fun b => if b < n then X.own b else X'.own (k + (b - n)), F := X'.F, sub := fun b => match idxOf b m with | some j => X'.sub j | none => if b < n then X.sub b else X'.sub (k + (b - n)) }

theorem heap_back (hH : RelH X h w) {m : List Nat} {h1 : List Blk} {X' : Cx} {v0 : AV} {cv : Value} (hn : nodupB m = true) (hlt : ∀ b ∈ m, b < h.length) (hl : m.length ≤ h1.length)
    (hr : RepV X' h1 w' v0 cv) (g : Good (X.pick m) (pickB h m) w X' h1 w') :
    RepV (X.back h.length X' m.length m) (layBack h m (h1.map (renB (backF m h.length)))) w' (renV (backF m h.length) v0) cv ∧
    Good X h w (X.back h.length X' m.length m) (layBack h m (h1.map (renB (backF m h.length)))) w' := by
  obtain ⟨l1, l2, l3⟩ := layBack_get (m := m) (h := h) (r := h1.map (renB (backF m h.length))) (by simpa using hl) hn hlt
  have llen := layBack_len (m := m) (h := h) (r := h1.map (renB (backF m h.length))) (by simpa using hl)
  simp only [List.length_map] at llen
  have hpl : (pickB h m).length = m.length := by simp [pickB]
  have bk1 : ∀ j b, m[j]? = some b → backF m h.length j = some b := fun j b hj => by unfold backF; rw [hj]
  have bk2 : ∀ j, m.length ≤ j → backF m h.length j = some (h.length + (j - m.length)) := fun j hj => by unfold backF; rw [List.getElem?_eq_none hj]
  have bkc : ∀ j b, backF m h.length j = some b → (m[j]? = some b ∧ b < h.length) ∨ (m.length ≤ j ∧ b = h.length + (j - m.length)) := by
    intro j b hb
    rcases Nat.lt_or_ge j m.length with h2 | h2
    · have := List.getElem?_eq_getElem h2
      rw [bk1 j _ this] at hb
      simp at hb; subst hb
      exact .inl ⟨this, hlt _ (List.getElem_mem h2)⟩
    · rw [bk2 j h2] at hb
      simp at hb
      exact .inr ⟨h2, hb.symm⟩
  have hget : ∀ j b, backF m h.length j = some b → (layBack h m (h1.map (renB (backF m h.length))))[b]? = (h1[j]?).map (renB (backF m h.length)) := by
    intro j b hb
    rcases bkc j b hb with ⟨h2, _⟩ | ⟨h2, rfl⟩
    · rw [l1 j b h2, List.getElem?_map]
    · rw [l3 (j - m.length), List.getElem?_map]
      congr 2; omega
  have inj : ∀ j j' b, backF m h.length j = some b → backF m h.length j' = some b → j = j' := by
    intro j j' b h2 h3
    rcases bkc j b h2 with ⟨h4, h5⟩ | ⟨h4, h5⟩ <;> rcases bkc j' b h3 with ⟨h6, h7⟩ | ⟨h6, h7⟩
    · exact nodup_inj hn h4 h6
    · omega
    · omega
    · omega
  have pickρ : ∀ j b, m[j]? = some b → (X.pick m).ρ j = X.ρ b ∧ ((X.pick m).own j ↔ X.own b) := fun j b hj => by simp [Cx.pick, hj]
  have ft : Fits X' h1 (X.back h.length X' m.length m) (layBack h m (h1.map (renB (backF m h.length)))) (backF m h.length) := by
    have rw1 : ∀ j b, backF m h.length j = some b → (X.back h.length X' m.length m).ρ b = X'.ρ j ∧ ((X.back h.length X' m.length m).own b ↔ X'.own j) := by
      intro j b hb
      rcases bkc j b hb with ⟨h2, h3⟩ | ⟨h2, h3⟩
      · obtain ⟨p1, p2⟩ := pickρ j b h2
        have hjl : j < (pickB h m).length := by rw [hpl]; exact lt_of_list h2
        have q1 := g.mono.ρ j hjl
        have q2 := g.mono.own j hjl
        simp only [Cx.back, if_pos h3]
        exact ⟨by rw [q1, p1], by rw [q2, p2]⟩
      · subst h3
        simp only [Cx.back, if_neg (show ¬ h.length + (j - m.length) < h.length by omega), show m.length + (h.length + (j - m.length) - h.length) = j by omega]
        exact ⟨by first | trivial | rfl, by first | trivial | exact Iff.rfl⟩
    refine ⟨fun j b hjl hb => ?_, fun j b hb => (rw1 j b hb).1, fun j b hb => (rw1 j b hb).2, fun _ _ f => f, fun j b c L hb hL => ?_, fun j b hb => ?_, fun j b c2 c LL p hb hL => ?_⟩
    · rw [llen]
      rcases bkc j b hb with ⟨h2, h3⟩ | ⟨h2, h3⟩ <;> omega
    · rw [hget j b hb] at hL
      obtain ⟨bl, h2, h3⟩ := Option.map_eq_some_iff.mp hL
      cases bl with
      | row c' L' => simp [renB] at h3; obtain ⟨rfl, h3⟩ := h3; simp at h3; subst h3; exact h2
      | bg _ _ _ _ => rcases renB_bg h3.symm with h9 | ⟨_, h9⟩ <;> cases h9
      | _ => simp [renB] at h3
    · rcases bkc j b hb with ⟨h2, h3⟩ | ⟨h2, h3⟩
      · simp only [Cx.back, idxOf_some hn h2]
      · have hbm : b ∉ m := fun hm => by have := hlt b hm; omega
        subst h3
        simp only [Cx.back, idxOf_none hbm, if_neg (show ¬ h.length + (j - m.length) < h.length by omega), show m.length + (h.length + (j - m.length) - h.length) = j by omega]
    · rw [hget j b hb] at hL
      obtain ⟨bl, h2, h3⟩ := Option.map_eq_some_iff.mp hL
      obtain ⟨p0, rfl, h4, _⟩ := renB_bg' h3.symm
      exact ⟨p0, h2, h4⟩
  -- each block of the caller's, behind the call
  have cls : ∀ b bl, (layBack h m (h1.map (renB (backF m h.length))))[b]? = some bl →
      (∃ j b1, backF m h.length j = some b ∧ h1[j]? = some b1 ∧ bl = renB (backF m h.length) b1) ∨ (b < h.length ∧ b ∉ m ∧ h[b]? = some bl) := by
    intro b bl hbl
    by_cases hbm : b ∈ m
    · obtain ⟨j, hj⟩ := List.getElem?_of_mem hbm
      have h2 := hget j b (bk1 j b hj)
      rw [hbl] at h2
      obtain ⟨b1, h3, h4⟩ := Option.map_eq_some_iff.mp h2.symm
      exact .inl ⟨j, b1, bk1 j b hj, h3, h4.symm⟩
    · rcases Nat.lt_or_ge b h.length with h2 | h2
      · rw [l2 b h2 hbm] at hbl
        exact .inr ⟨h2, hbm, hbl⟩
      · have h3 := bk2 (m.length + (b - h.length)) (by omega)
        rw [show h.length + (m.length + (b - h.length) - m.length) = b by omega] at h3
        have h4 := hget _ b h3
        rw [hbl] at h4
        obtain ⟨b1, h5, h6⟩ := Option.map_eq_some_iff.mp h4.symm
        exact .inl ⟨_, b1, h3, h5, h6.symm⟩
  have clsF : ∀ b k q, foot (X.back h.length X' m.length m) (layBack h m (h1.map (renB (backF m h.length)))) b k q →
      (∃ j, backF m h.length j = some b ∧ foot X' h1 j k q) ∨ (b ∉ m ∧ b < h.length ∧ foot X h b k q) := by
    intro b k q hf
    cases hbl : (layBack h m (h1.map (renB (backF m h.length))))[b]? with
    | none => unfold foot at hf; rw [hbl] at hf; exact hf.elim
    | some bl =>
      rcases cls b bl hbl with ⟨j, b1, h2, h3, rfl⟩ | ⟨h2, h3, h4⟩
      · exact .inl ⟨j, h2, foot_fits ft h2 h3 hbl hf⟩
      · right
        refine ⟨h3, h2, ?_⟩
        unfold foot at hf ⊢
        rw [hbl] at hf; rw [h4]
        simp only [Cx.back, if_pos h2, idxOf_none h3] at hf
        exact hf
  have frame1 : ∀ k q, frameF X h w k q → frameF (X.pick m) (pickB h m) w k q := fun k q hf => ⟨hf.1, fun j hj => by
    obtain ⟨b, _, hb⟩ := foot_pick hj
    exact hf.2 b hb⟩
  have exX : Ext X.F w w' := g.ext.weaken fun k q hf => frame1 k q (hH.frame hf)
  have monoX : Mono X h (X.back h.length X' m.length m) (layBack h m (h1.map (renB (backF m h.length)))) := by
    refine ⟨by rw [llen]; omega, fun b hb => by simp [Cx.back, hb], fun b hb => by simp [Cx.back, hb], g.mono.F, fun b c L' hb hL => ?_, fun b c2 c LL' p' hb hL => ?_⟩
    case refine_2 =>
      rcases cls b _ hL with ⟨j, b1, h2, h3, h4⟩ | ⟨h2, h3, h4⟩
      · rcases bkc j b h2 with ⟨h5, h5'⟩ | ⟨_, h5⟩
        · obtain ⟨p1, rfl, h6, _⟩ := renB_bg' h4
          obtain ⟨LL, p, h7, h8⟩ := g.mono.bg j c2 c LL' p1 (by rw [hpl]; exact lt_of_list h5) h3
          obtain ⟨b', hb', _, h9⟩ := pickB_get h7
          rw [h5] at hb'
          simp at hb'; subst hb'
          rcases h9 with ⟨b0, h10, h11⟩ | h11
          · obtain ⟨p0, rfl, h12, _⟩ := renB_bg' h11
            refine ⟨LL, p0, h10, fun v mm hj => ?_⟩
            rw [h12] at hj
            have q1 := h8 v mm (hj.congr (Y := X.pick m) (j := j) (pickρ j b h5).1 (pickρ j b h5).2 (by simp [Cx.pick, h5]))
            rw [h6] at q1
            exact q1.congr (ft.ρ _ _ h2) (ft.own _ _ h2) (ft.sub _ _ h2)
          · cases h11
        · omega
      · exact ⟨LL', p', h4, fun v mm hj => hj.congr (by simp [Cx.back, h2]) (by simp [Cx.back, h2]) (by simp only [Cx.back, idxOf_none h3, if_pos h2])⟩
    rcases cls b _ hL with ⟨j, b1, h2, h3, h4⟩ | ⟨h2, h3, h4⟩
    · rcases bkc j b h2 with ⟨h5, _⟩ | ⟨_, h5⟩
      · cases b1 with
        | row c' L'' =>
          simp [renB] at h4
          obtain ⟨rfl, h4⟩ := h4
          simp at h4; subst h4
          obtain ⟨L, h6, h7⟩ := g.mono.row j c _ (by rw [hpl]; exact lt_of_list h5) h3
          exact ⟨L, (pick_fits (X := X) (h := h) m).row b j c L (by
            cases hix : idxOf b m with
            | none =>
              exfalso
              obtain ⟨b', hb', _, h8⟩ := pickB_get h6
              have : ∀ {m : List Nat}, b ∈ m → idxOf b m ≠ none := by
                intro m
                induction m with
                | nil => intro h; simp at h
                | cons x r ih =>
                  intro hm
                  unfold idxOf
                  split
                  · simp
                  · rename_i hne
                    rcases List.mem_cons.mp hm with rfl | hm
                    · exact absurd (by simp) hne
                    · simp; exact ih hm
              exact this (List.mem_of_getElem? h5) hix
            | some j' => rw [nodup_inj hn (idxOf_get hix) h5]) h6, h7⟩
        | bg _ _ _ _ => rcases renB_bg h4 with h9 | ⟨_, h9⟩ <;> cases h9
        | _ => simp [renB] at h4
      · omega
    · exact ⟨L', h4, rfl⟩
  have notm : ∀ b k q, b ∉ m → foot X h b k q → (∀ j, ¬ foot (X.pick m) (pickB h m) j k q) := by
    intro b k q hbm hf j hj
    obtain ⟨b', hb', hf'⟩ := foot_pick hj
    have := hH.disj b b' k q hf hf'
    subst this
    exact hbm (List.mem_of_getElem? hb')
  refine ⟨renV_ok ft hr, ⟨⟨fun b bl hbl => ?_, fun b b' k q hf hf' => ?_, fun b k q hf => ?_, g.rel.fsz⟩, monoX, g.ext.weaken frame1, fun k q hf => ?_, fun b k q hf => ?_⟩⟩
  · rcases cls b bl hbl with ⟨j, b1, h2, h3, rfl⟩ | ⟨h2, h3, h4⟩
    · exact (g.rel.blk j b1 h3).fits ft h2
    · refine (hH.blk b bl h4).keep h4 monoX exX (fun k q hf => ?_) (by simp only [Cx.back, idxOf_none h3, if_pos h2]) (fun k hk => g.ext.mark k (foot_lt hH (hk 0)) (fun o => ⟨foot_lt hH (hk o), notm b k o h3 (hk o)⟩))
      exact g.ext.cell k q ⟨foot_lt hH hf, notm b k q h3 hf⟩
  · rcases clsF b k q hf with ⟨j, h2, h3⟩ | ⟨h2, h3, h4⟩ <;> rcases clsF b' k q hf' with ⟨j', h5, h6⟩ | ⟨h5, h6, h7⟩
    · have := g.rel.disj j j' k q h3 h6
      subst this
      rw [h2] at h5; simpa using h5
    · exfalso
      rcases g.ffoot j k q h3 with h8 | ⟨b0, h8⟩
      · have := foot_lt hH h7; omega
      · exact notm b' k q h5 h7 b0 h8
    · exfalso
      rcases g.ffoot j' k q h6 with h8 | ⟨b0, h8⟩
      · have := foot_lt hH h4; omega
      · exact notm b k q h2 h4 b0 h8
    · exact hH.disj b b' k q h4 h7
  · rcases clsF b k q hf with ⟨j, h2, h3⟩ | ⟨h2, h3, h4⟩
    · exact g.rel.free j k q h3
    · intro hF
      rcases g.fnew k q hF with h5 | h5 | ⟨b0, h5⟩
      · exact hH.free b k q h4 h5
      · have := foot_lt hH h4; omega
      · exact notm b k q h2 h4 b0 h5
  · rcases g.fnew k q hf with h5 | h5 | ⟨b0, h5⟩
    · exact .inl h5
    · exact .inr (.inl h5)
    · obtain ⟨b', _, h6⟩ := foot_pick h5
      exact .inr (.inr ⟨b', h6⟩)
  · rcases clsF b k q hf with ⟨j, h2, h3⟩ | ⟨h2, h3, h4⟩
    · rcases g.ffoot j k q h3 with h5 | ⟨b0, h5⟩
      · exact .inl h5
      · obtain ⟨b', _, h6⟩ := foot_pick h5
        exact .inr ⟨b', h6⟩
    · exact .inr ⟨b, h4⟩

/-- A call by values of a callee that hands back memory: all that was there is as it was; the rows that were handed over are never to be written again. -/
theorem H_new {g : FuncId} {sp : Spec} {args : List AV} {cargs : List Value} {p : AV × List Blk} (ok : SpecOk P g sp) (hargs : All2 (RepV X h w) args cargs) (hH : RelH X h w)
    (hp : (sp (args.map (snapV h)) []).eval = some p) :
    Calls P g (List.toArray cargs) w (fun en w3 => Ends X h w (renV (backF [] h.length) p.1) (layBack (frzH h (args.flatMap rowsV)) [] (p.2.map (renB (backF [] h.length)))) en w3 ∧ RowKit.Below w.heap.size w w3) := by
  have hg := Good.freeze hH (args.flatMap rowsV)
  have hargs2 : All2 (RepV ((X.frz h (args.flatMap rowsV)).pick []) (pickB (frzH h (args.flatMap rowsV)) []) w) (args.map (snapV h)) cargs := by
    refine All2.map (All2.of_get hargs.len fun k a b ha hb => ?_)
    obtain ⟨b', hb', ru⟩ := hargs.get ha
    rw [hb] at hb'; simp at hb'; subst hb'
    exact snapVF_ok (Y := (X.frz h (args.flatMap rowsV)).pick []) hH (fun _ _ f => f) (fun b' hb' => by rw [List.mem_flatMap]; exact ⟨a, List.mem_of_getElem? ha, hb'⟩) ru
  refine (ok.calls _ _ w _ cargs p.1 p.2 (hg.rel.pick rfl) hargs2 hp).mono fun en w3 hen => ?_
  obtain ⟨cv, X', rfl, hr, hg2⟩ := hen
  obtain ⟨r1, r2⟩ := heap_back hg.rel (m := []) rfl (fun b hb => by simp at hb) (Nat.zero_le _) hr hg2
  rw [frzH_len] at r1 r2
  refine ⟨⟨cv, _, rfl, r1, hg.trans r2⟩, ext_all (hg2.ext.weaken fun k q hk => ⟨hk, fun b hb => ?_⟩)⟩
  have := foot_blt hb
  simp [pickB] at this

def Cx.withF (X : Cx) (F : Nat → Nat → Prop) : Cx := { X with F := F }
theorem plainC_F {F : Nat → Nat → Prop} {x : Cl} {u : Value} (r : RepC X h w x u) (hp : plainC x = true) : RepC (X.withF F) h w x u := by
  cases r <;> simp [plainC] at hp
  · exact .bool
  · exact .int
  · exact .str
  · exact .nilp
  · exact .nils
  · exact .ez
  · exact .nilf
  · exact .ptr (by assumption)
  · exact .sl (by assumption) (by assumption)
  · rename_i b h1 h2 h3
    exact .slw h1 h2 h3
  · exact .ep (by assumption)
theorem plainL_F {F : Nat → Nat → Prop} {l : List Cl} {vs : List Value} (r : RepL X h w l vs) (hp : l.all plainC = true) : RepL (X.withF F) h w l vs := by
  induction r with
  | nil => exact .nil
  | cons a _ ih =>
    simp only [List.all_cons, Bool.and_eq_true] at hp
    exact .cons (plainC_F a hp.1) (ih hp.2)
theorem plainV_F {F : Nat → Nat → Prop} {x : AV} {u : Value} (r : RepV X h w x u) (hp : plainV x = true) : RepV (X.withF F) h w x u := by
  cases x with
  | top => trivial
  | c y => exact plainC_F r hp
  | agg l => obtain ⟨vs, hu, r⟩ := r; exact ⟨vs, hu, plainL_F r hp⟩
  | tup l =>
    obtain ⟨vs, hu, r⟩ := r
    refine ⟨vs, hu, ?_⟩
    clear hu
    simp only [plainV] at hp
    induction r with
    | nil => exact .nil
    | @cons p u l vs a _ ih =>
      simp only [List.all_cons, Bool.and_eq_true] at hp
      refine .cons ?_ (ih hp.2)
      match p, a, hp.1 with
      | none, _, _ => trivial
      | some (true, l), a, h1 => obtain ⟨vs, hu, r⟩ := a; exact ⟨vs, hu, plainL_F r h1⟩
      | some (false, []), _, _ => trivial
      | some (false, [y]), a, h1 => exact plainC_F a (by simpa [plainP] using h1)
      | some (false, _ :: _ :: _), _, _ => trivial

theorem good_F (hY : RelH Y [] w) {Z : Cx} (g : Good Z [] w X i w') (hp : i.all plainB = true) (hF : ∀ k q, Y.F k q → Z.F k q) : Good Y [] w (X.withF Y.F) i w' := by
  refine ⟨⟨fun b bl hb => ?_, fun b b' k q hf hf' => g.rel.disj b b' k q hf hf', fun b k q hf hF' => g.rel.free b k q hf (g.mono.F k q (hF k q hF')), fun k q hf => Nat.lt_of_lt_of_le (hY.fsz k q hf) g.ext.size⟩,
    ⟨Nat.zero_le _, fun b hb => absurd hb (Nat.not_lt_zero _), fun b hb => absurd hb (Nat.not_lt_zero _), fun _ _ f => f, fun b c L' hb => absurd hb (Nat.not_lt_zero _), fun b c2 c LL' p' hb => absurd hb (Nat.not_lt_zero _)⟩,
    g.ext.weaken fun k q hk => ⟨hk.1, fun b hb => absurd (foot_blt hb) (Nat.not_lt_zero _)⟩, fun k q hf => .inl hf, fun b k q hf => ?_⟩
  · have hpb := List.all_eq_true.mp hp bl (List.mem_of_getElem? hb)
    have hb' := g.rel.blk b bl hb
    cases bl with
    | dead => trivial
    | chn c cap LL => cases hpb
    | bg c2 c LL p => cases hpb
    | cells l =>
      obtain ⟨carr, el, hw, hsz, hcell⟩ := hb'
      refine ⟨carr, el, hw, hsz, fun q x hx => ?_⟩
      obtain ⟨v, hv, rv⟩ := hcell q x hx
      simp only [plainB] at hpb
      exact ⟨v, hv, plainC_F rv (List.all_eq_true.mp hpb x (List.mem_of_getElem? hx))⟩
    | row c L =>
      obtain ⟨r1, r2⟩ := hb'
      refine ⟨fun ho => ?_, r2⟩
      obtain ⟨carr, el, hw, hsz, hcell⟩ := r1 ho
      refine ⟨carr, el, hw, hsz, fun q x j y hx hy => ?_⟩
      obtain ⟨v, hv, rv⟩ := hcell q x j y hx hy
      refine ⟨v, hv, plainC_F rv ?_⟩
      have := Cod.plain_ok c hpb x y (List.mem_of_getElem? hy)
      cases y <;> simp [isPl] at this <;> rfl
  · rcases g.ffoot b k q hf with h1 | ⟨b', h1⟩
    · exact .inl h1
    · exact absurd (foot_blt h1) (Nat.not_lt_zero _)

theorem H_copy {g : FuncId} {sp : Spec} {args : List AV} {cargs : List Value} {ks : List (Option Nat)} {p : AV × List Blk} (ok : SpecOk P g sp) (hargs : All2 (RepV X h w) args cargs) (hH : RelH X h w)
    (hp : (sp (snapK h ks args) []).eval = some p) (hpl : (plainV p.1 && p.2.all plainB) = true) :
    Calls P g (List.toArray cargs) w (fun en w3 => Ends X h w (renV (backF [] h.length) p.1) (layBack h [] (p.2.map (renB (backF [] h.length)))) en w3 ∧ RowKit.Below w.heap.size w w3) := by
  simp only [Bool.and_eq_true] at hpl
  refine (ok.calls (Cx.froz w) [] w _ cargs p.1 p.2 (RelH.froz w) (snapK_ok hH hargs) hp).mono fun en w3 hen => ?_
  obtain ⟨cv, X', rfl, hr, hg⟩ := hen
  have g3 := good_F (Y := X.pick []) (hH.pick (m := []) rfl) hg hpl.2 (fun k q f => hH.fsz k q f)
  obtain ⟨r1, r2⟩ := heap_back hH (m := []) rfl (fun b hb => by simp at hb) (Nat.zero_le _) (plainV_F (F := (X.pick []).F) hr hpl.1) g3
  exact ⟨⟨cv, _, rfl, r1, r2⟩, ext_all (hg.extF (RelH.froz w))⟩

theorem apart_below {m : List Nat} {w3 : World} (hb : RowKit.Below w.heap.size w w3) : Ext (apartF X h w m) w w3 := (below_ext hb).weaken fun k q hk => hk.1

theorem H_call {c : Call} {f : Operand} {h' : List Blk} (hC : CallsOk P e) (ho : o.op = .call c) (hc : c.callee = .value f) (hρ : RepO X h w ρA ρ) (hH : RelH X h w) (hv : (stepH e o ρA h).eval = some (v, h')) : Goes P (grD e o ρA) (reachC e o ρA h) X h w o ρ v h' := by
  unfold stepH at hv; simp only [ho, hc] at hv
  split at hv
  case h_2 => simp [Res.eval] at hv
  rename_i g first caps hf
  split at hv
  case h_4 => simp [Res.eval] at hv
  case h_3 =>
    rename_i ks sp hsp
    have ok := hC g _ sp hsp
    obtain ⟨cargs, hargs, hrun⟩ := call_args ho hc hρ hf ok.enter
    rw [Res.eval_bind] at hv
    obtain ⟨p, hp, hv⟩ := Option.bind_eq_some_iff.mp hv
    split at hv
    case h_2 => simp [Res.eval] at hv
    rename_i hpl
    simp only [Res.eval, Option.some.injEq, Prod.mk.injEq] at hv
    obtain ⟨rfl, rfl⟩ := hv
    exact .inr ⟨g, _, hrun w, (H_copy ok hargs hH hp hpl).mono fun en w3 hen => ⟨hen.1, fun _ => hen.2, apart_below hen.2⟩⟩
  case h_2 =>
    rename_i sp hsp
    have ok := hC g _ sp hsp
    obtain ⟨cargs, hargs, hrun⟩ := call_args ho hc hρ hf ok.enter
    rw [Res.eval_bind] at hv
    obtain ⟨p, hp, hv⟩ := Option.bind_eq_some_iff.mp hv
    simp only [Res.eval, Option.some.injEq, Prod.mk.injEq] at hv
    obtain ⟨rfl, rfl⟩ := hv
    exact .inr ⟨g, _, hrun w, (H_new ok hargs hH hp).mono fun en w3 hen => ⟨hen.1, fun _ => hen.2, apart_below hen.2⟩⟩
  rename_i sp hsp
  have ok := hC g _ sp hsp
  obtain ⟨cargs, hargs, hrun⟩ := call_args ho hc hρ hf ok.enter
  split at hv
  case isFalse => simp [Res.eval] at hv
  rename_i hn
  rw [Res.eval_bind] at hv
  obtain ⟨p, hp, hv⟩ := Option.bind_eq_some_iff.mp hv
  split at hv
  case isFalse => simp [Res.eval] at hv
  rename_i hcond
  simp only [Bool.and_eq_true, Nat.ble_eq] at hcond
  simp only [Res.eval, Option.some.injEq, Prod.mk.injEq] at hv
  obtain ⟨rfl, rfl⟩ := hv
  refine .inr ⟨g, _, hrun w, ?_⟩
  have hargs2 := All2.map (f := renV fun x => idxOf x (reachOf h ((first.map ptrAV ++ (c.args.toList.map ρA) ++ caps.map ptrAV).flatMap refsV)))
    (All2.mono hargs fun a b r => renV_ok (pick_fits (reachOf h ((first.map ptrAV ++ (c.args.toList.map ρA) ++ caps.map ptrAV).flatMap refsV))) r)
  refine (ok.calls _ _ w _ cargs p.1 p.2 (hH.pick hn) hargs2 hp).mono fun en w3 hen => ?_
  obtain ⟨cv, X', rfl, hr, hg⟩ := hen
  obtain ⟨r1, r2⟩ := heap_back hH hn (fun b hb => by
    have := List.all_eq_true.mp hcond.2 b hb
    exact Nat.le_of_ble_eq_true this) hcond.1 hr hg
  have hrc : reachC e o ρA h = reachOf h ((first.map ptrAV ++ (c.args.toList.map ρA) ++ caps.map ptrAV).flatMap refsV) := by
    unfold reachC
    simp only [ho, hc, hf, hsp]
  refine ⟨⟨cv, _, rfl, r1, r2⟩, fun hgr => ?_, ?_⟩
  · unfold grD at hgr
    simp only [ho, hc, hf, hsp, Bool.false_eq_true] at hgr
  · rw [hrc]
    exact hg.ext.weaken fun k q hk => ⟨hk.1, fun j hj => by
      obtain ⟨b, hb, hf⟩ := foot_pick hj
      exact hk.2 b (List.mem_of_getElem? hb) hf⟩

theorem stepH_ok (hT : TAll P e) (hC : CallsOk P e) {a : Act} {h' : List Blk} (hρ : RepO X h w ρA a.eval) (hH : RelH X h w) (hv : (stepH e o ρA h).eval = some (v, h')) : Goes P (grD e o ρA) (reachC e o ρA h) X h w o a.eval v h' := by
  cases ho : o.op with
  | box t x => exact .inl ⟨H_box ho hρ hH hv, fun _ => by simp [grO, ho], by simp [isCv, ho]⟩
  | alloc t => exact .inl ⟨H_alloc hT ho hH hv, fun _ => by simp [grO, ho], by simp [isCv, ho]⟩
  | store t x y => exact .inl ⟨H_store hT ho hρ hH hv, fun hg => by simp [grD, ho] at hg, by simp [isCv, ho]⟩
  | buildSlice t n ps => exact .inl ⟨H_buildSlice hT ho hρ hH hv, fun _ => by simp [grO, ho], by simp [isCv, ho]⟩
  | makeSlice t x y => exact .inl ⟨H_makeSlice hT ho hρ hH hv, fun _ => by simp [grO, ho], by simp [isCv, ho]⟩
  | makeChan t x => exact .inl ⟨H_makeChan hT ho hρ hH hv, fun _ => by simp [grO, ho], by simp [isCv, ho]⟩
  | slice t x lo hi mx => exact .inl ⟨H_slice hT ho hρ hH hv, fun hg => by simp [grD, ho] at hg, by simp [isCv, ho]⟩
  | convert s d x => exact .inl ⟨H_convert hT ho hρ hH hv, fun hg => by simp [grD, ho] at hg, by simp [isCv, ho]⟩
  | call c =>
    cases hc : c.callee with
    | value f => exact H_call hC ho hc hρ hH hv
    | invoke r m => unfold stepH at hv; simp [ho, hc, Res.eval] at hv
    | builtin b =>
      cases b with
      | len => exact .inl ⟨H_chn (full := false) hT ho hc hρ hH (by unfold stepH at hv; simpa only [ho, hc] using hv), fun _ => by simp [grO, ho, hc], by simp [isCv, ho, hc]⟩
      | cap => exact .inl ⟨H_chn (full := true) hT ho hc hρ hH (by unfold stepH at hv; simpa only [ho, hc] using hv), fun _ => by simp [grO, ho, hc], by simp [isCv, ho, hc]⟩
      | append => exact .inl ⟨H_append hT ho hc hρ hH hv, fun hg => by simp [grD, ho, hc] at hg, by simp [isCv, ho, hc]⟩
      | _ => unfold stepH at hv; simp [ho, hc, Res.eval] at hv
  | _ => unfold stepH at hv; simp [ho, Res.eval] at hv

theorem stepF_ok (hT : TAll P e) (hC : CallsOk P e) (dr : Bool) (X : Cx) (h : List Blk) (w : World) (o : Oper) (a : Act) (ρA : Operand → AV) (v : AV) (h' : List Blk) (hρ : RepO X h w ρA a.eval) (hH : RelH X h w) (hv : (stepF e dr o ρA h).eval = some (v, h')) :
    Goes P (grD e o ρA) (reachC e o ρA h) X h w o a.eval v h' ∧ ((dr && isDyn o) = true → grD e o ρA = true) := by
  unfold stepF at hv
  split at hv
  case h_1 => simp [Res.eval] at hv
  rename_i hdr
  refine ⟨?_, fun hd => by rw [hd] at hdr; simpa using hdr⟩
  rw [Res.eval_bind] at hv
  obtain ⟨p, hp, hv⟩ := Option.bind_eq_some_iff.mp hv
  have g := stepH_ok (a := a) hT hC hρ hH hp
  have same : (p.1, p.2) = (v, h') → Goes P (grD e o ρA) (reachC e o ρA h) X h w o a.eval v h' := by
    intro he
    simp only [Prod.mk.injEq] at he
    obtain ⟨rfl, rfl⟩ := he
    exact g
  split at hv
  · split at hv
    · simp only [Res.eval, Option.some.injEq, Prod.mk.injEq] at hv
      obtain ⟨rfl, rfl⟩ := hv
      rcases g with ⟨⟨cv, w', X', hrun, hr, hg, hgr⟩, hgg⟩ | ⟨f, args, hrun, hcall⟩
      · exact .inl ⟨⟨cv, w', _, hrun, snapVF_ok (Y := X'.frz p.2 (rowsV p.1)) hg.rel (fun _ _ f => f) (fun _ hb => hb) hr, hg.trans (Good.freeze hg.rel _), hgr⟩, hgg⟩
      · refine .inr ⟨f, args, hrun, hcall.mono fun en w3 hen => ⟨?_, hen.2⟩⟩
        obtain ⟨cv, X', he, hr, hg⟩ := hen.1
        exact ⟨cv, _, he, snapVF_ok (Y := X'.frz p.2 (rowsV p.1)) hg.rel (fun _ _ f => f) (fun _ hb => hb) hr, hg.trans (Good.freeze hg.rel _)⟩
    · split at hv
      · simp only [Res.eval, Option.some.injEq, Prod.mk.injEq] at hv
        obtain ⟨rfl, rfl⟩ := hv
        rcases g with ⟨⟨cv, w', X', hrun, hr, hg, hgr⟩, hgg⟩ | ⟨f, args, hrun, hcall⟩
        · obtain ⟨Z, hz⟩ := Good.absH hg.rel
          exact .inl ⟨⟨cv, w', Z, hrun, RepV.mono hz.mono (Ext.refl _ w') hr, hg.trans hz, hgr⟩, hgg⟩
        · refine .inr ⟨f, args, hrun, hcall.mono fun en w3 hen => ⟨?_, hen.2⟩⟩
          obtain ⟨cv, X', he, hr, hg⟩ := hen.1
          obtain ⟨Z, hz⟩ := Good.absH hg.rel
          exact ⟨cv, Z, he, RepV.mono hz.mono (Ext.refl _ w3) hr, hg.trans hz⟩
      · simp only [Res.eval, Option.some.injEq] at hv
        exact same hv
  · simp only [Res.eval, Option.some.injEq] at hv
    exact same hv

/-- A store goes on alike when another block is given up. -/
theorem store_else {t : TypeId} {sa sv : Operand} {h1 : List Blk} {b' : Nat} {p : AV × List Blk} (ho : o.op = .store t sa sv) (hb : ∀ b, b ≠ b' → h1[b]? = h[b]?)
    (hs : (match ρA sa with | .c (.ptr b _) => !Nat.beq b b' | .c (.ep b _ _ _) => !Nat.beq b b' | _ => false) = true) (hv : (stepH e o ρA h).eval = some p) : ∃ p1, (stepH e o ρA h1).eval = some p1 := by
  unfold stepH at hv ⊢
  simp only [ho] at hv ⊢
  split at hv
  · rename_i b off l hb1 hl
    rw [hb1] at hs
    have hs : b ≠ b' := fun hh => by subst hh; simp [Nat.beq_refl] at hs
    simp only [hb1, hl, hb b hs]
    split at hv
    · split at hv
      · rename_i hc
        rw [if_pos hc]
        exact ⟨_, rfl⟩
      · simp [Res.eval] at hv
    · simp [Res.eval] at hv
  · rename_i b m l hb1 hl
    rw [hb1] at hs
    cases hs
  · rename_i b z i off l hb1 hl
    rw [hb1] at hs
    have hs : b ≠ b' := fun hh => by subst hh; simp [Nat.beq_refl] at hs
    simp only [hb1, hl, hb b hs]
    split at hv
    · split at hv
      · rename_i hc
        rw [Res.eval_opt] at hv
        split at hv
        · rename_i y hy
          split at hv
          · rename_i y' hy'
            rw [if_pos hc, Res.eval_opt, hy]
            simp only [hy']
            exact ⟨_, rfl⟩
          · simp [Res.eval] at hv
        · simp at hv
      · simp [Res.eval] at hv
    · split at hv
      · split at hv
        · rename_i hc
          rw [if_pos hc]
          rw [Res.eval_br] at hv ⊢
          revert hv
          generalize Nat.blt i _ = bb
          cases bb
          · intro hv; simp [Res.eval] at hv
          · intro _; exact ⟨_, rfl⟩
        · simp [Res.eval] at hv
      · simp [Res.eval] at hv
    · simp [Res.eval] at hv
  · simp [Res.eval] at hv

theorem Good.repO {Z : Cx} {j : List Blk} {w2 : World} (g : Good X h w Z j w2) (hH : RelH X h w) (hρ : RepO X h w ρA ρ) : RepO Z j w2 ρA ρ := fun x => RepV.mono g.mono (g.extF hH) (hρ x)

/-- What a call leaves alone. -/
theorem frC_ok {all r : List Oper} {w3 : World} {a : Act} (hρ : RepO X h w ρA a.eval) (hH : RelH X h w) (hok : frCk e all r o ρA h = true) (ex : Ext (apartF X h w (reachC e o ρA h)) w w3) : FrC P e all r o a w w3 := by
  intro hcv i q t x ad hq hqop hnr hd had
  unfold frCk at hok
  rw [hcv] at hok
  simp only at hok
  rw [List.all_eq_true] at hok
  have h3 := hok i (by rw [List.mem_range]; exact lt_of_list hq)
  rw [hq] at h3
  simp only [hqop, hnr, hd, Bool.false_or] at h3
  have hx := hρ (.tmp x)
  unfold apC at h3
  split at h3
  · rename_i c vx off hb
    rw [hb] at hx
    simp only [Nat.ble_eq] at h3
    have hx : RepC X h w (.rp c vx off) (a.eval (.tmp x)) := hx
    rw [had] at hx
    cases hx with
    | @rp _ _ _ k e' cv h1 h2 =>
      intro j u hj hu
      rw [Addr.add_lit] at hu ⊢
      have hf := (h1 (off + j) (by omega)).1
      rw [show e' + off + j = e' + (off + j) by omega] at hu ⊢
      rw [ex.cell _ _ ⟨hH.fsz _ _ hf, fun b _ hb => hH.free b _ _ hb hf⟩]; exact hu
  · rename_i b off hb
    rw [hb] at hx
    obtain ⟨hlt, hx'⟩ := repC_ptr hx
    rw [had] at hx'
    simp only [Value.pointer.injEq, Option.some.injEq] at hx'
    subst hx'
    simp only [Bool.and_eq_true, Bool.not_eq_true'] at h3
    obtain ⟨ha1, ha2⟩ := h3
    split at ha1
    case h_2 => cases ha1
    rename_i l hl
    simp only [Nat.ble_eq] at ha1
    intro j u hj hu
    unfold Cx.addr at hu ⊢
    rw [Addr.add_lit] at hu ⊢
    have hfo : foot X h b (X.ρ b).1 ((X.ρ b).2 + off + j) := by
      unfold foot
      rw [hl]
      exact ⟨rfl, by omega, by omega⟩
    rw [ex.cell _ _ ⟨foot_lt hH hfo, fun b2 hb2 hf2 => ?_⟩]
    · exact hu
    · have := hH.disj b b2 _ _ hfo hf2
      subst this
      rw [List.any_eq_false] at ha2
      exact ha2 b hb2 (Nat.beq_refl b)
  · cases h3

theorem stepG_ok (hT : TAll P e) (hC : CallsOk P e) : StepHOk P e := by
  intro dr fr all r X h w o a ρA v h' hρ hH hv
  unfold stepG at hv
  split at hv
  case h_1 => simp [Res.eval] at hv
  rename_i hfr
  obtain ⟨g1, g2⟩ := stepF_ok hT hC dr X h w o a ρA v h' hρ hH hv
  refine ⟨g1, g2, fun hf => ?_, fun hf w3 ex => ?_⟩
  case refine_2 =>
    have hok : frCk e all r o ρA h = true := by
      rw [hf] at hfr
      simp only [Bool.true_and, Bool.not_eq_false', Bool.and_eq_true] at hfr
      exact hfr.2
    exact frC_ok hρ hH hok ex
  intro hwr
  have hok : frOk e all r o ρA h = true := by
    rw [hf] at hfr
    simp only [Bool.true_and, Bool.not_eq_false', Bool.and_eq_true] at hfr
    exact hfr.1
  have hp : ∃ p, (stepH e o ρA h).eval = some p := by
    unfold stepF at hv
    split at hv
    case h_1 => simp [Res.eval] at hv
    rw [Res.eval_bind] at hv
    obtain ⟨p, hp, _⟩ := Option.bind_eq_some_iff.mp hv
    exact ⟨p, hp⟩
  obtain ⟨⟨v1, h1⟩, hp⟩ := hp
  cases hop : o.op with
  | call c =>
    have hc : c.callee = .builtin .append := by
      unfold isWr at hwr
      rw [hop] at hwr
      simp only at hwr
      split at hwr
      · assumption
      · cases hwr
    obtain ⟨cv, w2, X2, hrun, _, hg, hnew⟩ := H_appendB hT hop hc hρ hH hp
    refine ⟨_, w2, hrun, (fun _ _ hh => by cases hh), fun i q t x ad hq hqop hnr hd had => ?_⟩
    unfold frOk at hok
    rw [hop] at hok
    simp only [hwr, Bool.not_true, Bool.false_or, Bool.or_eq_true] at hok
    rcases hok with hok | hok
    · have hbl := hnew hok
      exact .of_agree (below_agree hbl)
    · rw [List.all_eq_true] at hok
      have h3 := hok i (by rw [List.mem_range]; exact lt_of_list hq)
      rw [hq] at h3
      simp [hqop, hd, hnr] at h3
  | store t' sa sv =>
  obtain ⟨cv, w2, X2, hrun, _, hg, _⟩ := H_store hT hop hρ hH hp
  have hrun' : ∃ n, (execOp a.eval o).run P w = .ok n w2 ∧ ∀ f args, n ≠ .enter f args := by
    rcases hrun with h | ⟨h, _⟩
    · exact ⟨_, h, fun _ _ hh => by cases hh⟩
    · exact ⟨_, h, fun _ _ hh => by cases hh⟩
  obtain ⟨n, hrun', hne⟩ := hrun'
  refine ⟨n, w2, hrun', hne, fun i q t x ad hq hqop _ hd had => ?_⟩
  have hap : apB h (ρA sa) (ρA (.tmp x)) (e.T t).size = true := by
    unfold frOk at hok
    rw [hop] at hok
    simp only at hok
    rw [List.all_eq_true] at hok
    have h3 := hok i (by rw [List.mem_range]; exact lt_of_list hq)
    rw [hq] at h3
    simpa [hqop, hd] using h3
  have hx := hρ (.tmp x)
  unfold apB at hap
  split at hap
  · rename_i c vx off hb
    rw [hb] at hx
    simp only [Nat.ble_eq] at hap
    have hx : RepC X h w (.rp c vx off) (a.eval (.tmp x)) := hx
    rw [had] at hx
    have ex := hg.extF hH
    cases hx with
    | @rp _ _ _ k e' cv h1 h2 =>
      intro j u hj hu
      rw [Addr.add_lit] at hu ⊢
      have hf := (h1 (off + j) (by omega)).1
      rw [show e' + off + j = e' + (off + j) by omega] at hu ⊢
      rw [ex.cell _ _ hf]; exact hu
  · rename_i b off hb
    rw [hb] at hx
    obtain ⟨hlt, hx'⟩ := repC_ptr hx
    rw [had] at hx'
    simp only [Value.pointer.injEq, Option.some.injEq] at hx'
    subst hx'
    simp only [Bool.and_eq_true] at hap
    obtain ⟨ha1, ha2⟩ := hap
    split at ha1
    case h_2 => cases ha1
    rename_i l hl
    simp only [Nat.ble_eq] at ha1
    have gk := Good.kill hH [b]
    have hne' : ∀ b2, b2 ≠ b → (killB h [b])[b2]? = h[b2]? := by
      intro b2 hb2
      simp only [killB]
      rw [List.getElem?_set, if_neg (Ne.symm hb2)]
    obtain ⟨p1, hp1⟩ := store_else hop hne' ha2 hp
    obtain ⟨cv', w3, X3, hrun3, _, hg3, _⟩ := H_store hT hop (gk.repO hH hρ) gk.rel (v := p1.1) (h' := p1.2) hp1
    have hw : w3 = w2 := by
      rcases hrun3 with h3 | ⟨h3, _⟩ <;> (rw [h3] at hrun'; cases hrun'; rfl)
    subst hw
    have ex := hg3.extF gk.rel
    intro j u hj hu
    unfold Cx.addr at hu ⊢
    rw [Addr.add_lit] at hu ⊢
    have hf : (X.frz h [b]).F (X.ρ b).1 ((X.ρ b).2 + off + j) := by
      refine .inr ⟨b, by simp, ?_⟩
      unfold foot
      rw [hl]
      exact ⟨rfl, by omega, by omega⟩
    rw [ex.cell _ _ hf]; exact hu
  · cases hap
  | _ => simp [isWr, hop] at hwr

/-- The whole: a function's run is its specification. -/
theorem runR_ok (hm : P.follows .mixedOrders = true) (hT : TAll P e) (hC : CallsOk P e) {f : FuncId} {fn : Func} (hf : P.funcs[f]? = some fn) (hen : ∀ args w, (callFunc f args).run P w = .ok (.enter f args) w) : SpecOk P f (runR e fn) :=
  run_ok hm hT hC (stepG_ok hT hC) hf hen

/-- A specification that says no more than one that is met is met. -/
theorem SpecOk.less {f : FuncId} {sp sp' : Spec} (ok : SpecOk P f sp) (h : ∀ args hs r, (sp' args hs).eval = some r → (sp args hs).eval = some r) : SpecOk P f sp' :=
  ⟨ok.enter, fun X hs w args cargs v h' hH ha hv => ok.calls X hs w args cargs v h' hH ha (h args hs _ hv)⟩

end
end Ab
