/- Blocks numbered anew. -/
import Derived.Test.YtllohgmahflpaaaAbRegionC
set_option linter.unusedSectionVars false
set_option linter.unusedSimpArgs false
set_option linter.unusedVariables false
namespace Ab
open Go
section
variable [Uni] [Cod]
variable {P : Program} {e : Env} {X Y : Cx} {h i : List Blk} {w w' : World} {v : AV}

/-- What leads to none of the run's own blocks stands for the same whoever's blocks there are. -/
theorem RepC.move {x : Cl} {u : Value} (r : RepC X h w x u) (hF : ∀ k q, X.F k q → Y.F k q) (hc : closedC x = true) : RepC Y i w x u := by
  induction r with
  | top h => exact .top h
  | bool => exact .bool
  | int => exact .int
  | str => exact .str
  | nilp => exact .nilp
  | nils => exact .nils
  | ez => exact .ez
  | nilf => exact .nilf
  | nilch => exact .nilch
  | ch _ => simp [closedC] at hc
  | jk _ _ _ => simp [closedC] at hc
  | ptr _ => simp [closedC] at hc
  | sl _ _ => simp [closedC] at hc
  | slw _ _ _ => simp [closedC] at hc
  | ep _ => simp [closedC] at hc
  | @rs c L a cap cv h0 h1 h2 ih =>
    refine .rs (cv := cv) h0 (fun i x hx => ?_) (fun i x j y hx hy => ih i x j y hx hy (Cod.enc_closed c x y (List.mem_of_getElem? hy)))
    obtain ⟨k, e', ha, hj⟩ := h1 i x hx
    exact ⟨k, e', ha, fun j hj' => ⟨hF _ _ (hj j hj').1, (hj j hj').2⟩⟩
  | @rn z c L a cap cv hz h0 h1 h2 ih =>
    refine .rn (cv := cv) hz h0 (fun i x hx => ?_) (fun i x j y hx hy => ih i x j y hx hy (Cod.enc_closed c x y (List.mem_of_getElem? hy)))
    obtain ⟨k, e', ha, hj⟩ := h1 i x hx
    exact ⟨k, e', ha, fun j hj' => ⟨hF _ _ (hj j hj').1, (hj j hj').2⟩⟩
  | @rp c x o k e' cv h1 h2 ih =>
    exact .rp (cv := cv) (fun j hj => ⟨hF _ _ (h1 j hj).1, (h1 j hj).2⟩) (fun j y hy => ih j y hy (Cod.enc_closed c x y (List.mem_of_getElem? hy)))
  | @fn f first caps h1 h2 =>
    cases first with
    | nil => cases caps with
      | nil => exact .fn (by simp) (by simp)
      | cons _ _ => simp [closedC] at hc
    | cons _ _ => cases caps <;> simp [closedC] at hc

/-- A table of new numbers that fits: blocks, where they lie, what they hold. -/
structure Fits (X : Cx) (h : List Blk) (Y : Cx) (i : List Blk) (f : Nat → Option Nat) : Prop where
  lt : ∀ b j, b < h.length → f b = some j → j < i.length
  ρ : ∀ b j, f b = some j → Y.ρ j = X.ρ b
  own : ∀ b j, f b = some j → (Y.own j ↔ X.own b)
  F : ∀ k q, X.F k q → Y.F k q
  row : ∀ b j c L, f b = some j → i[j]? = some (.row c L) → h[b]? = some (.row c L)
  sub : ∀ b j, f b = some j → Y.sub j = X.sub b
  bg : ∀ (b j c2 c : Nat) (LL : List (List (Uni.val c))) (p : Option Nat), f b = some j → i[j]? = some (.bg c2 c LL p) → ∃ p0 : Option Nat, h[b]? = some (.bg c2 c LL p0) ∧ p0.isSome = p.isSome

theorem RowAt.move {p : (Nat × Nat) × Prop} {c : Nat} {L : List (Uni.val c)} (r : RowAt X h w p c L) (hF : ∀ k q, X.F k q → Y.F k q) : RowAt Y i w p c L := by
  obtain ⟨r1, r2⟩ := r
  refine ⟨fun ho => ?_, r2⟩
  obtain ⟨carr, el, hw, hsz, hcell⟩ := r1 ho
  refine ⟨carr, el, hw, hsz, fun k x q y hx hy => ?_⟩
  obtain ⟨u, hu, ru⟩ := hcell k x q y hx hy
  exact ⟨u, hu, ru.move hF (Cod.enc_closed c x y (List.mem_of_getElem? hy))⟩

theorem renP_ok {f : Nat → Option Nat} (ft : Fits X h Y i f) : ∀ {ps qs : List (Nat × Nat)}, (∀ p ∈ ps, p.1 < h.length) → renP f ps = some qs →
    (∀ q ∈ qs, q.1 < i.length) ∧ (ps.map fun p => Value.pointer (some (X.addr p.1 p.2))) = qs.map fun p => Value.pointer (some (Y.addr p.1 p.2))
  | [], qs, _, h => by simp [renP] at h; subst h; simp
  | p :: r, qs, hp, h => by
    unfold renP at h
    split at h
    · rename_i b l hb hl
      simp at h; subst h
      obtain ⟨h1, h2⟩ := renP_ok ft (fun q hq => hp q (by simp [hq])) hl
      refine ⟨fun q hq => ?_, ?_⟩
      · rcases List.mem_cons.mp hq with rfl | hq
        · exact ft.lt _ _ (hp p (by simp)) hb
        · exact h1 q hq
      · simp only [List.map_cons, h2]
        congr 3
        simp [Cx.addr, ft.ρ _ _ hb]
    · simp at h

theorem renC_ok {f : Nat → Option Nat} (ft : Fits X h Y i f) {x : Cl} {u : Value} (r : RepC X h w x u) : RepC Y i w (renC f x) u := by
  have top : RepC Y i w .top u := .top r.one
  have addr : ∀ {b j : Nat}, f b = some j → ∀ q, X.addr b q = Y.addr j q := fun hb q => by simp [Cx.addr, ft.ρ _ _ hb]
  cases x with
  | ptr b q =>
    unfold renC
    simp only
    split
    · rename_i j hb
      obtain ⟨hlt, hu⟩ := repC_ptr r
      rw [hu, addr hb]; exact .ptr (ft.lt _ _ hlt hb)
    · exact top
  | sl b q n c =>
    unfold renC
    simp only
    split
    · rename_i j hb
      obtain ⟨hlt, cap, hu, hn⟩ := repC_sl r
      rw [hu, addr hb]; exact .sl (ft.lt _ _ hlt hb) hn
    · exact top
  | slw b =>
    unfold renC
    simp only
    split
    · rename_i j hb
      cases r with
      | slw hlt h1 h2 =>
        refine .slw (ft.lt _ _ hlt hb) (fun c L hL => ?_) h2
        rcases h1 c L (ft.row _ _ _ _ hb hL) with ⟨ho, cap, hv, hc, hr⟩ | ⟨ho, a, hv⟩
        · exact .inl ⟨(ft.own _ _ hb).mpr ho, cap, by rw [hv, addr hb], hc, by rw [ft.ρ _ _ hb]; exact hr⟩
        · exact .inr ⟨fun h => ho ((ft.own _ _ hb).mp h), a, hv⟩
    · exact top
  | ep b z k q =>
    unfold renC
    simp only
    split
    · rename_i j hb
      obtain ⟨hlt, hu⟩ := repC_ep r
      rw [hu, addr hb]; exact .ep (ft.lt _ _ hlt hb)
    · exact top
  | jk b m =>
    unfold renC
    simp only
    split
    · rename_i j hb
      cases r with
      | jk hlt h1 h2 =>
        refine .jk (ft.lt _ _ hlt hb) (fun c2 c LL p hL => ?_) h2
        obtain ⟨p0, hp, hps⟩ := ft.bg _ _ _ _ _ _ hb hL
        obtain ⟨q1, q2⟩ := h1 c2 c LL p0 hp
        refine ⟨?_, fun hm ho => ?_⟩
        · have ha : ∀ q, Y.addr j q = X.addr b q := fun q => (addr hb q).symm
          rw [hps] at q1
          cases m with
          | whole => simp only [JVal, ha, ft.own _ _ hb] at q1 ⊢; exact q1
          | hdr k => simp only [JVal, ha, ft.own _ _ hb] at q1 ⊢; exact q1
          | row k => simp only [JVal, ft.sub _ _ hb] at q1 ⊢; exact q1
          | byte k i => simp only [JVal, ft.sub _ _ hb] at q1 ⊢; exact q1
        · obtain ⟨a, n, cap, hv, hr⟩ := q2 hm ((ft.own _ _ hb).mp ho)
          exact ⟨a, n, cap, hv, by rw [ft.ρ _ _ hb]; exact hr⟩
    · exact top
  | ch b =>
    unfold renC
    simp only
    split
    · rename_i j hb
      cases r with
      | ch hlt => rw [← ft.ρ _ _ hb]; exact .ch (ft.lt _ _ hlt hb)
    · exact top
  | fn g first caps =>
    have hgen : (∃ qs rs, renP f first = some qs ∧ renP f caps = some rs ∧ renC f (.fn g first caps) = .fn g qs rs) ∨ renC f (.fn g first caps) = .top := by
      cases first with
      | nil => cases caps with
        | nil => exact .inl ⟨[], [], rfl, rfl, rfl⟩
        | cons c cs =>
          unfold renC
          simp only
          split
          · rename_i a b h1 h2; exact .inl ⟨a, b, h1, h2, rfl⟩
          · exact .inr rfl
      | cons c cs =>
        unfold renC
        simp only
        split
        · rename_i a b h1 h2; exact .inl ⟨a, b, h1, h2, rfl⟩
        · exact .inr rfl
    rcases hgen with ⟨qs, rs, h1, h2, h3⟩ | h3
    · rw [h3]
      cases r with
      | fn l1 l2 =>
        obtain ⟨p1, p2⟩ := renP_ok ft l1 h1
        obtain ⟨q1, q2⟩ := renP_ok ft l2 h2
        rw [p2, q2]
        exact .fn p1 q1
    · rw [h3]; exact top
  | _ => exact r.move ft.F rfl

theorem renV_ok {f : Nat → Option Nat} (ft : Fits X h Y i f) {x : AV} {u : Value} (r : RepV X h w x u) : RepV Y i w (renV f x) u := by
  cases x with
  | top => trivial
  | c y => exact renC_ok ft r
  | agg l =>
    obtain ⟨vs, hu, r⟩ := r
    exact ⟨vs, hu, All2.map (All2.mono r fun _ _ q => renC_ok ft q)⟩
  | tup l =>
    obtain ⟨vs, hu, r⟩ := r
    refine ⟨vs, hu, All2.map (All2.mono r fun p u q => ?_)⟩
    match p, q with
    | none, _ => trivial
    | some (true, l), q => obtain ⟨vs, hu, r⟩ := q; exact ⟨vs, hu, All2.map (All2.mono r fun _ _ q => renC_ok ft q)⟩
    | some (false, []), _ => trivial
    | some (false, [y]), q => exact renC_ok ft q
    | some (false, _ :: _ :: _), _ => trivial

theorem idxOf_get {b : Nat} : ∀ {m : List Nat} {j : Nat}, idxOf b m = some j → m[j]? = some b
  | [], j, h => by simp [idxOf] at h
  | x :: r, j, h => by
    unfold idxOf at h
    split at h
    · rename_i hb
      simp only [Nat.beq_eq] at hb
      simp at h; subst h; subst hb; rfl
    · obtain ⟨k, hk, rfl⟩ := Option.map_eq_some_iff.mp h
      simpa using idxOf_get hk

theorem nodup_inj : ∀ {m : List Nat}, nodupB m = true → ∀ {j k b : Nat}, m[j]? = some b → m[k]? = some b → j = k
  | [], _, j, k, b, h, _ => by simp at h
  | x :: r, hn, j, k, b, hj, hk => by
    simp only [nodupB, Bool.and_eq_true, Bool.not_eq_true'] at hn
    have hx : ∀ i : Nat, r[i]? ≠ some x := by
      intro i hi
      have := hn.1
      rw [List.any_eq_false] at this
      exact absurd (this x (List.mem_of_getElem? hi)) (by simp [Nat.beq_eq])
    cases j with
    | zero =>
      simp at hj; subst hj
      cases k with
      | zero => rfl
      | succ k => simp at hk; exact absurd hk (hx k)
    | succ j =>
      simp at hj
      cases k with
      | zero => simp at hk; subst hk; exact absurd hj (hx j)
      | succ k => simp at hk; rw [nodup_inj hn.2 hj hk]

theorem firstB_ok : ∀ {n i : Nat} {m : List Nat}, firstB i n m = true → ∀ j, j < n → m[j]? = some (i + j)
  | 0, _, _, _, j, hj => by omega
  | n + 1, i, [], h, _, _ => by simp [firstB] at h
  | n + 1, i, x :: r, h, j, hj => by
    simp only [firstB, Bool.and_eq_true, Nat.beq_eq] at h
    cases j with
    | zero => simp [h.1]
    | succ j =>
      simp
      rw [firstB_ok h.2 j (by omega)]
      congr 1; omega

/-- The context of the blocks picked. -/
def Cx.pick (X : Cx) (m : List Nat) : Cx := { ρ := fun j => X.ρ ((m[j]?).getD 0), own := fun j => X.own ((m[j]?).getD 0), F := X.F, sub := fun j => X.sub ((m[j]?).getD 0) }

theorem renB_bg' {f : Nat → Option Nat} {c2 c : Nat} {LL : List (List (Uni.val c))} {p : Option Nat} {b0 : Blk} (h : Blk.bg c2 c LL p = renB f b0) : ∃ p0 : Option Nat, b0 = .bg c2 c LL p0 ∧ p0.isSome = p.isSome ∧ ∀ r', p = some r' → ∃ r, p0 = some r ∧ f r = some r' := by
  cases b0 with
  | bg c2' c' LL' p' =>
    cases p' with
    | none =>
      have h : Blk.bg c2 c LL p = .bg c2' c' LL' none := h
      cases h
      exact ⟨none, rfl, rfl, fun _ hh => by cases hh⟩
    | some r =>
      have h : Blk.bg c2 c LL p = (match f r with | some r => Blk.bg c2' c' LL' (some r) | none => .dead) := h
      split at h
      · rename_i r1 hr1
        cases h
        exact ⟨some r, rfl, rfl, fun r' hh => by cases hh; exact ⟨r, rfl, hr1⟩⟩
      · cases h
  | _ => simp [renB] at h

theorem renB_bg {f : Nat → Option Nat} {c2 c : Nat} {LL : List (List (Uni.val c))} {p : Option Nat} {bl : Blk} (h : bl = renB f (.bg c2 c LL p)) : bl = .dead ∨ ∃ p', bl = .bg c2 c LL p' := by
  subst h
  cases p with
  | none => exact .inr ⟨none, rfl⟩
  | some r =>
    show (match f r with | some r => Blk.bg c2 c LL (some r) | none => .dead) = .dead ∨ ∃ p', (match f r with | some r => Blk.bg c2 c LL (some r) | none => .dead) = .bg c2 c LL p'
    split
    · exact .inr ⟨_, rfl⟩
    · exact .inl rfl

theorem pickB_get {h : List Blk} {m : List Nat} {j : Nat} {bl : Blk} (hj : (pickB h m)[j]? = some bl) : ∃ b, m[j]? = some b ∧ (m[j]?).getD 0 = b ∧ ((∃ b0, h[b]? = some b0 ∧ bl = renB (fun x => idxOf x m) b0) ∨ bl = .dead) := by
  unfold pickB at hj
  rw [List.getElem?_map] at hj
  obtain ⟨b, hb, rfl⟩ := Option.map_eq_some_iff.mp hj
  refine ⟨b, hb, by simp [hb], ?_⟩
  split
  · rename_i b0 h0; exact .inl ⟨b0, h0, rfl⟩
  · exact .inr rfl

theorem pick_fits (m : List Nat) : Fits X h (X.pick m) (pickB h m) (fun x => idxOf x m) := by
  have key : ∀ b j, idxOf b m = some j → (m[j]?).getD 0 = b := fun b j hb => by simp [idxOf_get hb]
  refine ⟨fun b j _ hb => ?_, fun b j hb => ?_, fun b j hb => ?_, fun _ _ f => f, fun b j c L hb hL => ?_, fun b j hb => by simp [Cx.pick, key b j hb], fun b j c2 c LL p hb hL => ?_⟩
  · have := lt_of_list (idxOf_get hb); simpa [pickB] using this
  · simp [Cx.pick, key b j hb]
  · simp [Cx.pick, key b j hb]
  · obtain ⟨b', hb', _, h1⟩ := pickB_get hL
    rw [idxOf_get hb] at hb'
    simp at hb'; subst hb'
    rcases h1 with ⟨b0, h0, h2⟩ | h2
    · cases b0 with
      | row c' L' => simp [renB] at h2; obtain ⟨rfl, h2⟩ := h2; simp at h2; subst h2; exact h0
      | bg _ _ _ _ => rcases renB_bg h2 with h9 | ⟨_, h9⟩ <;> cases h9
      | _ => simp [renB] at h2
    · simp at h2
  · obtain ⟨b', hb', _, h1⟩ := pickB_get hL
    rw [idxOf_get hb] at hb'
    simp at hb'; subst hb'
    rcases h1 with ⟨b0, h0, h2⟩ | h2
    · cases b0 with
      | bg c2' c' LL' p' =>
        cases p' with
        | none =>
          have h2 : Blk.bg c2 c LL p = .bg c2' c' LL' none := h2
          cases h2
          exact ⟨none, h0, rfl⟩
        | some r =>
          have h2 : Blk.bg c2 c LL p = (match idxOf r m with | some r => Blk.bg c2' c' LL' (some r) | none => .dead) := h2
          split at h2
          · cases h2
            exact ⟨some r, h0, rfl⟩
          · cases h2
      | _ => simp [renB] at h2
    · simp at h2

theorem foot_pick {m : List Nat} {j k q : Nat} (hf : foot (X.pick m) (pickB h m) j k q) : ∃ b, m[j]? = some b ∧ foot X h b k q := by
  unfold foot at hf
  split at hf
  · rename_i l hl
    obtain ⟨b, hb, hg, h1⟩ := pickB_get hl
    refine ⟨b, hb, ?_⟩
    rcases h1 with ⟨b0, h0, h2⟩ | h2
    · cases b0 with
      | cells l' =>
        simp [renB] at h2; subst h2
        unfold foot
        rw [h0]
        simp only [Cx.pick, hg, List.length_map] at hf
        exact hf
      | bg _ _ _ _ => rcases renB_bg h2 with h9 | ⟨_, h9⟩ <;> cases h9
      | _ => simp [renB] at h2
    · simp at h2
  · rename_i c L hl
    obtain ⟨b, hb, hg, h1⟩ := pickB_get hl
    refine ⟨b, hb, ?_⟩
    rcases h1 with ⟨b0, h0, h2⟩ | h2
    · cases b0 with
      | row c' L' =>
        unfold foot
        rw [h0]
        simp only [Cx.pick, hg] at hf
        exact hf
      | bg _ _ _ _ => rcases renB_bg h2 with h9 | ⟨_, h9⟩ <;> cases h9
      | _ => simp [renB] at h2
    · simp at h2
  · rename_i c2 c LL p hl
    obtain ⟨b, hb, hg, h1⟩ := pickB_get hl
    refine ⟨b, hb, ?_⟩
    rcases h1 with ⟨b0, h0, h2⟩ | h2
    · have : ∃ p', b0 = .bg c2 c LL p' := by
        cases b0 with
        | bg c2' c' LL' p' =>
          cases p' with
          | none =>
            have h2 : Blk.bg c2 c LL p = .bg c2' c' LL' none := h2
            cases h2
            exact ⟨_, rfl⟩
          | some r =>
            have h2 : Blk.bg c2 c LL p = (match idxOf r m with | some r => Blk.bg c2' c' LL' (some r) | none => .dead) := h2
            split at h2
            · cases h2
              exact ⟨_, rfl⟩
            · cases h2
        | _ => simp [renB] at h2
      obtain ⟨p', rfl⟩ := this
      unfold foot
      rw [h0]
      simp only [Cx.pick, hg] at hf
      exact hf
    · simp at h2
  · rename_i c cap LL hl
    obtain ⟨b, hb, hg, h1⟩ := pickB_get hl
    refine ⟨b, hb, ?_⟩
    rcases h1 with ⟨b0, h0, h2⟩ | h2
    · cases b0 with
      | chn c' cap' LL' =>
        simp only [renB, Blk.chn.injEq] at h2
        obtain ⟨rfl, rfl, h2⟩ := h2
        have h2 := eq_of_heq h2
        subst h2
        unfold foot
        rw [h0]
        simp only [Cx.pick, hg] at hf
        exact hf
      | bg _ _ _ _ => rcases renB_bg h2 with h9 | ⟨_, h9⟩ <;> cases h9
      | _ => simp [renB] at h2
    · simp at h2
  · exact hf.elim

theorem RelH.pick (hH : RelH X h w) {m : List Nat} (hn : nodupB m = true) : RelH (X.pick m) (pickB h m) w := by
  have ft := pick_fits (X := X) (h := h) m
  refine ⟨fun j bl hj => ?_, fun j j' k q hf hf' => ?_, fun j k q hf => ?_, hH.fsz⟩
  · obtain ⟨b, hb, hg, h1⟩ := pickB_get hj
    rcases h1 with ⟨b0, h0, rfl⟩ | rfl
    · have r := hH.blk b b0 h0
      cases b0 with
      | dead => trivial
      | cells l =>
        obtain ⟨carr, el, ⟨fz, hw, hfz⟩, hsz, hcell⟩ := r
        refine ⟨carr, el, ⟨fz, by simpa [Cx.pick, hg] using hw, hfz⟩, by simpa [Cx.pick, hg] using hsz, fun k x hx => ?_⟩
        rw [List.getElem?_map] at hx
        obtain ⟨y, hy, rfl⟩ := Option.map_eq_some_iff.mp hx
        obtain ⟨u, hu, ru⟩ := hcell k y hy
        exact ⟨u, by simpa [Cx.pick, hg] using hu, renC_ok ft ru⟩
      | row c L =>
        obtain ⟨r1, r2⟩ := r
        refine ⟨fun ho => ?_, fun ho => r2 (fun hh => ho (by simpa [Cx.pick, hg] using hh))⟩
        have ho' : X.own b := by simpa [Cx.pick, hg] using ho
        obtain ⟨carr, el, ⟨fz, hw, hfz⟩, hsz, hcell⟩ := r1 ho'
        refine ⟨carr, el, ⟨fz, by simpa [Cx.pick, hg] using hw, hfz⟩, by simpa [Cx.pick, hg] using hsz, fun k x q y hx hy => ?_⟩
        obtain ⟨u, hu, ru⟩ := hcell k x q y hx hy
        exact ⟨u, by simpa [Cx.pick, hg] using hu, ru.move (fun _ _ f => f) (Cod.enc_closed c x y (List.mem_of_getElem? hy))⟩
      | bg c2 c LL p =>
        obtain ⟨r1, r2⟩ := r
        have hs : (X.pick m).sub j = X.sub b := by simp [Cx.pick, hg]
        have hro : (X.pick m).ρ j = X.ρ b := by simp [Cx.pick, hg]
        have hoo : (X.pick m).own j = X.own b := by simp [Cx.pick, hg]
        have base : ∀ (p' : Option Nat), p'.isSome = p.isSome → (∀ r', p' = some r' → ∃ r, p = some r ∧ idxOf r m = some r') → RelB (X.pick m) (pickB h m) w j (.bg c2 c LL p') := by
          intro p' hps hpr
          refine ⟨fun ho => ?_, fun ho => ?_⟩
          · rw [hoo] at ho
            obtain ⟨carr, el, hw, hsz, h3, h4, h5, h6⟩ := r1 ho
            refine ⟨carr, el, by rw [hro]; exact hw, by rw [hro, hps]; exact hsz, fun i2 L hL => ?_, by rw [hs]; exact h4, by rw [hs, hro]; exact h5, fun r' hr' => ?_⟩
            · obtain ⟨q1, q2⟩ := h3 i2 L hL
              rw [hs, hro]
              exact ⟨q1.move (fun _ _ f => f), q2⟩
            · obtain ⟨r, hp, hi⟩ := hpr r' hr'
              obtain ⟨u, hu, ru⟩ := h6 r hp
              have := renC_ok ft ru
              rw [show renC (fun x => idxOf x m) (.slw r) = .slw r' by show (match idxOf r m with | some b => Cl.slw b | none => .top) = _; rw [hi]] at this
              exact ⟨u, by rw [hro]; exact hu, this⟩
          · rw [hoo] at ho
            obtain ⟨e1, e2⟩ := r2 ho
            refine ⟨e1, ?_⟩
            rw [e2] at hps
            cases p' with
            | none => rfl
            | some _ => cases hps
        cases p with
        | none => exact base none rfl (fun _ hh => by cases hh)
        | some r =>
          show RelB (X.pick m) (pickB h m) w j (match idxOf r m with | some r => Blk.bg c2 c LL (some r) | none => .dead)
          split
          · rename_i r' hr'
            exact base (some r') rfl (fun r'' hh => by cases hh; exact ⟨r, rfl, hr'⟩)
          · trivial
      | chn c cap LL =>
        obtain ⟨buf, s, r, hw, h1, h2, h3, h4⟩ := r
        have hs : (X.pick m).sub j = X.sub b := by simp [Cx.pick, hg]
        refine ⟨buf, s, r, by simpa [Cx.pick, hg] using hw, h1, h2, fun i2 L hL => ?_, by rw [hs]; exact h4⟩
        obtain ⟨q1, q2⟩ := h3 i2 L hL
        rw [hs]
        exact ⟨q1.move (fun _ _ f => f), q2⟩
    · trivial
  · obtain ⟨b, hb, h1⟩ := foot_pick hf
    obtain ⟨b', hb', h2⟩ := foot_pick hf'
    have := hH.disj b b' k q h1 h2
    subst this
    exact nodup_inj hn hb hb'
  · obtain ⟨b, hb, h1⟩ := foot_pick hf
    exact hH.free b k q h1

theorem Good.pick {X0 : Cx} {h0 : List Blk} {w0 : World} (g : Good X0 h0 w0 X h w) {m : List Nat} (hn : nodupB m = true) (hf : firstB 0 h0.length m = true) : Good X0 h0 w0 (X.pick m) (pickB h m) w := by
  have key : ∀ b, b < h0.length → (m[b]?).getD 0 = b := fun b hb => by
    have := firstB_ok hf b hb
    simp [this]
  refine ⟨g.rel.pick hn, ⟨?_, fun b hb => ?_, fun b hb => ?_, g.mono.F, fun b c L' hb hL => ?_, fun b c2 c LL p hb hL => ?_⟩, g.ext, g.fnew, fun b k q hf' => ?_⟩
  · rcases Nat.eq_zero_or_pos h0.length with h | h
    · omega
    · have := lt_of_list (firstB_ok hf (h0.length - 1) (by omega))
      simp [pickB]; omega
  · simp only [Cx.pick, key b hb]; exact g.mono.ρ b hb
  · simp only [Cx.pick, key b hb]; exact g.mono.own b hb
  · obtain ⟨b', hb', hg, h1⟩ := pickB_get hL
    rw [key b hb] at hg
    subst hg
    rcases h1 with ⟨b0, h2, h3⟩ | h3
    · cases b0 with
      | row c' L'' => simp [renB] at h3; obtain ⟨rfl, h3⟩ := h3; simp at h3; subst h3; exact g.mono.row b c _ hb h2
      | bg _ _ _ _ => rcases renB_bg h3 with h9 | ⟨_, h9⟩ <;> cases h9
      | _ => simp [renB] at h3
    · simp at h3
  · obtain ⟨b', hb', hg, h1⟩ := pickB_get hL
    rw [key b hb] at hg
    subst hg
    have ft := pick_fits (X := X) (h := h) m
    have hbl := (show m[b]? = some b from firstB_ok hf b hb |>.trans (by simp))
    rcases h1 with ⟨b0, h2, h3⟩ | h3
    · have : ∃ p0 : Option Nat, b0 = .bg c2 c LL p0 ∧ p0.isSome = p.isSome := by
        cases b0 with
        | bg c2' c' LL' p' =>
          cases p' with
          | none =>
            have h3 : Blk.bg c2 c LL p = .bg c2' c' LL' none := h3
            cases h3
            exact ⟨none, rfl, rfl⟩
          | some r =>
            have h3 : Blk.bg c2 c LL p = (match idxOf r m with | some r => Blk.bg c2' c' LL' (some r) | none => .dead) := h3
            split at h3
            · cases h3
              exact ⟨some r, rfl, rfl⟩
            · cases h3
        | _ => simp [renB] at h3
      obtain ⟨p0, rfl, hps⟩ := this
      obtain ⟨LL0, p1, e1, e2⟩ := g.mono.bg b c2 c LL p0 hb h2
      refine ⟨LL0, p1, e1, fun v mm hj => ?_⟩
      have := e2 v mm hj
      rw [hps] at this
      exact this.congr (by simp [Cx.pick, key b hb]) (by simp [Cx.pick, key b hb]) (by simp [Cx.pick, key b hb])
    · simp at h3
  · obtain ⟨b', hb', h1⟩ := foot_pick hf'
    exact g.ffoot b' k q h1

end
end Ab
