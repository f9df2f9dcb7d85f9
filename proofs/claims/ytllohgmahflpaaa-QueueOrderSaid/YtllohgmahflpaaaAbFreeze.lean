/- Blocks of the run's own that are never to be written again. -/
import Derived.Test.YtllohgmahflpaaaAbFunc
import Derived.Test.YtllohgmahflpaaaAbAppend
set_option linter.unusedSectionVars false
set_option linter.unusedSimpArgs false
set_option linter.unusedVariables false
namespace Ab
open Go
section
variable [Uni] [Cod]
variable {P : Program} {e : Env} {X Y : Cx} {h i : List Blk} {w w' : World} {o : Oper} {ρA : Operand → AV} {ρ : Operand → Value} {v : AV}

theorem killB_len : ∀ (M : List Nat) (h : List Blk), (killB h M).length = h.length
  | [], h => rfl
  | b :: r, h => by rw [killB, killB_len r]; simp

theorem killB_get : ∀ {M : List Nat} {h : List Blk} {b : Nat} {bl : Blk}, (killB h M)[b]? = some bl → bl = .dead ∨ (b ∉ M ∧ h[b]? = some bl)
  | [], h, b, bl, hb => .inr ⟨by simp, hb⟩
  | x :: r, h, b, bl, hb => by
    rw [killB] at hb
    rcases killB_get hb with h1 | ⟨h1, h2⟩
    · exact .inl h1
    · rw [List.getElem?_set] at h2
      split at h2
      · split at h2
        · simp at h2; exact .inl h2.symm
        · simp at h2
      · rename_i hne
        exact .inr ⟨by simp; exact ⟨fun hh => hne hh.symm, h1⟩, h2⟩

/-- The context in which some blocks are never to be written again. -/
def Cx.frz (X : Cx) (h : List Blk) (M : List Nat) : Cx := { ρ := X.ρ, own := X.own, F := fun k q => X.F k q ∨ ∃ b, b ∈ M ∧ foot X h b k q, sub := X.sub }

/-- A row at a place that is never written again. -/
theorem rowAt_rsF {p : (Nat × Nat) × Prop} {c : Nat} {L : List (Uni.val c)} {v : Value} (hp : p.2 → ∀ q, Y.F p.1.1 q) (hF' : ∀ k q, X.F k q → Y.F k q) (r : RowAt X h w p c L) (d : HdAt w p (Uni.sz c) L.length v) : RepC Y i w (.rs c L) v := by
  rcases d with ⟨ho, cap, rfl, hcap, _⟩ | ⟨hno, a, rfl⟩
  · obtain ⟨carr, el, ⟨fz, hw, hfz⟩, hsz, hcell⟩ := r.1 ho
    refine .rs (cv := fun i j => (carr[p.1.2 + (i * Uni.sz c + j)]?).getD undef) hcap.1 (fun i x hx => ⟨p.1.1, p.1.2, rfl, fun j hj => ?_⟩) (fun i x j y hx hy => ?_)
    · obtain ⟨v, hv, _⟩ := hcell i x j ((Cod.enc c x)[j]'(by rw [Cod.enc_len]; exact hj)) hx (List.getElem?_eq_getElem _)
      refine ⟨hp ho _, ?_⟩
      rw [cell_of_heap hw, Nat.add_assoc]
      simp [hv]
    · obtain ⟨v, hv, rv⟩ := hcell i x j y hx hy
      rw [hv]
      exact rv.move hF' (Cod.enc_closed c x y (List.mem_of_getElem? hy))
  · have := r.2 hno
    subst this
    exact .rs (cv := fun _ _ => undef) (Nat.le_refl _) (fun i x hx => by simp at hx) (fun i x j y hx => by simp at hx)

theorem snapF_jk (hH : RelH X h w) {b c2 c : Nat} {LL : List (List (Uni.val c))} {f : List (Uni.val c) → Uni.val c2} {u : Value} (hft : ∀ k q, foot X h b k q → Y.F k q) (hF' : ∀ k q, X.F k q → Y.F k q) (r : RepC X h w (.jk b .whole) u) (hb : h[b]? = some (.bg c2 c LL none)) (hf : Cod.nest c2 c = some f) : RepC Y i w (.rs c2 (LL.map f)) u := by
  obtain ⟨hlt, hj⟩ := repC_jk r hb
  rcases hj with ⟨ho, cap, rfl, hcap⟩ | ⟨hno, _, a, rfl⟩
  · obtain ⟨carr, el, ⟨fz, hw, hfz⟩, hsz, hrow, _⟩ := (hH.blk b _ hb).1 ho
    have hlen : (LL.map (·.length)).length + (none : Option Nat).isSome.toNat = (LL.map f).length := by simp
    rw [hlen] at hcap ⊢
    refine .rs (cv := fun i j => (carr[(X.ρ b).2 + (i * Uni.sz c2 + j)]?).getD undef) hcap.1 (fun i x hx => ⟨(X.ρ b).1, (X.ρ b).2 + 0, rfl, fun j hj => ?_⟩) (fun i x j y hx hy => ?_)
    all_goals
      rw [List.getElem?_map] at hx
      obtain ⟨L, hL, rfl⟩ := Option.map_eq_some_iff.mp hx
      have hn := Cod.nest_ok c2 c f hf L
      have h1 : Uni.sz c2 = 1 := by rw [← Cod.enc_len c2 (f L), hn]; rfl
      obtain ⟨r1, v, hv, r2⟩ := hrow i L hL
    · have hj0 : j = 0 := by omega
      subst hj0
      refine ⟨hft _ _ (by unfold foot; rw [hb]; exact ⟨ho, .inl rfl⟩), ?_⟩
      rw [cell_of_heap hw, Nat.add_zero, Nat.add_zero, h1, Nat.mul_one, Nat.add_zero, hv]; rfl
    · rw [hn] at hy
      have hj0 : j = 0 := by have := lt_of_list hy; simpa using this
      subst hj0
      simp at hy; subst hy
      rw [h1, Nat.mul_one, Nat.add_zero, hv]
      exact rowAt_rsF (fun ho2 q => hft _ _ (by unfold foot; rw [hb]; exact ⟨ho, .inr ⟨i, lt_of_list hL, ho2, rfl⟩⟩)) hF' r1 r2
  · have := ((hH.blk b _ hb).2 hno).1
    subst this
    exact .rs (L := []) (cv := fun _ _ => undef) (Nat.le_refl _) (fun i x hx => by simp at hx) (fun i x j y hx => by simp at hx)

theorem snapF_ok (hH : RelH X h w) {M : List Nat} (hF : ∀ k q, (X.frz h M).F k q → Y.F k q) {x : Cl} {u : Value} (hM : ∀ b ∈ rowsC x, b ∈ M) (r : RepC X h w x u) : RepC Y i w (snap h x) u := by
  have top : RepC Y i w .top u := .top r.one
  have hF' : ∀ k q, X.F k q → Y.F k q := fun k q f => hF k q (.inl f)
  unfold snap
  split
  · rename_i b
    have hbM := hM b (by simp [rowsC])
    split
    · rename_i c L hL
      cases r with
      | slw hlt h1 _ =>
        rcases h1 c L hL with ⟨ho, cap, rfl, hcap, hroom⟩ | ⟨hno, a, rfl⟩
        · obtain ⟨carr, el, ⟨fz, hw, hfz⟩, hsz, hcell⟩ := (hH.blk b _ hL).1 ho
          refine .rs (cv := fun i j => (carr[(X.ρ b).2 + (i * Uni.sz c + j)]?).getD undef) hcap.1 (fun i x hx => ⟨(X.ρ b).1, (X.ρ b).2 + 0, rfl, fun j hj => ?_⟩) (fun i x j y hx hy => ?_)
          · obtain ⟨v, hv, _⟩ := hcell i x j ((Cod.enc c x)[j]'(by rw [Cod.enc_len]; exact hj)) hx (List.getElem?_eq_getElem _)
            refine ⟨hF _ _ (.inr ⟨b, hbM, by unfold foot; rw [hL]; exact ⟨ho, rfl⟩⟩), ?_⟩
            rw [cell_of_heap hw, Nat.add_zero, Nat.add_assoc]
            simp [hv]
          · obtain ⟨v, hv, rv⟩ := hcell i x j y hx hy
            rw [hv]
            exact rv.move hF' (Cod.enc_closed c x y (List.mem_of_getElem? hy))
        · have := (hH.blk b _ hL).2 hno
          subst this
          exact .rs (cv := fun _ _ => undef) (Nat.le_refl _) (fun i x hx => by simp at hx) (fun i x j y hx => by simp at hx)
    · exact top
  · rename_i b q n cc
    have hbM := hM b (by simp [rowsC])
    split
    · rename_i c l hl
      split
      · rename_i L hL
        obtain ⟨hlen, henc⟩ := decN_ok hL
        cases r with
        | sl hlt hn =>
          obtain ⟨carr, el, ⟨fz, hw, hfz⟩, hsz, hcell⟩ := hH.blk b _ hl
          rw [← hlen]
          have cellAt : ∀ i x j y, L[i]? = some x → (Cod.enc c x)[j]? = some y → ∃ v, q + i * Uni.sz c + j < l.length ∧ carr[(X.ρ b).2 + q + i * Uni.sz c + j]? = some v ∧ RepC X h w y v := by
            intro i x j y hx hy
            rw [henc i x hx] at hy
            simp only [slice, List.getElem?_take, List.getElem?_drop] at hy
            split at hy
            · obtain ⟨v, hv, rv⟩ := hcell _ y hy
              exact ⟨v, lt_of_list hy, by rw [← hv]; congr 1; omega, rv⟩
            · simp at hy
          refine .rs (cv := fun i j => (carr[(X.ρ b).2 + q + i * Uni.sz c + j]?).getD undef) (by omega) (fun i x hx => ⟨(X.ρ b).1, (X.ρ b).2 + q, rfl, fun j hj => ?_⟩) (fun i x j y hx hy => ?_)
          · obtain ⟨v, hlt', hv, _⟩ := cellAt i x j ((Cod.enc c x)[j]'(by rw [Cod.enc_len]; exact hj)) hx (List.getElem?_eq_getElem _)
            refine ⟨hF _ _ (.inr ⟨b, hbM, by unfold foot; rw [hl]; exact ⟨rfl, by omega, by omega⟩⟩), ?_⟩
            rw [cell_of_heap hw, hv]; rfl
          · obtain ⟨v, _, hv, rv⟩ := cellAt i x j y hx hy
            rw [hv]
            exact rv.move hF' (Cod.enc_closed c x y (List.mem_of_getElem? hy))
      · exact top
    · exact top
  · exact top
  · exact top
  · exact top
  · exact r.move hF' rfl
  · rename_i b m
    split
    · rename_i c2 c LL hb
      split
      · rename_i f hf
        exact snapF_jk hH (fun k q hf => hF k q (.inr ⟨b, hM b (by simp [rowsC]), hf⟩)) hF' r hb hf
      · exact top
    · exact top
  · split
    · exact r.move hF' rfl
    · exact top
  all_goals first | exact r.move hF' rfl | exact r.rn_rs.move hF' rfl

theorem snapVF_ok (hH : RelH X h w) {M : List Nat} (hF : ∀ k q, (X.frz h M).F k q → Y.F k q) {x : AV} {u : Value} (hM : ∀ b ∈ rowsV x, b ∈ M) (r : RepV X h w x u) : RepV Y i w (snapV h x) u := by
  cases x with
  | top => trivial
  | c y => exact snapF_ok hH hF hM r
  | agg l =>
    obtain ⟨vs, hu, r⟩ := r
    refine ⟨vs, hu, ?_⟩
    refine All2.map (All2.of_get r.len fun k a b ha hb => ?_)
    obtain ⟨b', hb', ru⟩ := r.get ha
    rw [hb] at hb'; simp at hb'; subst hb'
    exact snapF_ok hH hF (fun b' hb' => hM b' (by simp only [rowsV, List.mem_flatMap]; exact ⟨a, List.mem_of_getElem? ha, hb'⟩)) ru
  | tup l => trivial

theorem Good.kill (hH : RelH X h w) (M : List Nat) : Good X h w (X.frz h M) (killB h M) w := by
  have m : Mono X h (X.frz h M) (killB h M) := by
    refine ⟨by rw [killB_len]; exact Nat.le_refl _, fun _ _ => rfl, fun _ _ => Iff.rfl, fun _ _ f => .inl f, fun b c L' hb hL => ?_, Mono.bgOf (fun _ _ => rfl) (fun _ _ => Iff.rfl) (fun _ _ => rfl) (fun b c2 c LL' p' hb hL => ?_)⟩
    · rcases killB_get hL with h1 | ⟨_, h1⟩
      · cases h1
      · exact ⟨L', h1, rfl⟩
    · rcases killB_get hL with h1 | ⟨_, h1⟩
      · cases h1
      · exact ⟨LL', p', h1, rfl, rfl⟩
  have key : ∀ b k q, foot (X.frz h M) (killB h M) b k q → foot X h b k q ∧ b ∉ M := by
    intro b k q hf
    unfold foot at hf
    split at hf
    · rename_i l hl
      rcases killB_get hl with h1 | ⟨h1, h2⟩
      · cases h1
      · refine ⟨?_, h1⟩
        unfold foot; rw [h2]; exact hf
    · rename_i c L hl
      rcases killB_get hl with h1 | ⟨h1, h2⟩
      · cases h1
      · refine ⟨?_, h1⟩
        unfold foot; rw [h2]; exact hf
    · rename_i c2 c LL p hl
      rcases killB_get hl with h1 | ⟨h1, h2⟩
      · cases h1
      · refine ⟨?_, h1⟩
        unfold foot; rw [h2]; exact hf
    · rename_i c cap LL hl
      rcases killB_get hl with h1 | ⟨h1, h2⟩
      · cases h1
      · refine ⟨?_, h1⟩
        unfold foot; rw [h2]; exact hf
    · exact hf.elim
  refine ⟨⟨fun b bl hb => ?_, fun b b' k q hf hf' => hH.disj b b' k q (key _ _ _ hf).1 (key _ _ _ hf').1, fun b k q hf hF => ?_, fun k q hf => ?_⟩, m, Ext.refl _ w, fun k q hf => ?_, fun b k q hf => .inr ⟨b, (key _ _ _ hf).1⟩⟩
  · rcases killB_get hb with h1 | ⟨_, h1⟩
    · subst h1; trivial
    · exact (hH.blk b bl h1).keep h1 m (Ext.refl _ w) (fun _ _ _ => rfl) rfl (fun _ _ => sameMk.refl _)
  · obtain ⟨h1, h2⟩ := key _ _ _ hf
    rcases hF with h3 | ⟨b', h3, h4⟩
    · exact hH.free b k q h1 h3
    · have := hH.disj b b' k q h1 h4
      subst this
      exact h2 h3
  · rcases hf with h1 | ⟨b, _, h1⟩
    · exact hH.fsz k q h1
    · exact foot_lt hH h1
  · rcases hf with h1 | ⟨b, _, h1⟩
    · exact .inl h1
    · exact .inr (.inr ⟨b, h1⟩)

theorem frzH_len (h : List Blk) (M : List Nat) : (frzH h M).length = h.length := by
  unfold frzH; split <;> simp [killB_len]

theorem Good.freeze (hH : RelH X h w) (M : List Nat) : Good X h w (X.frz h M) (frzH h M) w := by
  cases M with
  | nil => exact Good.kill hH []
  | cons b0 M =>
  have gk := Good.kill hH (b0 :: M)
  have hget : ∀ (b : Nat) (bl : Blk), (frzH h (b0 :: M))[b]? = some bl → ∃ b1 : Blk, (killB h (b0 :: M))[b]? = some b1 ∧ bl = reB h (b0 :: M) b1 := by
    intro b bl hb
    unfold frzH at hb
    rw [List.getElem?_map] at hb
    obtain ⟨b1, h1, h2⟩ := Option.map_eq_some_iff.mp hb
    exact ⟨b1, h1, h2.symm⟩
  have m : Mono X h (X.frz h (b0 :: M)) (frzH h (b0 :: M)) := by
    refine ⟨by rw [frzH_len]; exact Nat.le_refl _, fun _ _ => rfl, fun _ _ => Iff.rfl, fun _ _ f => .inl f, fun b c L' hb hL => ?_, Mono.bgOf (fun _ _ => rfl) (fun _ _ => Iff.rfl) (fun _ _ => rfl) (fun b c2 c LL' p' hb hL => ?_)⟩
    · obtain ⟨b1, h1, h2⟩ := hget b _ hL
      cases b1 with
      | row c1 L1 => simp [reB] at h2; obtain ⟨rfl, h2⟩ := h2; simp at h2; subst h2; exact gk.mono.row b _ _ hb h1
      | _ => simp [reB] at h2
    · obtain ⟨b1, h1, h2⟩ := hget b _ hL
      cases b1 with
      | bg c1 c3 L1 p1 =>
        have h2 : Blk.bg c2 c LL' p' = .bg c1 c3 L1 p1 := h2
        rw [← h2] at h1
        rcases killB_get h1 with h3 | ⟨_, h3⟩
        · cases h3
        · exact ⟨LL', p', h3, rfl, rfl⟩
      | _ => simp [reB] at h2
  have key : ∀ b k q, foot (X.frz h (b0 :: M)) (frzH h (b0 :: M)) b k q → foot (X.frz h (b0 :: M)) (killB h (b0 :: M)) b k q := by
    intro b k q hf
    unfold foot at hf ⊢
    split at hf
    · rename_i l hl
      obtain ⟨b1, h1, h2⟩ := hget b _ hl
      rw [h1]
      cases b1 with
      | cells l1 => simp [reB] at h2; subst h2; simpa using hf
      | _ => simp [reB] at h2
    · rename_i c L hl
      obtain ⟨b1, h1, h2⟩ := hget b _ hl
      rw [h1]
      cases b1 with
      | row c1 L1 => simp [reB] at h2; obtain ⟨rfl, h2⟩ := h2; exact hf
      | _ => simp [reB] at h2
    · rename_i c2 c LL p hl
      obtain ⟨b1, h1, h2⟩ := hget b _ hl
      rw [h1]
      cases b1 with
      | bg c1 c3 L1 p1 =>
        have h2 : Blk.bg c2 c LL p = .bg c1 c3 L1 p1 := h2
        rw [← h2]
        exact hf
      | _ => simp [reB] at h2
    · rename_i c cap LL hl
      obtain ⟨b1, h1, h2⟩ := hget b _ hl
      rw [h1]
      cases b1 with
      | chn c1 cap1 L1 =>
        simp only [reB, Blk.chn.injEq] at h2
        obtain ⟨rfl, rfl, h2⟩ := h2
        have h2 := eq_of_heq h2
        subst h2
        exact hf
      | _ => simp [reB] at h2
    · exact hf.elim
  refine ⟨⟨fun b bl hb => ?_, fun b b' k q hf hf' => gk.rel.disj b b' k q (key _ _ _ hf) (key _ _ _ hf'), fun b k q hf => gk.rel.free b k q (key _ _ _ hf), gk.rel.fsz⟩, m, Ext.refl _ w, gk.fnew, fun b k q hf => gk.ffoot b k q (key _ _ _ hf)⟩
  obtain ⟨b1, h1, h2⟩ := hget b _ hb
  rcases killB_get h1 with h3 | ⟨_, h3⟩
  · subst h3; subst h2; trivial
  · cases b1 with
    | cells l =>
      subst h2
      obtain ⟨carr, el, ⟨fz, hw, hfz⟩, hsz, hcell⟩ := hH.blk b _ h3
      refine ⟨carr, el, ⟨fz, hw, hfz⟩, by rw [List.length_map]; exact hsz, fun i x hx => ?_⟩
      rw [List.getElem?_map] at hx
      obtain ⟨y, hy, rfl⟩ := Option.map_eq_some_iff.mp hx
      obtain ⟨v, hv, rv⟩ := hcell i y hy
      refine ⟨v, hv, ?_⟩
      unfold snapM
      split
      · rename_i b2
        split
        · rename_i hany
          refine snapF_ok hH (fun _ _ f => f) (fun b3 hb3 => ?_) rv
          simp [rowsC] at hb3; subst hb3
          rw [List.any_eq_true] at hany
          obtain ⟨z, hz, hzb⟩ := hany
          simp only [Nat.beq_eq] at hzb
          rw [hzb]; exact hz
        · exact rv.mono m (Ext.refl _ w)
      · exact rv.mono m (Ext.refl _ w)
    | _ => subst h2; exact (hH.blk b _ h3).keep h3 m (Ext.refl _ w) (fun _ _ _ => rfl) rfl (fun _ _ => sameMk.refl _)


/-- The context in which a row has become a slice of slices' own. -/
def Cx.abs (X : Cx) (b r n : Nat) : Cx := { X with sub := fun b' => if b' = b then (fun i => if i = n then (X.ρ r, X.own r) else X.sub b i) else X.sub b' }

theorem Good.absB (hH : RelH X h w) {b r c2 c : Nat} {LL : List (List (Uni.val c))} {L : List (Uni.val c)} (hb : h[b]? = some (.bg c2 c LL (some r))) (hr : h[r]? = some (.row c L)) :
    Good X h w (X.abs b r LL.length) ((h.set r .dead).set b (.bg c2 c (LL ++ [L]) none)) w := by
  have hbl := lt_of_list hb
  have hrl := lt_of_list hr
  have hbr : b ≠ r := fun hh => by subst hh; rw [hb] at hr; cases hr
  obtain ⟨hbo, hbn⟩ := hH.blk b _ hb
  have hown : X.own b := by
    by_cases ho : X.own b
    · exact ho
    · have := (hbn ho).2; cases this
  obtain ⟨carr, el, hw0, h2, h3, h4, h5, h6⟩ := hbo hown
  obtain ⟨u, hu0, hu⟩ := h6 r rfl
  have get_b : ((h.set r .dead).set b (.bg c2 c (LL ++ [L]) none))[b]? = some (.bg c2 c (LL ++ [L]) none) := by simp [hbl]
  have get_r : ((h.set r .dead).set b (.bg c2 c (LL ++ [L]) none))[r]? = some .dead := by simp [List.getElem?_set, hbr, hrl]
  have get_o : ∀ b', b' ≠ b → b' ≠ r → ((h.set r .dead).set b (.bg c2 c (LL ++ [L]) none))[b']? = h[b']? := fun b' e1 e2 => by
    simp [List.getElem?_set, Ne.symm e1, Ne.symm e2]
  have m : Mono X h (X.abs b r LL.length) ((h.set r .dead).set b (.bg c2 c (LL ++ [L]) none)) := by
    refine ⟨by simp, fun _ _ => rfl, fun _ _ => Iff.rfl, fun _ _ f => f, fun b' c' L' hb' hL => ?_, fun b' c2' c' LL' p' hb' hL => ?_⟩
    · by_cases e1 : b' = b
      · subst e1; rw [get_b] at hL; cases hL
      · by_cases e2 : b' = r
        · subst e2; rw [get_r] at hL; cases hL
        · rw [get_o b' e1 e2] at hL; exact ⟨L', hL, rfl⟩
    · by_cases e1 : b' = b
      · subst e1
        rw [get_b] at hL
        cases hL
        refine ⟨LL, some r, hb, fun v m hj => ?_⟩
        have ha : ∀ o, (X.abs b' r LL.length).addr b' o = X.addr b' o := fun _ => rfl
        cases m with
        | whole =>
          rcases hj with ⟨ho, cap, hv, hc⟩ | ⟨_, hf, _⟩
          · exact .inl ⟨ho, cap, by rw [hv, ha]; simp, by simpa using hc⟩
          · cases hf
        | hdr k => exact ⟨hj.1, by rw [ha]; exact hj.2⟩
        | row k =>
          obtain ⟨n, hn, hj⟩ := hj
          have hk := lt_of_list hn
          simp only [List.length_map] at hk
          have hs : (X.abs b' r LL.length).sub b' k = X.sub b' k := by simp [Cx.abs, show k ≠ LL.length by omega]
          refine ⟨n, by rw [List.map_append, List.getElem?_append_left (by simpa using hk)]; exact hn, ?_⟩
          rw [hs]; exact hj
        | byte k j =>
          obtain ⟨hk, hj⟩ := hj
          have hk' := hk
          simp only [List.length_map] at hk'
          have hs : (X.abs b' r LL.length).sub b' k = X.sub b' k := by simp [Cx.abs, show k ≠ LL.length by omega]
          refine ⟨by simp; omega, ?_⟩
          rw [hs]; exact hj
      · by_cases e2 : b' = r
        · subst e2; rw [get_r] at hL; cases hL
        · rw [get_o b' e1 e2] at hL
          exact ⟨LL', p', hL, fun v m hj => JVal.congr (X := X) (Y := X.abs b r LL.length) (b := b') (j := b') rfl Iff.rfl (by simp [Cx.abs, e1]) hj⟩
  have key : ∀ b' k q, foot (X.abs b r LL.length) ((h.set r .dead).set b (.bg c2 c (LL ++ [L]) none)) b' k q → (foot X h b' k q ∧ b' ≠ r) ∨ (b' = b ∧ foot X h r k q) := by
    intro b' k q hf
    by_cases e1 : b' = b
    · subst e1
      unfold foot at hf
      rw [get_b] at hf
      simp only [Cx.abs, if_true] at hf
      obtain ⟨_, hf⟩ := hf
      rcases hf with hf | ⟨i2, hi, ho, hk⟩
      · exact .inl ⟨by unfold foot; rw [hb]; exact ⟨hown, .inl hf⟩, hbr⟩
      · by_cases hin : i2 = LL.length
        · subst hin
          simp only [if_true] at ho hk
          exact .inr ⟨rfl, by unfold foot; rw [hr]; exact ⟨ho, hk⟩⟩
        · simp only [hin, if_false] at ho hk
          refine .inl ⟨?_, hbr⟩
          unfold foot; rw [hb]
          refine ⟨hown, .inr ⟨i2, ?_, ho, hk⟩⟩
          simp at hi; omega
    · by_cases e2 : b' = r
      · subst e2
        unfold foot at hf
        rw [get_r] at hf
        exact hf.elim
      · refine .inl ⟨?_, e2⟩
        unfold foot at hf ⊢
        rw [get_o b' e1 e2] at hf
        simp only [Cx.abs, if_neg e1] at hf
        exact hf
  have hRr := hH.blk r _ hr
  have ex := Ext.refl X.F w
  have fb : ∀ q, foot X h b (X.ρ b).1 q := fun q => by unfold foot; rw [hb]; exact ⟨hown, .inl rfl⟩
  have clash : ∀ i2, i2 < LL.length → (X.sub b i2).2 → X.own r → (X.sub b i2).1.1 = (X.ρ r).1 → False := fun i2 hi ho hor hk => by
    have f1 : foot X h b (X.ρ r).1 0 := by unfold foot; rw [hb]; exact ⟨hown, .inr ⟨i2, hi, ho, hk.symm⟩⟩
    have f2 : foot X h r (X.ρ r).1 0 := by unfold foot; rw [hr]; exact ⟨hor, rfl⟩
    exact hbr (hH.disj _ _ _ _ f1 f2)
  refine ⟨⟨fun b' bl hbl' => ?_, fun b1 b2 k q hf1 hf2 => ?_, fun b' k q hf => ?_, hH.fsz⟩, m, Ext.refl _ w, fun k q hf => .inl hf, fun b' k q hf => ?_⟩
  · by_cases e1 : b' = b
    · subst e1
      rw [get_b] at hbl'
      simp only [Option.some.injEq] at hbl'
      subst hbl'
      refine ⟨fun _ => ⟨carr, el, hw0, by show (X.ρ b').2 + _ ≤ _; simpa using h2, fun i2 M hM => ?_, fun i2 j2 hi hj hoi hoj hk => ?_, fun i2 hi hoi hk => ?_, fun r' hr' => by cases hr'⟩, fun hno => absurd hown hno⟩
      · by_cases hin : i2 = LL.length
        · subst hin
          have hML : M = L := by simpa using hM.symm
          subst hML
          simp only [Cx.abs, if_true]
          refine ⟨RowAt.keep (p := (X.ρ r, X.own r)) hRr m ex (fun _ o => rfl), u, hu0, ?_⟩
          cases hu with
          | slw hlt q1 _ =>
            rcases q1 c M hr with ⟨ho, cap2, hv, hc, hro⟩ | ⟨ho, a, hv⟩
            · exact .inl ⟨ho, cap2, by rw [hv]; simp [Cx.addr], hc, hro⟩
            · have hM0 := hRr.2 ho
              subst hM0
              exact .inr ⟨ho, a, hv⟩
        · have hi2 : i2 < LL.length := by have := lt_of_list hM; simp at this; omega
          have hM' : LL[i2]? = some M := by rw [List.getElem?_append_left hi2] at hM; exact hM
          obtain ⟨q1, uu, q2, q3⟩ := h3 i2 M hM'
          simp only [Cx.abs, if_true, hin, if_false]
          exact ⟨q1.keep m ex (fun _ o => rfl), uu, q2, q3⟩
      · simp at hi hj
        simp only [Cx.abs, if_true] at hoi hoj hk
        by_cases hin : i2 = LL.length <;> by_cases hjn : j2 = LL.length
        · omega
        · subst hin
          simp only [if_true, hjn, if_false] at hoi hoj hk
          exact absurd hk.symm (fun hh => clash j2 (by omega) hoj hoi hh)
        · subst hjn
          simp only [if_true, hin, if_false] at hoi hoj hk
          exact absurd hk (fun hh => clash i2 (by omega) hoi hoj hh)
        · simp only [hin, hjn, if_false] at hoi hoj hk
          exact h4 i2 j2 (by omega) (by omega) hoi hoj hk
      · simp at hi
        simp only [Cx.abs, if_true] at hoi hk
        by_cases hin : i2 = LL.length
        · subst hin
          simp only [if_true] at hoi hk
          have f2 : foot X h r (X.ρ b').1 0 := by unfold foot; rw [hr]; exact ⟨hoi, hk.symm⟩
          exact hbr (hH.disj _ _ _ _ (fb 0) f2)
        · simp only [hin, if_false] at hoi hk
          exact h5 i2 (by omega) hoi hk
    · by_cases e2 : b' = r
      · subst e2
        rw [get_r] at hbl'
        simp only [Option.some.injEq] at hbl'
        subst hbl'
        trivial
      · rw [get_o b' e1 e2] at hbl'
        exact (hH.blk b' bl hbl').keep hbl' m ex (fun k q _ => rfl) (by simp [Cx.abs, e1]) (fun k hk => sameMk.refl _)
  · rcases key b1 k q hf1 with ⟨g1, n1⟩ | ⟨rfl, g1⟩ <;> rcases key b2 k q hf2 with ⟨g2, n2⟩ | ⟨rfl, g2⟩
    · exact hH.disj _ _ _ _ g1 g2
    · exact absurd (hH.disj _ _ _ _ g1 g2) n1
    · exact absurd (hH.disj _ _ _ _ g2 g1) n2
    · rfl
  · rcases key b' k q hf with ⟨g1, n1⟩ | ⟨rfl, g1⟩
    · exact hH.free _ _ _ g1
    · exact hH.free _ _ _ g1
  · rcases key b' k q hf with ⟨g1, n1⟩ | ⟨rfl, g1⟩
    · exact .inr ⟨_, g1⟩
    · exact .inr ⟨_, g1⟩

theorem Good.absH (hH : RelH X h w) : ∃ X', Good X h w X' (absH h) w := by
  unfold Ab.absH
  split
  · rename_i b _
    split
    · rename_i c2 c LL r hb
      split
      · rename_i c' L hr
        split
        · rename_i L2 hc
          obtain ⟨rfl, hL⟩ := castL_ok hc
          simp only at hL; subst hL
          exact ⟨_, Good.absB hH hb hr⟩
        · exact ⟨_, Good.refl hH⟩
      · exact ⟨_, Good.refl hH⟩
    · exact ⟨_, Good.refl hH⟩
  · exact ⟨_, Good.refl hH⟩

end
end Ab
