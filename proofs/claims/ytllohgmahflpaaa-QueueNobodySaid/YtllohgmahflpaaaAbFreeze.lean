/- Blocks of the run's own that are never to be written again. -/
import Derived.Test.YtllohgmahflpaaaAbFunc
import Derived.Test.YtllohgmahflpaaaAbAppend
set_option linter.unusedSectionVars false
set_option linter.unusedSimpArgs false
set_option linter.unusedVariables false
namespace Ab
open Go
section
variable [Uni] [Cod]
variable {P : Program} {e : Env} {X Y : Cx} {h i : List Blk} {w w' : World} {o : Oper} {ρA : Operand → AV} {ρ : Operand → Value} {v : AV}

theorem killB_len : ∀ (M : List Nat) (h : List Blk), (killB h M).length = h.length
  | [], h => rfl
  | b :: r, h => by rw [killB, killB_len r]; simp

theorem killB_get : ∀ {M : List Nat} {h : List Blk} {b : Nat} {bl : Blk}, (killB h M)[b]? = some bl → bl = .dead ∨ (b ∉ M ∧ h[b]? = some bl)
  | [], h, b, bl, hb => .inr ⟨by simp, hb⟩
  | x :: r, h, b, bl, hb => by
    rw [killB] at hb
    rcases killB_get hb with h1 | ⟨h1, h2⟩
    · exact .inl h1
    · rw [List.getElem?_set] at h2
      split at h2
      · split at h2
        · simp at h2; exact .inl h2.symm
        · simp at h2
      · rename_i hne
        exact .inr ⟨by simp; exact ⟨fun hh => hne hh.symm, h1⟩, h2⟩

/-- The context in which some blocks are never to be written again. -/
def Cx.frz (X : Cx) (h : List Blk) (M : List Nat) : Cx := { ρ := X.ρ, own := X.own, F := fun k q => X.F k q ∨ ∃ b, b ∈ M ∧ foot X h b k q, sub := X.sub }

theorem snapF_ok (hH : RelH X h w) {M : List Nat} (hF : ∀ k q, (X.frz h M).F k q → Y.F k q) {x : Cl} {u : Value} (hM : ∀ b ∈ rowsC x, b ∈ M) (r : RepC X h w x u) : RepC Y i w (snap h x) u := by
  have top : RepC Y i w .top u := .top r.one
  have hF' : ∀ k q, X.F k q → Y.F k q := fun k q f => hF k q (.inl f)
  unfold snap
  split
  · rename_i b
    have hbM := hM b (by simp [rowsC])
    split
    · rename_i c L hL
      cases r with
      | slw hlt h1 _ =>
        rcases h1 c L hL with ⟨ho, cap, rfl, hcap, hroom⟩ | ⟨hno, a, rfl⟩
        · obtain ⟨carr, el, ⟨fz, hw, hfz⟩, hsz, hcell⟩ := (hH.blk b _ hL).1 ho
          refine .rs (cv := fun i j => (carr[(X.ρ b).2 + (i * Uni.sz c + j)]?).getD undef) hcap.1 (fun i x hx => ⟨(X.ρ b).1, (X.ρ b).2 + 0, rfl, fun j hj => ?_⟩) (fun i x j y hx hy => ?_)
          · obtain ⟨v, hv, _⟩ := hcell i x j ((Cod.enc c x)[j]'(by rw [Cod.enc_len]; exact hj)) hx (List.getElem?_eq_getElem _)
            refine ⟨hF _ _ (.inr ⟨b, hbM, by unfold foot; rw [hL]; exact ⟨ho, rfl⟩⟩), ?_⟩
            rw [cell_of_heap hw, Nat.add_zero, Nat.add_assoc]
            simp [hv]
          · obtain ⟨v, hv, rv⟩ := hcell i x j y hx hy
            rw [hv]
            exact rv.move hF' (Cod.enc_closed c x y (List.mem_of_getElem? hy))
        · have := (hH.blk b _ hL).2 hno
          subst this
          exact .rs (cv := fun _ _ => undef) (Nat.le_refl _) (fun i x hx => by simp at hx) (fun i x j y hx => by simp at hx)
    · exact top
  · rename_i b q n cc
    have hbM := hM b (by simp [rowsC])
    split
    · rename_i c l hl
      split
      · rename_i L hL
        obtain ⟨hlen, henc⟩ := decN_ok hL
        cases r with
        | sl hlt hn =>
          obtain ⟨carr, el, ⟨fz, hw, hfz⟩, hsz, hcell⟩ := hH.blk b _ hl
          rw [← hlen]
          have cellAt : ∀ i x j y, L[i]? = some x → (Cod.enc c x)[j]? = some y → ∃ v, q + i * Uni.sz c + j < l.length ∧ carr[(X.ρ b).2 + q + i * Uni.sz c + j]? = some v ∧ RepC X h w y v := by
            intro i x j y hx hy
            rw [henc i x hx] at hy
            simp only [slice, List.getElem?_take, List.getElem?_drop] at hy
            split at hy
            · obtain ⟨v, hv, rv⟩ := hcell _ y hy
              exact ⟨v, lt_of_list hy, by rw [← hv]; congr 1; omega, rv⟩
            · simp at hy
          refine .rs (cv := fun i j => (carr[(X.ρ b).2 + q + i * Uni.sz c + j]?).getD undef) (by omega) (fun i x hx => ⟨(X.ρ b).1, (X.ρ b).2 + q, rfl, fun j hj => ?_⟩) (fun i x j y hx hy => ?_)
          · obtain ⟨v, hlt', hv, _⟩ := cellAt i x j ((Cod.enc c x)[j]'(by rw [Cod.enc_len]; exact hj)) hx (List.getElem?_eq_getElem _)
            refine ⟨hF _ _ (.inr ⟨b, hbM, by unfold foot; rw [hl]; exact ⟨rfl, by omega, by omega⟩⟩), ?_⟩
            rw [cell_of_heap hw, hv]; rfl
          · obtain ⟨v, _, hv, rv⟩ := cellAt i x j y hx hy
            rw [hv]
            exact rv.move hF' (Cod.enc_closed c x y (List.mem_of_getElem? hy))
      · exact top
    · exact top
  · exact top
  · exact top
  · exact top
  · exact r.move hF' rfl
  · split
    · exact r.move hF' rfl
    · exact top
  all_goals first | exact r.move hF' rfl | exact r.rn_rs.move hF' rfl

theorem snapVF_ok (hH : RelH X h w) {M : List Nat} (hF : ∀ k q, (X.frz h M).F k q → Y.F k q) {x : AV} {u : Value} (hM : ∀ b ∈ rowsV x, b ∈ M) (r : RepV X h w x u) : RepV Y i w (snapV h x) u := by
  cases x with
  | top => trivial
  | c y => exact snapF_ok hH hF hM r
  | agg l =>
    obtain ⟨vs, hu, r⟩ := r
    refine ⟨vs, hu, ?_⟩
    refine All2.map (All2.of_get r.len fun k a b ha hb => ?_)
    obtain ⟨b', hb', ru⟩ := r.get ha
    rw [hb] at hb'; simp at hb'; subst hb'
    exact snapF_ok hH hF (fun b' hb' => hM b' (by simp only [rowsV, List.mem_flatMap]; exact ⟨a, List.mem_of_getElem? ha, hb'⟩)) ru
  | tup l => trivial

theorem Good.kill (hH : RelH X h w) (M : List Nat) : Good X h w (X.frz h M) (killB h M) w := by
  have m : Mono X h (X.frz h M) (killB h M) := by
    refine ⟨by rw [killB_len]; exact Nat.le_refl _, fun _ _ => rfl, fun _ _ => Iff.rfl, fun _ _ f => .inl f, fun b c L' hb hL => ?_⟩
    rcases killB_get hL with h1 | ⟨_, h1⟩
    · cases h1
    · exact ⟨L', h1, rfl⟩
  have key : ∀ b k q, foot (X.frz h M) (killB h M) b k q → foot X h b k q ∧ b ∉ M := by
    intro b k q hf
    unfold foot at hf
    split at hf
    · rename_i l hl
      rcases killB_get hl with h1 | ⟨h1, h2⟩
      · cases h1
      · refine ⟨?_, h1⟩
        unfold foot; rw [h2]; exact hf
    · rename_i c L hl
      rcases killB_get hl with h1 | ⟨h1, h2⟩
      · cases h1
      · refine ⟨?_, h1⟩
        unfold foot; rw [h2]; exact hf
    · rename_i c cap LL hl
      rcases killB_get hl with h1 | ⟨h1, h2⟩
      · cases h1
      · refine ⟨?_, h1⟩
        unfold foot; rw [h2]; exact hf
    · exact hf.elim
  refine ⟨⟨fun b bl hb => ?_, fun b b' k q hf hf' => hH.disj b b' k q (key _ _ _ hf).1 (key _ _ _ hf').1, fun b k q hf hF => ?_, fun k q hf => ?_⟩, m, Ext.refl _ w, fun k q hf => ?_, fun b k q hf => .inr ⟨b, (key _ _ _ hf).1⟩⟩
  · rcases killB_get hb with h1 | ⟨_, h1⟩
    · subst h1; trivial
    · exact (hH.blk b bl h1).keep h1 m (Ext.refl _ w) (fun _ _ _ => rfl) rfl (fun _ _ => sameMk.refl _)
  · obtain ⟨h1, h2⟩ := key _ _ _ hf
    rcases hF with h3 | ⟨b', h3, h4⟩
    · exact hH.free b k q h1 h3
    · have := hH.disj b b' k q h1 h4
      subst this
      exact h2 h3
  · rcases hf with h1 | ⟨b, _, h1⟩
    · exact hH.fsz k q h1
    · exact foot_lt hH h1
  · rcases hf with h1 | ⟨b, _, h1⟩
    · exact .inl h1
    · exact .inr (.inr ⟨b, h1⟩)

theorem frzH_len (h : List Blk) (M : List Nat) : (frzH h M).length = h.length := by
  unfold frzH; split <;> simp [killB_len]

theorem Good.freeze (hH : RelH X h w) (M : List Nat) : Good X h w (X.frz h M) (frzH h M) w := by
  cases M with
  | nil => exact Good.kill hH []
  | cons b0 M =>
  have gk := Good.kill hH (b0 :: M)
  have hget : ∀ (b : Nat) (bl : Blk), (frzH h (b0 :: M))[b]? = some bl → ∃ b1 : Blk, (killB h (b0 :: M))[b]? = some b1 ∧ bl = reB h (b0 :: M) b1 := by
    intro b bl hb
    unfold frzH at hb
    rw [List.getElem?_map] at hb
    obtain ⟨b1, h1, h2⟩ := Option.map_eq_some_iff.mp hb
    exact ⟨b1, h1, h2.symm⟩
  have m : Mono X h (X.frz h (b0 :: M)) (frzH h (b0 :: M)) := by
    refine ⟨by rw [frzH_len]; exact Nat.le_refl _, fun _ _ => rfl, fun _ _ => Iff.rfl, fun _ _ f => .inl f, fun b c L' hb hL => ?_⟩
    obtain ⟨b1, h1, h2⟩ := hget b _ hL
    cases b1 with
    | row c1 L1 => simp [reB] at h2; obtain ⟨rfl, h2⟩ := h2; simp at h2; subst h2; exact gk.mono.row b _ _ hb h1
    | _ => simp [reB] at h2
  have key : ∀ b k q, foot (X.frz h (b0 :: M)) (frzH h (b0 :: M)) b k q → foot (X.frz h (b0 :: M)) (killB h (b0 :: M)) b k q := by
    intro b k q hf
    unfold foot at hf ⊢
    split at hf
    · rename_i l hl
      obtain ⟨b1, h1, h2⟩ := hget b _ hl
      rw [h1]
      cases b1 with
      | cells l1 => simp [reB] at h2; subst h2; simpa using hf
      | _ => simp [reB] at h2
    · rename_i c L hl
      obtain ⟨b1, h1, h2⟩ := hget b _ hl
      rw [h1]
      cases b1 with
      | row c1 L1 => simp [reB] at h2; obtain ⟨rfl, h2⟩ := h2; exact hf
      | _ => simp [reB] at h2
    · rename_i c cap LL hl
      obtain ⟨b1, h1, h2⟩ := hget b _ hl
      rw [h1]
      cases b1 with
      | chn c1 cap1 L1 =>
        simp only [reB, Blk.chn.injEq] at h2
        obtain ⟨rfl, rfl, h2⟩ := h2
        have h2 := eq_of_heq h2
        subst h2
        exact hf
      | _ => simp [reB] at h2
    · exact hf.elim
  refine ⟨⟨fun b bl hb => ?_, fun b b' k q hf hf' => gk.rel.disj b b' k q (key _ _ _ hf) (key _ _ _ hf'), fun b k q hf => gk.rel.free b k q (key _ _ _ hf), gk.rel.fsz⟩, m, Ext.refl _ w, gk.fnew, fun b k q hf => gk.ffoot b k q (key _ _ _ hf)⟩
  obtain ⟨b1, h1, h2⟩ := hget b _ hb
  rcases killB_get h1 with h3 | ⟨_, h3⟩
  · subst h3; subst h2; trivial
  · cases b1 with
    | cells l =>
      subst h2
      obtain ⟨carr, el, ⟨fz, hw, hfz⟩, hsz, hcell⟩ := hH.blk b _ h3
      refine ⟨carr, el, ⟨fz, hw, hfz⟩, by rw [List.length_map]; exact hsz, fun i x hx => ?_⟩
      rw [List.getElem?_map] at hx
      obtain ⟨y, hy, rfl⟩ := Option.map_eq_some_iff.mp hx
      obtain ⟨v, hv, rv⟩ := hcell i y hy
      refine ⟨v, hv, ?_⟩
      unfold snapM
      split
      · rename_i b2
        split
        · rename_i hany
          refine snapF_ok hH (fun _ _ f => f) (fun b3 hb3 => ?_) rv
          simp [rowsC] at hb3; subst hb3
          rw [List.any_eq_true] at hany
          obtain ⟨z, hz, hzb⟩ := hany
          simp only [Nat.beq_eq] at hzb
          rw [hzb]; exact hz
        · exact rv.mono m (Ext.refl _ w)
      · exact rv.mono m (Ext.refl _ w)
    | _ => subst h2; exact (hH.blk b _ h3).keep h3 m (Ext.refl _ w) (fun _ _ _ => rfl) rfl (fun _ _ => sameMk.refl _)

end
end Ab
