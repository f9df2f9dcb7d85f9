/- slices.Delete, of a row of the run's own whose elements are slices. -/
import Derived.Test.YtllohgmahflpaaaAbSpec
import Derived.Test.YtllohgmahflpaaaAbBytes
import Derived.Shelf.SlicesE.Delete
set_option linter.unusedSectionVars false
set_option linter.unusedSimpArgs false
set_option linter.unusedVariables false
namespace Ab
open Go Go.Proofs Go.Shelf Go.Sort
section
variable [Uni] [Cod]
variable {P : Program} {e : Env} {X Y : Cx} {h i : List Blk} {w w' : World}

/-- A slice's three words. -/
abbrev Sl3 := Option Addr × Nat × Nat
def encSl (p : Sl3) : Value := .slice p.1 p.2.1 p.2.2
def unSl : Value → Sl3
  | .slice a n c => (a, n, c)
  | _ => (none, 0, 0)

def delS (c : Nat) : Spec := fun args h => match args, h with
  | [.c (.slw 0), .c (.int .i64 i), .c (.int .i64 j)], [.row c' L'] => match castL c c' L' with
    | some L => .br (decide (0 ≤ i) && decide (i ≤ j) && decide (j ≤ L.length) && Nat.blt 0 L.length) (.val (.c (.slw 1), [.dead, .row c (L.take i.toNat ++ L.drop j.toNat)])) .fail
    | none => .fail
  | _, _ => .fail

theorem putRow_obj {k q o : Nat} {carr : Array Value} {el : TypeId} {fz : Nat × Nat} (news : Array Sl3) (hw : w.heap[k]? = some (.cells carr el fz)) :
    (putRow encSl (Sort.ahead w q) k o news).heap[k]? = some (.cells (putCells encSl o news carr) el fz) := by
  show (w.heap.modify k _)[k]? = _
  rw [Array.getElem?_modify]
  simp [hw, onCells]
theorem putRow_oth {k q o : Nat} (news : Array Sl3) {k' : Nat} (hne : k' ≠ k) : (putRow encSl (Sort.ahead w q) k o news).heap[k']? = w.heap[k']? := by
  show (w.heap.modify k _)[k']? = _
  rw [Array.getElem?_modify, if_neg (fun hh => hne hh.symm)]
theorem putCells_get {news : Array Sl3} {carr : Array Value} {t o : Nat} {p : Sl3} (hp : news[t]? = some p) (hc : o + t < carr.size) : (putCells encSl o news carr)[o + t]? = some (encSl p) := by
  have ht : t < news.size := by
    rcases Nat.lt_or_ge t news.size with hh | hh
    · exact hh
    · rw [Array.getElem?_eq_none hh] at hp; cases hp
  unfold putCells
  rw [Array.getElem?_mapIdx, Array.getElem?_eq_getElem hc]
  simp only [Option.map_some]
  rw [if_pos (by omega), Nat.add_sub_cancel_left, getElem!_pos news t ht]
  rw [Array.getElem?_eq_getElem ht] at hp
  simp only [Option.some.injEq] at hp
  rw [hp]

theorem del_ok {ρ : Ren} {c : Nat} (lay : SlLaysE.n45 P ρ) (hz : Uni.sz c = 1) (hv0 : ∀ w, (zeroValue (ρ.t 23)).run P w = .ok (.slice none 0 0) w) (hi0 : (P.info? (ρ.t 23)).map (fun i => i.size) = some 1)
    (hsl : ∀ x : Uni.val c, ∃ c' L', Cod.enc c x = [.rs c' L'])
    (henter : ∀ args w, (callFunc (ρ.f 45) args).run P w = .ok (.enter (ρ.f 45) args) w) : SpecOk P (ρ.f 45) (delS c) := by
  obtain ⟨i0, hi, hi1⟩ := Option.map_eq_some_iff.mp hi0
  refine ⟨henter, fun X h w args cargs v h' hH ha hv => ?_⟩
  unfold delS at hv
  split at hv
  case h_2 => simp [Res.eval] at hv
  rename_i iI jI c' L'
  split at hv
  case h_2 => simp [Res.eval] at hv
  rename_i L hcast
  obtain ⟨hcc, hLL⟩ := castL_ok hcast
  subst hcc
  subst hLL
  rw [Res.eval_br] at hv
  cases hb : (decide (0 ≤ iI) && decide (iI ≤ jI) && decide (jI ≤ L'.length) && Nat.blt 0 L'.length) with
  | false => rw [hb] at hv; simp [Res.eval] at hv
  | true =>
  rw [hb] at hv
  simp only [cond_true, Res.eval, Option.some.injEq, Prod.mk.injEq] at hv
  obtain ⟨rfl, rfl⟩ := hv
  simp only [Bool.and_eq_true, decide_eq_true_eq] at hb
  obtain ⟨⟨⟨hb1, hb2⟩, hb3⟩, hb4⟩ := hb
  have hb4 : 0 < L'.length := Nat.le_of_ble_eq_true hb4
  obtain ⟨i, rfl⟩ : ∃ i : Nat, iI = i := ⟨iI.toNat, by omega⟩
  obtain ⟨j, rfl⟩ : ∃ j : Nat, jI = j := ⟨jI.toNat, by omega⟩
  simp only [Int.toNat_natCast]
  have hij : i ≤ j := by omega
  have hj : j ≤ L'.length := by omega
  cases ha with
  | @cons _ u0 _ us r0 ha =>
  cases ha with
  | @cons _ u1 _ us r1 ha =>
  cases ha with
  | @cons _ u2 _ us r2 ha =>
  cases ha
  have e1 : u1 = .int .i64 i := repC_int r1
  have e2 : u2 = .int .i64 j := repC_int r2
  subst e1; subst e2
  have r0 : RepC X [.row c' L'] w (.slw 0) u0 := r0
  cases r0 with
  | slw hlt h1 _ =>
  rcases h1 c' L' rfl with ⟨ho, cap, rfl, hcap, hroom⟩ | ⟨hno, a, rfl⟩
  case inr =>
    have := (hH.blk 0 _ rfl).2 hno
    rw [this] at hb4; simp at hb4
  obtain ⟨carr, el, ⟨fz, hw, hfz⟩, hsz, hcell⟩ := (hH.blk 0 _ rfl).1 ho
  obtain ⟨carr2, el2, fz2, hw2, hroom2⟩ := hroom
  rw [hw] at hw2
  simp only [Option.some.injEq, Obj.cells.injEq] at hw2
  obtain ⟨rfl, rfl, rfl⟩ := hw2
  rw [hz, Nat.mul_one] at hroom2
  rw [hz, Nat.mul_one] at hsz
  have haddr : X.addr 0 0 = ⟨(X.ρ 0).1, (X.ρ 0).2, none⟩ := by simp [Cx.addr]
  generalize hk : (X.ρ 0).1 = k at hw haddr
  generalize hoo : (X.ρ 0).2 = o at hroom2 hsz hcell haddr
  have cellsAt : ∀ (t : Nat) x, L'[t]? = some x → ∃ p, carr[o + t]? = some (encSl p) ∧ ∀ y, (Cod.enc c' x)[0]? = some y → RepC X [.row c' L'] w y (encSl p) := by
    intro t x hx
    obtain ⟨cc, LL, henc⟩ := hsl x
    obtain ⟨u, hu, ru⟩ := hcell t x 0 (.rs cc LL) hx (by rw [henc]; rfl)
    rw [hz, Nat.mul_one, Nat.add_zero] at hu
    have hp : ∃ p, u = encSl p := by
      cases ru with
      | @rs _ _ a cap cv _ _ _ => exact ⟨(a, _, cap), rfl⟩
    obtain ⟨p, rfl⟩ := hp
    refine ⟨p, hu, fun y hy => ?_⟩
    rw [henc] at hy
    simp at hy; subst hy
    exact ru
  obtain ⟨d, hd⟩ : ∃ d : Array Sl3, d = ((List.range L'.length).map fun t => unSl (carr[o + t]?.getD undef)).toArray := ⟨_, rfl⟩
  have hds : d.size = L'.length := by rw [hd]; simp
  have hdt : ∀ (t : Nat) p, t < L'.length → carr[o + t]? = some (encSl p) → d[t]? = some p := by
    intro t p ht hc
    rw [hd]
    simp [ht, hc, encSl, unSl]
  have hget : ∀ (t : Nat) (ht : t < L'.length), ∃ p, d[t]? = some p ∧ carr[o + t]? = some (encSl p) ∧ ∀ y, (Cod.enc c' L'[t])[0]? = some y → RepC X [.row c' L'] w y (encSl p) := by
    intro t ht
    obtain ⟨p, h1, h2⟩ := cellsAt t L'[t] (List.getElem?_eq_getElem ht)
    exact ⟨p, hdt t p ht h1, h1, h2⟩
  have hholds : Holds encSl w k o d := by
    intro t ht
    rw [hds] at ht
    obtain ⟨p, h1, h2, _⟩ := hget t ht
    refine ⟨?_, ?_⟩
    · rw [cell_of_heap hw, h2, getElem!_pos d t (by omega)]
      rw [Array.getElem?_eq_getElem (by omega)] at h1
      simp only [Option.some.injEq] at h1
      rw [h1]
    · unfold World.frozen?
      rw [hw]
      rcases hfz with rfl | rfl
      · simp
      · simp
        omega
  have call := AnyE.slices_Delete lay encSl (fun _ => rfl) (none, 0, 0) hv0 i0 hi hi1 k o cap i j d w hholds (by omega) (by omega) hij (by omega)
  rw [haddr, ← hds]
  refine call.mono ?_
  rintro en w3 ⟨rfl, q, rfl⟩
  have hnews : ((d.toList.take i ++ d.toList.drop j ++ List.replicate (j - i) ((none, 0, 0) : Sl3)).toArray).size = d.size := by
    simp
    omega
  have hnew : ∀ (t : Nat) x, (L'.take i ++ L'.drop j)[t]? = some x → ∃ p, ((d.toList.take i ++ d.toList.drop j ++ List.replicate (j - i) ((none, 0, 0) : Sl3)).toArray)[t]? = some p ∧ o + t < carr.size ∧ ∀ y, (Cod.enc c' x)[0]? = some y → RepC X [.row c' L'] w y (encSl p) := by
    intro t x hx
    have key : ∀ m : Nat, m < L'.length → L'[m]? = some x → ∃ p, d[m]? = some p ∧ ∀ y, (Cod.enc c' x)[0]? = some y → RepC X [.row c' L'] w y (encSl p) := by
      intro m hm hmx
      obtain ⟨p, h1, _, h3⟩ := hget m hm
      rw [List.getElem?_eq_getElem hm] at hmx
      simp only [Option.some.injEq] at hmx
      rw [hmx] at h3
      exact ⟨p, h1, h3⟩
    have hlt := lt_of_list hx
    simp only [List.length_append, List.length_take, List.length_drop] at hlt
    have htc : o + t < carr.size := by omega
    rcases Nat.lt_or_ge t i with hti | hti
    · rw [List.getElem?_append_left (by simp; omega), List.getElem?_take, if_pos hti] at hx
      obtain ⟨p, h1, h2⟩ := key t (lt_of_list hx) hx
      refine ⟨p, ?_, htc, h2⟩
      rw [List.getElem?_toArray, List.append_assoc, List.getElem?_append_left (by simp; omega), List.getElem?_take, if_pos hti, Array.getElem?_toList]
      exact h1
    · rw [List.getElem?_append_right (by simp; omega), List.getElem?_drop, List.length_take, Nat.min_eq_left (by omega)] at hx
      obtain ⟨p, h1, h2⟩ := key (j + (t - i)) (lt_of_list hx) hx
      refine ⟨p, ?_, htc, h2⟩
      rw [List.getElem?_toArray, List.append_assoc, List.getElem?_append_right (by simp; omega), List.getElem?_append_left (by simp; omega), List.getElem?_drop, List.length_take, Array.length_toList, Nat.min_eq_left (by omega), Array.getElem?_toList]
      exact h1
  generalize (d.toList.take i ++ d.toList.drop j ++ List.replicate (j - i) ((none, 0, 0) : Sl3)).toArray = news at hnews hnew
  have hobj := putRow_obj (q := q) (o := o) news hw
  have hlen : (L'.take i ++ L'.drop j).length = d.size - (j - i) := by
    simp
    omega
  have hps : (putCells encSl o news carr).size = carr.size := by simp [putCells]
  have hft : ∀ q, foot X [.row c' L'] 0 k q := fun q => by unfold foot; exact ⟨ho, hk.symm⟩
  refine ⟨_, X.push 1 k True o, rfl, ?_, ?_⟩
  · rw [← hlen]
    exact slw_new (X := X) (h := [.row c' L']) (h2 := [.dead]) o rfl hobj ⟨by omega, by omega⟩ (by rw [hps, hz, Nat.mul_one]; exact hroom2)
  · refine Good.grow hH o (h2 := [.dead]) (k0 := k) (k1 := k) (carr := putCells encSl o news carr) (el := el) rfl (fun b bl hb => ?_) (fun k' q hF hkk => ?_) (fun q _ => ⟨0, hft q⟩) rfl rfl rfl (by rw [size_putRow]; exact Nat.le_refl _) (fun k' _ hne => putRow_oth news hne) (fun _ => ?_) (.inl rfl) (fun _ => lt_of_heap hw) ⟨fz, hobj, by rw [hps]; exact hfz⟩ (by rw [hps, hz, Nat.mul_one]; omega) (fun t x y0 y hx hy => ?_)
    · cases b with
      | zero => simp at hb; exact .inl hb.symm
      | succ b => simp at hb
    · subst hkk
      exact hH.free 0 _ q (hft q) hF
    · rw [hw, hobj]
      exact ⟨_, _, rfl, hps, id⟩
    · have hy0 : y0 = 0 := by
        have := lt_of_list hy
        rw [Cod.enc_len, hz] at this
        omega
      subst hy0
      obtain ⟨p, h1, h2, h3⟩ := hnew t x hx
      refine ⟨encSl p, ?_, h3 y hy⟩
      rw [hz, Nat.mul_one, Nat.add_zero]
      exact putCells_get h1 h2
end
end Ab
