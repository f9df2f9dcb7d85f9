/- append onto a row of the run's own. -/
import Derived.Test.YtllohgmahflpaaaAbGrow
set_option linter.unusedSectionVars false
set_option linter.unusedSimpArgs false
set_option linter.unusedVariables false
namespace Ab
open Go
section
variable [Uni] [Cod]
variable {P : Program} {e : Env} {X Y : Cx} {h i : List Blk} {w w' : World}

theorem run_storeCells_at' (g o : Nat) (t : TypeId) (fz : Nat × Nat) : ∀ (vs : List Value) (i : Nat) (cur : Array Value) (w : World), w.heap[g]? = some (.cells cur t fz) → harm fz cur.size → o + i + vs.length ≤ cur.size → (∀ v ∈ vs, v.oneCell' = true) →
    (storeCells ⟨g, o, none⟩ vs i).run P w = .ok () (w.setRow g (cur.toList.take (o + i) ++ vs ++ cur.toList.drop (o + i + vs.length)).toArray)
  | [], i, cur, w, hg, _, _, _ => by
    simp only [storeCells, List.append_nil, List.length_nil, Nat.add_zero, List.take_append_drop, Array.toArray_toList]
    rw [setRow_self w g cur t fz hg]
    rfl
  | v :: rest, i, cur, w, hg, hh, hl, h1 => by
    have hi : o + i < cur.size := by simp at hl; omega
    have hcell : w.cell? ⟨g, o + i, none⟩ = some cur[o + i] := by simp [World.cell?, hg, hi]
    have hfro : w.frozen? ⟨g, o + i, none⟩ = false := by
      rcases hh with rfl | rfl
      · simp [World.frozen?, hg]
      · simp [World.frozen?, hg]; omega
    have hst : (store ((⟨g, o, none⟩ : Addr).add i) v).run P w = .ok () (w.setRow g (cur.setIfInBounds (o + i) v)) := by
      rw [Addr.add_lit, run_store P w _ v _ (h1 v (by simp)), hcell]
      simp [hfro, setCell_eq_setRow w g (o + i) cur t fz v hg]
    have ih := run_storeCells_at' g o t fz rest (i + 1) (cur.setIfInBounds (o + i) v) (w.setRow g (cur.setIfInBounds (o + i) v)) (setRow_heap w g cur _ t _ hg) (by simpa using hh) (by simp at hl ⊢; omega) (fun x hx => h1 x (by simp [hx]))
    simp only [storeCells, Sem.run_bind, hst, Result.andThen_ok, ih, setRow_setRow]
    congr 3
    have e := list_seg_step cur.toList (o + i) v rest (by simp at hl ⊢; omega)
    simpa [Array.toList_setIfInBounds, Nat.add_assoc] using e

theorem run_append_room' (t ty el el' : TypeId) (i : TypeInfo) (ht : P.underlying t = some (.slice el)) (hi : P.info? el = some i)
    (g o sLen sCap : Nat) (cur : Array Value) {fz : Nat × Nat} (hg : w.heap[g]? = some (.cells cur el' fz)) (hfz : harm fz cur.size)
    (a : Addr) (m c : Nat) (news : List Value) (hl : news.length = m * i.size) (hnews : ∀ j u, news[j]? = some u → w.cell? (a.add j) = some u) (h1 : ∀ u ∈ news, u.oneCell' = true)
    (hroom : sLen + m ≤ sCap) (hfit : o + sLen * i.size + news.length ≤ cur.size) :
    (Builtin.append_ #[t, t] ty #[.slice (some ⟨g, o, none⟩) sLen sCap, .slice (some a) m c]).run P w =
      .ok (.slice (some ⟨g, o, none⟩) (sLen + m) sCap) (w.setRow g (cur.toList.take (o + sLen * i.size) ++ news ++ cur.toList.drop (o + sLen * i.size + news.length)).toArray) := by
  have hf := run_firstCells_some (P := P) w i.size m a m c news hl hnews
  have hst := run_storeCells_at' (P := P) g (o + sLen * i.size) el' fz news 0 cur w hg hfz (by simpa using hfit) h1
  simp only [Nat.add_zero] at hst
  simp [Builtin.append_, run_underlying ht, Go.sizeOf, typeInfo, hi, Builtin.lenOf, hroom, hf, Addr.add_lit, hst]

theorem slw_new {c : Nat} {L' : List (Uni.val c)} {h2 : List Blk} {k1 cap : Nat} {carr : Array Value} {el : TypeId} {fz : Nat × Nat} (o1 : Nat := 0) (hlen : h2.length = h.length) (hw : w'.heap[k1]? = some (.cells carr el fz)) (hcap : L'.length ≤ cap ∧ cap ≤ 9223372036854775807) (hroom : o1 + cap * Uni.sz c ≤ carr.size) :
    RepV (X.push h.length k1 True o1) (h2 ++ [.row c L']) w' (.c (.slw h.length)) (.slice (some ⟨k1, o1, none⟩) L'.length cap) := by
  have hg : (h2 ++ [Blk.row c L'])[h.length]? = some (.row c L') := by rw [← hlen]; simp
  refine RepC.slw (by simp [hlen]) (fun c2 L2 h3 => ?_) rfl
  rw [hg] at h3
  simp only [Option.some.injEq, Blk.row.injEq] at h3
  obtain ⟨rfl, h3⟩ := h3
  have h3 := eq_of_heq h3
  subst h3
  refine .inl ⟨by simp [Cx.push], cap, by simp [Cx.addr, Cx.push], hcap, ⟨carr, el, fz, by simpa [Cx.push] using hw, by simpa [Cx.push] using hroom⟩⟩

/-- Onto nothing. -/
theorem append_nil_ok (hH : RelH X h w) {c : Nat} {N : List (Uni.val c)} {t ty el : TypeId} {i : TypeInfo} {z : Value} (ht : P.underlying t = some (.slice el)) (hi : P.info? el = some i) (hz : i.zero = some z) (hsz : i.size = Uni.sz c) (hzs : z.cells.size = i.size)
    {a : Addr} {cap : Nat} {ds : List Value} (hc : RowCells X h w c N ds) (hnews : ∀ j u, ds[j]? = some u → w.cell? (a.add j) = some u)
    (h0 : 0 < N.length) (h63 : (N.length : Int) ≤ 9223372036854775807) (h48 : N.length * i.bytes ≤ 281474976710656) :
    ∃ v' w' X', (Builtin.append_ #[t, t] ty #[.slice none 0 0, .slice (some a) N.length cap]).run P w = .ok v' w' ∧
      RepV X' (h ++ [.row c N]) w' (.c (.slw h.length)) v' ∧ Good X h w X' (h ++ [.row c N]) w' := by
  have hr := run_append_nil (P := P) w t ty el i z ht hi hz a N.length cap ds (by rw [hc.1, hsz]) hnews h0 h63 h48
  have harr : ds.toArray ++ Builtin.zeroCells z.cells (grownCap w N.length 0 el - N.length) = (ds ++ (Builtin.zeroCells z.cells (grownCap w N.length 0 el - N.length)).toList).toArray := by
    apply Array.ext'; simp
  rw [harr] at hr
  refine ⟨_, _, _, hr, slw_new 0 rfl (heap_alloc_new w.drew _) ⟨grownCap_ge w N.length 0 el, grownCap_le_maxLen w N.length 0 el (by simp only [maxLen]; omega)⟩ ?_, Good.rowNew hH rfl (fun b bl hb => .inr hb) hc⟩
  have := grownCap_ge w N.length 0 el
  simp only [List.size_toArray, List.length_append, Array.length_toList, size_zeroCells, hc.1, hzs, hsz, ← Nat.add_mul, Nat.zero_add]
  exact Nat.mul_le_mul_right _ (by omega)

/-- Onto a row of the run's own. -/
theorem append_row_ok (hH : RelH X h w) {b c : Nat} {L N : List (Uni.val c)} {t ty el : TypeId} {i : TypeInfo} {z : Value} (ht : P.underlying t = some (.slice el)) (hi : P.info? el = some i) (hz : i.zero = some z) (hsz : i.size = Uni.sz c) (hzs : z.cells.size = i.size)
    (hb : h[b]? = some (.row c L)) (ho : X.own b) {sc : Nat} (hsc : L.length ≤ sc ∧ sc ≤ 9223372036854775807) (hroom : room w (X.ρ b).1 ((X.ρ b).2 + sc * Uni.sz c))
    {a : Addr} {cap : Nat} {ds : List Value} (hc : RowCells X h w c N ds) (hnews : ∀ j u, ds[j]? = some u → w.cell? (a.add j) = some u) (hone : ∀ u ∈ ds, u.oneCell' = true)
    (h63 : L.length + N.length ≤ maxLen) (hby : (L.length + N.length) * i.bytes ≤ 140737488355328) :
    ∃ v' w' X', (Builtin.append_ #[t, t] ty #[.slice (some (X.addr b 0)) L.length sc, .slice (some a) N.length cap]).run P w = .ok v' w' ∧
      RepV X' (h.set b .dead ++ [.row c (L ++ N)]) w' (.c (.slw h.length)) v' ∧ Good X h w X' (h.set b .dead ++ [.row c (L ++ N)]) w' := by
  obtain ⟨carr, el', ⟨fz, hw, hfz⟩, hsize, hcell⟩ := (hH.blk b _ hb).1 ho
  have haddr : X.addr b 0 = ⟨(X.ρ b).1, (X.ρ b).2, none⟩ := by simp [Cx.addr]
  obtain ⟨carr2, el2, fz2, hw2, hroom2⟩ := hroom
  rw [hw] at hw2
  simp only [Option.some.injEq, Obj.cells.injEq] at hw2
  obtain ⟨rfl, rfl, rfl⟩ := hw2
  have hblt := lt_of_list hb
  have hold : RowCells X h w c L ((carr.toList.drop (X.ρ b).2).take (L.length * Uni.sz c)) := by
    refine ⟨by simp; omega, fun q x j y hx hy => ?_⟩
    obtain ⟨u, hu, ru⟩ := hcell q x j y hx hy
    have hj : j < Uni.sz c := by have := lt_of_list hy; rwa [Cod.enc_len] at this
    refine ⟨u, ?_, ru⟩
    rw [List.getElem?_take, if_pos (row_lt (lt_of_list hx) hj), List.getElem?_drop]
    simpa using hu
  have hall := hold.app hc
  have hset : ∀ (b' : Nat) (bl : Blk), (h.set b .dead)[b']? = some bl → bl = .dead ∨ (h[b']? = some bl ∧ b' ≠ b) := by
    intro b' bl hbl
    rw [List.getElem?_set] at hbl
    split at hbl
    · rename_i hbb
      subst hbb
      simp [hblt] at hbl
      exact .inl hbl.symm
    · rename_i hbb
      exact .inr ⟨hbl, Ne.symm hbb⟩
  rw [haddr]
  by_cases hin : L.length + N.length ≤ sc
  · have hfit : (X.ρ b).2 + L.length * i.size + ds.length ≤ carr.size := by
      have h1 : (L.length + N.length) * Uni.sz c ≤ sc * Uni.sz c := Nat.mul_le_mul_right _ hin
      rw [Nat.add_mul] at h1
      rw [hc.1, hsz]
      omega
    have hr := run_append_room' (P := P) (w := w) t ty el el' i ht hi (X.ρ b).1 (X.ρ b).2 L.length sc carr hw hfz a N.length cap ds (by rw [hc.1, hsz]) hnews hone hin hfit
    rw [hsz] at hr hfit
    have hcut : carr.toList.take ((X.ρ b).2 + L.length * Uni.sz c) ++ ds ++ carr.toList.drop ((X.ρ b).2 + L.length * Uni.sz c + ds.length) =
        carr.toList.take (X.ρ b).2 ++ ((carr.toList.drop (X.ρ b).2).take (L.length * Uni.sz c) ++ ds) ++ carr.toList.drop ((X.ρ b).2 + L.length * Uni.sz c + ds.length) := by
      rw [List.take_add]; simp only [List.append_assoc]
    rw [hcut] at hr
    have hlen2 : (carr.toList.take (X.ρ b).2 ++ ((carr.toList.drop (X.ρ b).2).take (L.length * Uni.sz c) ++ ds) ++ carr.toList.drop ((X.ρ b).2 + L.length * Uni.sz c + ds.length)).length = carr.size := by
      simp only [List.length_append, List.length_take, List.length_drop, Array.length_toList]
      omega
    refine ⟨_, _, _, hr, ?_, Good.rowIn hH hb ho hw hfz (by simp) hset hall (by simp; omega) hlen2⟩
    have := slw_new (X := X) (h := h) (c := c) (L' := L ++ N) (h2 := h.set b .dead) (k1 := (X.ρ b).1) (cap := sc) (X.ρ b).2 (by simp)
      (setRow_heap w (X.ρ b).1 carr (carr.toList.take (X.ρ b).2 ++ ((carr.toList.drop (X.ρ b).2).take (L.length * Uni.sz c) ++ ds) ++ carr.toList.drop ((X.ρ b).2 + L.length * Uni.sz c + ds.length)).toArray el' fz hw) (by simp only [List.length_append]; omega) (by rw [List.size_toArray, hlen2]; exact hroom2)
    rw [List.length_append] at this
    exact this
  · have hr := run_append_grow (P := P) w t ty el i z ht hi hz ⟨(X.ρ b).1, (X.ρ b).2, none⟩ L.length sc ((carr.toList.drop (X.ρ b).2).take (L.length * Uni.sz c)) (by rw [hold.1, hsz])
      (fun j u hu => by
        rw [Addr.add_lit, cell_of_heap hw]
        rw [List.getElem?_take] at hu
        split at hu
        · rw [List.getElem?_drop] at hu
          simpa using hu
        · cases hu)
      a N.length cap ds (by rw [hc.1, hsz]) hnews (by omega) (by simp only [maxLen] at h63; omega) (growslice_fits (by omega) hby)
    have harr : ((carr.toList.drop (X.ρ b).2).take (L.length * Uni.sz c)).toArray ++ ds.toArray ++ Builtin.zeroCells z.cells (grownCap w (L.length + N.length) sc el - (L.length + N.length)) =
        (((carr.toList.drop (X.ρ b).2).take (L.length * Uni.sz c) ++ ds) ++ (Builtin.zeroCells z.cells (grownCap w (L.length + N.length) sc el - (L.length + N.length))).toList).toArray := by
      apply Array.ext'; simp
    rw [harr] at hr
    refine ⟨_, _, _, hr, ?_, Good.rowNew hH (by simp) (fun b' bl hb' => (hset b' bl hb').imp id (·.1)) hall⟩
    have hge := grownCap_ge w (L.length + N.length) sc el
    have hle : grownCap w (L.length + N.length) sc el ≤ 9223372036854775807 := grownCap_le_maxLen w _ sc el h63
    have := slw_new (X := X) (h := h) (c := c) (L' := L ++ N) (h2 := h.set b .dead) (k1 := w.heap.size) (cap := grownCap w (L.length + N.length) sc el) 0 (by simp)
      (heap_alloc_new w.drew (.cells (((carr.toList.drop (X.ρ b).2).take (L.length * Uni.sz c) ++ ds) ++ (Builtin.zeroCells z.cells (grownCap w (L.length + N.length) sc el - (L.length + N.length))).toList).toArray el)) (by simp only [List.length_append]; omega) (by
        simp only [List.size_toArray, List.length_append, Array.length_toList, size_zeroCells, hold.1, hc.1, hzs, hsz, ← Nat.add_mul, Nat.zero_add]
        exact Nat.mul_le_mul_right _ (by omega))
    simpa using this

end
end Ab
