/- The operation append. -/
import Derived.Test.YtllohgmahflpaaaAbCells
set_option linter.unusedSectionVars false
set_option linter.unusedSimpArgs false
set_option linter.unusedVariables false
namespace Ab
open Go
section
variable [Uni] [Cod]
variable {P : Program} {e : Env} {X Y : Cx} {h i : List Blk} {w w' : World} {o : Oper} {ρA : Operand → AV} {ρ : Operand → Value} {v : AV}

theorem castL_ok {c c' : Nat} {L : List (Uni.val c')} {N : List (Uni.val c)} (hc : castL c c' L = some N) : ∃ hcc : c' = c, hcc ▸ L = N := by
  unfold castL at hc
  split at hc
  · rename_i hh _
    simp only [Option.some.injEq] at hc
    exact ⟨hh, hc⟩
  · simp at hc

/-- The news, as a slice in memory; or there are none. -/
theorem newsOf_ok (hH : RelH X h w) {c : Nat} {x : AV} {u : Value} {N : List (Uni.val c)} (hn : newsOf c h x = some N) (r : RepV X h w x u) : (∃ b cap, u = .slice b N.length cap) ∧ (0 < N.length → News X h w c N u) := by
  unfold newsOf at hn
  split at hn
  · simp only [Option.some.injEq] at hn; subst hn
    cases r
    exact ⟨⟨_, _, rfl⟩, fun h0 => by simp at h0⟩
  · simp only [Option.some.injEq] at hn; subst hn
    cases r
    exact ⟨⟨_, _, rfl⟩, fun h0 => by simp at h0⟩
  · obtain ⟨rfl, hL⟩ := castL_ok hn
    simp only at hL; subst hL
    refine ⟨?_, fun h0 => news_rs r h0⟩
    cases r
    exact ⟨_, _, rfl⟩
  · obtain ⟨rfl, hL⟩ := castL_ok hn
    simp only at hL; subst hL
    refine ⟨?_, fun h0 => news_rs (RepC.rn_rs r) h0⟩
    cases r
    exact ⟨_, _, rfl⟩
  · split at hn
    · rename_i b c' L hb
      obtain ⟨rfl, hL⟩ := castL_ok hn
      simp only at hL; subst hL
      refine ⟨?_, fun h0 => news_slw hH hb r h0⟩
      cases r with
      | slw hlt h1 h3 =>
        rcases h1 _ _ hb with ⟨ho, cap, hv, _⟩ | ⟨ho, a, hv⟩
        · exact ⟨_, _, hv⟩
        · have := (hH.blk _ _ hb).2 ho
          exact ⟨a, 0, by rw [this]; exact hv⟩
    · simp at hn
  · split at hn
    · rename_i b q n cc l hb
      have hlen := (decN_get' hn).1
      refine ⟨?_, fun h0 => news_sl hH hb hn r⟩
      cases r
      exact ⟨_, _, by rw [hlen]⟩
    · simp at hn
  · simp at hn

theorem H_appBag {c : Call} {h' : List Blk} {t el : TypeId} {x y : Operand} {B s q : Nat} {cc : Option Nat} (hT : TAll P e) (ho : o.op = .call c) (hc : c.callee = .builtin .append) (hρ : RepO X h w ρA ρ) (hH : RelH X h w) (hty : c.argTypes.toList = [t, t]) (hargs : c.args.toList = [x, y]) {k : Nat} (hsh : (e.T t).sh = .slice el (some k))
    (hxa : ρA x = .c (.jk B .whole)) (hya : ρA y = .c (.sl s q 1 cc)) (hv : (appCells e el h (.c (.jk B .whole)) (.c (.sl s q 1 cc))).eval = some (v, h')) : ∃ cv w' X', (execOp ρ o).run P w = .ok (.value cv) w' ∧ RepV X' h' w' v cv ∧ Good X h w X' h' w' ∧ (appNew o ρA = true → RowKit.Below w.heap.size w w') := by
  unfold appCells at hv
  simp only at hv
  split at hv
  case h_2 => simp [Res.eval] at hv
  rename_i c2 c1 LL l hB hs
  split at hv
  case h_2 => simp [Res.eval] at hv
  rename_i r hl
  split at hv
  case h_2 => simp [Res.eval] at hv
  rename_i c' L hr
  split at hv
  case h_2 => simp [Res.eval] at hv
  rename_i hcond
  simp only [Bool.and_eq_true, Nat.beq_eq] at hcond
  obtain ⟨⟨_, d1⟩, d2⟩ := hcond
  rw [Res.eval_br] at hv
  generalize hbd : (Nat.ble (LL.length + 1) 140737488355328 && Nat.ble ((LL.length + 1) * (e.T el).bytes) 140737488355328) = bb at hv
  cases bb with
  | false => simp [Res.eval] at hv
  | true =>
  simp only [Bool.and_eq_true, Nat.ble_eq] at hbd
  simp only [cond_true, Res.eval, Option.some.injEq, Prod.mk.injEq] at hv
  obtain ⟨rfl, rfl⟩ := hv
  have hx := hT t (Env.lt_of_sh hsh (by simp))
  obtain ⟨d, hd, _, hd2⟩ := hx.und
  rw [hsh] at hd2
  simp only at hd2
  subst hd2
  obtain ⟨i, z, hi, hzz, hrz, hxe⟩ := zero_info (X := X) (h := h) (w := w) hT (t := el) (fun hh => by rw [hh] at d2; simp at d2)
  obtain ⟨i', hi', hsize, hbytes⟩ := hxe.info
  rw [hi] at hi'
  simp only [Option.some.injEq] at hi'
  subst hi'
  have hzs : z.cells.size = i.size := by
    have := hrz.len
    simp at this
    omega
  have hty' : c.argTypes = #[t, t] := by apply Array.ext'; simpa using hty
  have hargs' : c.args = #[x, y] := by apply Array.ext'; simpa using hargs
  have hxr := hρ x
  have hyr := hρ y
  rw [hxa] at hxr
  rw [hya] at hyr
  obtain ⟨v', w', X', hr', h1, h2⟩ := append_bag_ok (P := P) (ty := o.type) hH hd hi hzz (by omega) hzs hB hs hl hbd.1 (by rw [hbytes]; exact hbd.2) hxr hyr
  refine ⟨v', w', X', ?_, h1, h2, fun hn => by simp [appNew, ho, hargs, hxa] at hn⟩
  simp [execOp, ho, resolve, hc, hty', hargs', invoke, builtin, hr']

theorem H_appCells {c : Call} {h' : List Blk} {t el : TypeId} {x y : Operand} {k : Nat} (hT : TAll P e) (ho : o.op = .call c) (hc : c.callee = .builtin .append) (hρ : RepO X h w ρA ρ) (hH : RelH X h w) (hty : c.argTypes.toList = [t, t]) (hargs : c.args.toList = [x, y]) (hsh : (e.T t).sh = .slice el (some k))
    (hv : (appCells e el h (ρA x) (ρA y)).eval = some (v, h')) : ∃ cv w' X', (execOp ρ o).run P w = .ok (.value cv) w' ∧ RepV X' h' w' v cv ∧ Good X h w X' h' w' ∧ (appNew o ρA = true → RowKit.Below w.heap.size w w') := by
  unfold appCells at hv
  split at hv
  case h_3 => simp [Res.eval] at hv
  case h_2 =>
    rename_i B s q cc hxa hya
    exact H_appBag hT ho hc hρ hH hty hargs hsh hxa hya (by unfold appCells; exact hv)
  rename_i b q n cc hxa hya
  split at hv
  case h_2 => simp [Res.eval] at hv
  rename_i l hb
  split at hv
  case h_2 => simp [Res.eval] at hv
  rename_i hcond
  simp only [Bool.and_eq_true, Nat.ble_eq, Nat.beq_eq] at hcond
  obtain ⟨⟨⟨⟨⟨c1, c2⟩, c3⟩, c4⟩, c5⟩, c6⟩ := hcond
  simp only [Res.eval, Option.some.injEq, Prod.mk.injEq] at hv
  obtain ⟨rfl, rfl⟩ := hv
  have hx := hT t (Env.lt_of_sh hsh (by simp))
  obtain ⟨d, hd, _, hd2⟩ := hx.und
  rw [hsh] at hd2
  simp only at hd2
  subst hd2
  obtain ⟨i, z, hi, hzz, hrz, hxe⟩ := zero_info (X := X) (h := h) (w := w) hT (t := el) (fun hh => by rw [hh] at c1; simp at c1; omega)
  obtain ⟨i', hi', hsize, hbytes⟩ := hxe.info
  rw [hi] at hi'
  simp only [Option.some.injEq] at hi'
  subst hi'
  have hzs : z.cells.size = i.size := by
    have := hrz.len
    simp at this
    omega
  have hty' : c.argTypes = #[t, t] := by apply Array.ext'; simpa using hty
  have hargs' : c.args = #[x, y] := by apply Array.ext'; simpa using hargs
  have hxr := hρ x
  have hyr := hρ y
  rw [hxa] at hxr
  rw [hya] at hyr
  have run : ∀ v' w', (Builtin.append_ #[t, t] o.type #[ρ x, ρ y]).run P w = .ok v' w' → (execOp ρ o).run P w = .ok (.value v') w' := by
    intro v' w' hr
    simp [execOp, ho, resolve, hc, hty', hargs', invoke, builtin, hr]
  generalize hq : ρ x = u at hxr
  cases hxr
  obtain ⟨v', w', X', hr, h1, h2, h3⟩ := append_cells_ok (P := P) (ty := o.type) hH hd hi hzz hzs hb (n := n) (o := q) (by rw [hsize]; exact c4) (by omega) (by unfold maxLen; omega) (by rw [hbytes]; exact c6) hyr
  rw [hsize] at h1 h2
  rw [← hq] at hr
  exact ⟨v', w', X', run _ _ hr, h1, h2, fun _ => h3⟩

theorem H_appendB {c : Call} {h' : List Blk} (hT : TAll P e) (ho : o.op = .call c) (hc : c.callee = .builtin .append) (hρ : RepO X h w ρA ρ) (hH : RelH X h w) (hv : (stepH e o ρA h).eval = some (v, h')) : ∃ cv w' X', (execOp ρ o).run P w = .ok (.value cv) w' ∧ RepV X' h' w' v cv ∧ Good X h w X' h' w' ∧ (appNew o ρA = true → RowKit.Below w.heap.size w w') := by
  unfold stepH at hv; simp only [ho, hc] at hv
  split at hv
  case h_2 => simp [Res.eval] at hv
  rename_i t u x y hty hargs
  split at hv
  case h_2 => simp [Res.eval] at hv
  rename_i el k htu hsh
  have htu' := Nat.eq_of_beq_eq_true htu
  subst htu'
  split at hv
  case h_2 => exact H_appCells hT ho hc hρ hH hty hargs hsh hv
  rename_i h2 L N hbase hnews
  split at hv
  case isFalse => simp [Res.eval] at hv
  rename_i hsz
  simp only [Bool.and_eq_true, Nat.beq_eq] at hsz
  have hx := hT t (Env.lt_of_sh hsh (by simp))
  obtain ⟨d, hd, _, hd2⟩ := hx.und
  rw [hsh] at hd2
  simp only at hd2
  subst hd2
  have hz0 := Cod.sz_pos k
  obtain ⟨i, z, hi, hzz, hrz, hxe⟩ := zero_info (X := X) (h := h) (w := w) hT (t := el) (fun hh => by rw [hh] at hsz; simp at hsz; omega)
  obtain ⟨i', hi', hsize, hbytes⟩ := hxe.info
  rw [hi] at hi'
  simp only [Option.some.injEq] at hi'
  subst hi'
  have hisz : i.size = Uni.sz k := by rw [hsize]; exact hsz.1
  have hzs : z.cells.size = i.size := by
    have := hrz.len
    simp at this
    omega
  have hty' : c.argTypes = #[t, t] := by apply Array.ext'; simpa using hty
  have hargs' : c.args = #[x, y] := by apply Array.ext'; simpa using hargs
  have hxr := hρ x
  have hyr := hρ y
  obtain ⟨⟨nb, ncap, hnv⟩, hnn⟩ := newsOf_ok hH hnews hyr
  have run : ∀ v' w', (Builtin.append_ #[t, t] o.type #[ρ x, ρ y]).run P w = .ok v' w' → (execOp ρ o).run P w = .ok (.value v') w' := by
    intro v' w' hr
    simp [execOp, ho, resolve, hc, hty', hargs', invoke, builtin, hr]
  simp only [Res.eval] at hv
  cases hN : N.isEmpty with
  | true =>
    rw [hN] at hv
    simp only [cond_true, Option.some.injEq, Prod.mk.injEq] at hv
    obtain ⟨rfl, rfl⟩ := hv
    have hN0 : N.length = 0 := by simpa [List.isEmpty_iff] using hN
    rw [hN0] at hnv
    have hb : ∃ a n cap, ρ x = .slice a n cap ∧ n ≤ cap ∧ (a = none → n = 0 ∧ cap = 0) := by
      unfold baseOf at hbase
      split at hbase
      · rename_i hxx
        rw [hxx] at hxr
        generalize ρ x = q at hxr
        cases hxr
        exact ⟨none, 0, 0, rfl, Nat.le_refl _, fun _ => ⟨rfl, rfl⟩⟩
      · rename_i hxx
        rw [hxx] at hxr
        generalize ρ x = q at hxr
        cases hxr
        exact ⟨_, 0, 0, rfl, Nat.le_refl _, fun _ => ⟨rfl, rfl⟩⟩
      · rename_i hxx
        rw [hxx] at hxr
        split at hbase
        · rename_i c' L' hbb
          generalize hq : ρ x = q at hxr
          cases hxr with
          | slw hlt h1 h3 =>
            rcases h1 _ _ hbb with ⟨hown, cap, hv, hcap, _⟩ | ⟨hown, a, hv⟩
            · exact ⟨_, _, _, hv, hcap.1, fun hh => by cases hh⟩
            · exact ⟨a, 0, 0, hv, Nat.le_refl _, fun _ => ⟨rfl, rfl⟩⟩
        · simp at hbase
      · simp at hbase
    obtain ⟨a, n, cap, hbv, hncap, ha⟩ := hb
    refine ⟨ρ x, w, X, run _ _ ?_, hxr, Good.refl hH, fun _ => RowKit.Below.refl _ w⟩
    rw [hbv, hnv]
    exact run_append_zero t o.type el i hd hi a nb n cap ncap hncap ha
  | false =>
    rw [hN] at hv
    simp only [cond_false] at hv
    have hNpos : 0 < N.length := by
      cases N with
      | nil => simp at hN
      | cons => simp
    cases hB : ((L.length + N.length).ble 140737488355328 && ((L.length + N.length) * (e.T el).bytes).ble 140737488355328) with
    | false => rw [hB] at hv; simp at hv
    | true =>
      rw [hB] at hv
      simp only [cond_true, Option.some.injEq, Prod.mk.injEq] at hv
      obtain ⟨rfl, rfl⟩ := hv
      simp only [Bool.and_eq_true, Nat.ble_eq] at hB
      obtain ⟨hB1, hB2⟩ := hB
      rw [← hbytes] at hB2
      have hml : (140737488355328 : Nat) ≤ maxLen := by unfold maxLen; omega
      unfold baseOf at hbase
      split at hbase
      · rename_i hxx
        simp only [Option.some.injEq, Prod.mk.injEq] at hbase
        obtain ⟨rfl, rfl⟩ := hbase
        rw [hxx] at hxr
        generalize hq : ρ x = q at hxr
        cases hxr
        simp only [List.length_nil, Nat.zero_add] at hB1 hB2
        obtain ⟨v', w', X', hr, h1, h2', hbl⟩ := append_empty_ok (P := P) (ty := o.type) hH rfl (fun b bl hb => .inr hb) hd hi hzz hisz hzs (oa := none) (hnn hNpos) hNpos (by omega) hB2
        rw [← hq] at hr
        exact ⟨v', w', X', run _ _ hr, by simpa using h1, by simpa using h2', fun _ => hbl⟩
      · rename_i hxx
        simp only [Option.some.injEq, Prod.mk.injEq] at hbase
        obtain ⟨rfl, rfl⟩ := hbase
        rw [hxx] at hxr
        generalize hq : ρ x = q at hxr
        cases hxr
        simp only [List.length_nil, Nat.zero_add] at hB1 hB2
        rename_i oa
        obtain ⟨v', w', X', hr, h1, h2', hbl⟩ := append_empty_ok (P := P) (ty := o.type) hH rfl (fun b bl hb => .inr hb) hd hi hzz hisz hzs (oa := oa) (hnn hNpos) hNpos (by omega) hB2
        rw [← hq] at hr
        exact ⟨v', w', X', run _ _ hr, by simpa using h1, by simpa using h2', fun _ => hbl⟩
      · rename_i b hxx
        rw [hxx] at hxr
        split at hbase
        · rename_i c' L' hbb
          split at hbase
          · rename_i L2 hcast
            simp only [Option.some.injEq, Prod.mk.injEq] at hbase
            obtain ⟨rfl, rfl⟩ := hbase
            obtain ⟨rfl, hLL⟩ := castL_ok hcast
            simp only at hLL; subst hLL
            generalize hq : ρ x = q at hxr
            cases hxr with
            | slw hlt h1 h3 =>
              rcases h1 _ _ hbb with ⟨hown, cap, hv, hcap, hroom⟩ | ⟨hown, a, hv⟩
              · obtain ⟨a, ncap', ds, hnv', hc', hnews', hone⟩ := hnn hNpos
                obtain ⟨v', w', X', hr, h1, h2'⟩ := append_row_ok (P := P) (ty := o.type) (cap := ncap') hH hd hi hzz hisz hzs hbb hown hcap hroom hc' hnews' hone (by omega) hB2
                rw [← hv, ← hq, ← hnv'] at hr
                exact ⟨v', w', X', run _ _ hr, h1, h2', fun hn => by simp [appNew, ho, hargs, hxx] at hn⟩
              · have hL0 := (hH.blk _ _ hbb).2 hown
                subst hL0
                simp only [List.length_nil, Nat.zero_add] at hB1 hB2
                have hset : ∀ (b' : Nat) (bl : Blk), (h.set b .dead)[b']? = some bl → bl = .dead ∨ h[b']? = some bl := by
                  intro b' bl hbl
                  rw [List.getElem?_set] at hbl
                  split at hbl
                  · rename_i hb2
                    subst hb2
                    simp [hlt] at hbl
                    exact .inl hbl.symm
                  · exact .inr hbl
                obtain ⟨v', w', X', hr, h1, h2', hbl⟩ := append_empty_ok (P := P) (ty := o.type) hH (by simp) hset hd hi hzz hisz hzs (oa := a) (hnn hNpos) hNpos (by omega) hB2
                rw [← hv, ← hq] at hr
                exact ⟨v', w', X', run _ _ hr, by simpa using h1, by simpa using h2', fun _ => hbl⟩
          · simp at hbase
        · simp at hbase
      · simp at hbase

theorem H_append {c : Call} {h' : List Blk} (hT : TAll P e) (ho : o.op = .call c) (hc : c.callee = .builtin .append) (hρ : RepO X h w ρA ρ) (hH : RelH X h w) (hv : (stepH e o ρA h).eval = some (v, h')) : Steps1 P X h w o ρ v h' := by
  obtain ⟨cv, w', X', h1, h2, h3, _⟩ := H_appendB hT ho hc hρ hH hv
  exact ⟨cv, w', X', .inl h1, h2, h3, fun hg => by simp [grO, ho, hc] at hg⟩

/-- The rest of a row of the run's own, behind its first elements. -/
theorem H_slice {t : TypeId} {x : Operand} {lo hi mx : Option Operand} {h' : List Blk} (hT : TAll P e) (ho : o.op = .slice t x lo hi mx) (hρ : RepO X h w ρA ρ) (hH : RelH X h w) (hv : (stepH e o ρA h).eval = some (v, h')) : Steps1 P X h w o ρ v h' := by
  have hx := hρ x
  unfold stepH at hv; simp only [ho] at hv
  split at hv
  case h_2 => simp [Res.eval] at hv
  rename_i el k b kk m hsh hxa hlo
  split at hv
  case h_2 => simp [Res.eval] at hv
  rename_i c L hb
  split at hv
  case isFalse => simp [Res.eval] at hv
  rename_i hc
  have hc := Nat.eq_of_beq_eq_true hc
  rw [Res.eval_br] at hv
  cases hbd : (decide (0 ≤ m) && decide (m ≤ (L.length : Int)) && Nat.blt 0 L.length) with
  | false => rw [hbd] at hv; simp [Res.eval] at hv
  | true =>
  rw [hbd] at hv
  simp only [cond_true, Res.eval, Option.some.injEq, Prod.mk.injEq] at hv
  obtain ⟨rfl, rfl⟩ := hv
  simp only [Bool.and_eq_true, decide_eq_true_eq] at hbd
  obtain ⟨hbd, hpos⟩ := hbd
  have hpos : 0 < L.length := Nat.le_of_ble_eq_true hpos
  rw [hxa] at hx
  obtain ⟨d, hd, _, hs'⟩ := (hT t (Env.lt_of_sh hsh (by simp))).und
  rw [hsh] at hs'; simp only at hs'; subst hs'
  have hd' : P.underlying t = some (.slice (P.elem t)) := by simp [Program.elem, hd]
  have hel : P.elem t = el := by simp [Program.elem, hd]
  have hsp := Cod.sz_pos (c := c)
  have hsz := run_sizeOf (P := P) (hT el (Env.lt_of_size (by omega)))
  have hsz' : ∀ w2, (Go.sizeOf (P.elem t)).run P w2 = .ok (Uni.sz c) w2 := by intro w2; rw [hel, hsz, hc]
  have harg : lo.map ρ = some (.int kk m) := by
    cases lo with
    | none => simp at hlo
    | some q =>
      simp at hlo
      have := hρ q
      rw [hlo] at this
      simp [repC_int this]
  have hx0 : RepC X h w (.slw b) (ρ x) := hx
  generalize hu : ρ x = u at hx0
  have hblt := lt_of_list hb
  obtain ⟨q, rfl⟩ : ∃ q : Nat, m = q := ⟨m.toNat, by omega⟩
  have hq : q ≤ L.length := by omega
  have run : ∀ (a : Option Addr) (cap : Nat), u = .slice a L.length cap → (execOp ρ o).run P w = .ok (.value (sliced a q L.length cap (Uni.sz c))) w := by
    intro a cap hua
    subst hua
    have hs : (Instr.slice t (.slice a L.length cap) (lo.map ρ) none none).run P w = .ok (sliced a q L.length cap (Uni.sz c)) w := by
      rw [harg, run_slice_l w t a _ _ hd' _ _ hbd.1 hbd.2, hsz']; rfl
    simp [execOp, ho, hu, run_sliceAt_slice w t _ _ _ _ hd', hs]
  cases hx0 with
  | slw hlt h1 h3 =>
  rcases h1 c L hb with ⟨hown, cap, hv, hcap, hroom⟩ | ⟨hown, a, hv⟩
  · obtain ⟨carr, el2, ⟨fz, hw, hfz⟩, hsize, _⟩ := (hH.blk b _ hb).1 hown
    obtain ⟨carr2, el3, fz2, hw2, hroom2⟩ := hroom
    rw [hw] at hw2
    simp only [Option.some.injEq, Obj.cells.injEq] at hw2
    obtain ⟨rfl, rfl, rfl⟩ := hw2
    refine ⟨_, w, _, .inl (run _ _ hv), ?_, Good.cut hH (m := q) (o1 := if cap = q then (X.ρ b).2 else (X.ρ b).2 + q * Uni.sz c) hb hown hq ?_, fun hg => by simp [grO, ho] at hg⟩
    · have hlen : L.length - q = (L.drop q).length := by simp
      have hs := slw_new (X := X) (h := h) (w' := w) (c := c) (L' := L.drop q) (h2 := h.set b .dead) (k1 := (X.ρ b).1) (cap := cap - q) (carr := carr) (el := el2) (fz := fz) (if cap = q then (X.ρ b).2 else (X.ρ b).2 + q * Uni.sz c) (by simp) hw ⟨by simp; omega, by omega⟩ (by
        split
        · rename_i hcq; rw [hcq, Nat.sub_self, Nat.zero_mul]; omega
        · have : q * Uni.sz c + (cap - q) * Uni.sz c = cap * Uni.sz c := by rw [← Nat.add_mul]; congr 1; omega
          omega)
      have hval : sliced (some (X.addr b 0)) q L.length cap (Uni.sz c) = .slice (some ⟨(X.ρ b).1, (if cap = q then (X.ρ b).2 else (X.ρ b).2 + q * Uni.sz c), none⟩) (L.drop q).length (cap - q) := by
        unfold sliced
        rw [← hlen]
        by_cases hcq : cap = q
        · simp [hcq, Cx.addr]
        · simp [hcq, Cx.addr, Addr.add_lit]
      rw [hval]
      simpa using hs
    · split
      · rename_i hcq; exact .inr ⟨by omega, rfl⟩
      · exact .inl rfl
  · have hL := (hH.blk b _ hb).2 hown
    rw [hL] at hpos
    simp at hpos

end
end Ab
