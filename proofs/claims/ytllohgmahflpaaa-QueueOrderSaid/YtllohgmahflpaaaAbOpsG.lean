/- Addresses of elements, parts of slices, lengths, the least and the greatest. -/
import Derived.Test.YtllohgmahflpaaaAbOpsF
set_option linter.unusedSectionVars false
set_option linter.unusedSimpArgs false
namespace Ab
open Go
section
variable [Uni] [Cod]
variable {P : Program} {e : Env} {X : Cx} {h : List Blk} {w : World} {o : Oper} {ρA : Operand → AV} {ρ : Operand → Value} {v : AV}

theorem selP_ok {b off z : Nat} {j : Int} : ∀ {n k : Nat}, (selP b off z j n k).eval = some v → v = .c (.ptr b (off + j.toNat * z))
  | 0, k, h => by simp [selP, Res.eval] at h
  | n + 1, k, h => by
    unfold selP at h
    rw [Res.eval_br] at h
    cases hb : (j == (k : Int)) with
    | true =>
      rw [hb] at h
      simp only [cond_true, Res.eval, Option.some.injEq] at h
      have : j = (k : Int) := by simpa using hb
      subst this
      rw [Int.toNat_natCast]
      exact h.symm
    | false =>
      rw [hb] at h
      simp only [cond_false] at h
      exact selP_ok h

theorem selR_ok {c : Nat} {x : Uni.val c} {off z : Nat} {j : Int} : ∀ {n k : Nat}, (selR c x off z j n k).eval = some v → v = .c (.rp c x (off + j.toNat * z))
  | 0, k, h => by simp [selR, Res.eval] at h
  | n + 1, k, h => by
    unfold selR at h
    rw [Res.eval_br] at h
    cases hb : (j == (k : Int)) with
    | true =>
      rw [hb] at h
      simp only [cond_true, Res.eval, Option.some.injEq] at h
      have : j = (k : Int) := by simpa using hb
      subst this
      rw [Int.toNat_natCast]
      exact h.symm
    | false =>
      rw [hb] at h
      simp only [cond_false] at h
      exact selR_ok h

theorem elP_ok {el : TypeId} {b off n : Nat} {j : Int} (hlt : b < h.length) (hv : (elP e el b off j n).eval = some v) : RepV X h w v (.pointer (some (X.addr b (off + j.toNat * (e.T el).size)))) := by
  unfold elP at hv
  split at hv
  · split at hv
    · rename_i hz
      have hz := Nat.eq_of_beq_eq_true hz
      simp only [Res.eval, Option.some.injEq] at hv; subst hv
      rw [hz, Nat.add_comm]
      exact .ep hlt
    · simp [Res.eval] at hv
  · have := selP_ok hv; subst this
    exact .ptr hlt

theorem V_jkIdx {t : TypeId} {x i : Operand} {el : TypeId} {cc : Option Nat} {b : Nat} {m : JM} {kj : IntKind} {j : Int} (hT : TAll P e) (ho : o.op = .indexAddr t x i) (hsh : (e.T t).sh = .slice el cc) (hx : RepC X h w (.jk b m) (ρ x)) (ei : ρ i = .int kj j) (hH : RelH X h w) (hv : (jkIdx e el b m j h).eval = some v) : Yields0 P X h w o ρ v := by
  obtain ⟨d, hd, _, hs'⟩ := (hT t (Env.lt_of_sh hsh (by simp))).und
  rw [hsh] at hs'; simp only at hs'; subst hs'
  generalize hu : ρ x = u at hx
  unfold jkIdx at hv
  split at hv
  · rename_i c2 c LL hb
    split at hv
    case h_2 => simp [Res.eval] at hv
    rename_i hc
    simp only [Nat.beq_eq] at hc
    have hsz := run_sizeOf (P := P) (hT el (Env.lt_of_size (by omega)))
    obtain ⟨hq, hv'⟩ := Res.br_fail hv
    simp only [Bool.and_eq_true, decide_eq_true_eq] at hq
    simp only [Res.eval, Option.some.injEq] at hv'; subst hv'
    obtain ⟨hlt, hj⟩ := repC_jk hx hb
    have hown : X.own b := bg_own hH hb (k := j.toNat) (by omega)
    rcases hj with ⟨_, cap, rfl, hcap⟩ | ⟨hno, _⟩
    · refine ⟨.pointer (some ((X.addr b 0).add (j.toNat * (e.T el).size))), ?_, ?_⟩
      · intro w2 _
        have h2 : j < ((LL.map (·.length)).length + (none : Option Nat).isSome.toNat : Nat) := by simp; exact hq.2
        simp [execOp, ho, hu, ei, Instr.indexAt, asIntOf, run_underlying hd, hq.1, hq.2, hsz]
      · unfold Cx.addr; rw [Addr.add_lit, hc]
        refine .jk hlt (fun c2' c' LL' p' hb' => ⟨?_, fun hm => by cases hm⟩) rfl
        refine ⟨hown, ?_⟩
        simp [Cx.addr]
    · exact absurd hown hno
  · rename_i k c2 c LL hb
    split at hv
    case h_2 => simp [Res.eval] at hv
    rename_i hc
    simp only [Bool.and_eq_true, Nat.beq_eq] at hc
    have hsz := run_sizeOf (P := P) (hT el (Env.lt_of_size (by omega)))
    rw [Res.eval_opt] at hv
    split at hv
    case h_2 => simp at hv
    rename_i L hL
    obtain ⟨hq, hv'⟩ := Res.br_fail hv
    simp only [Bool.and_eq_true, decide_eq_true_eq] at hq
    simp only [Res.eval, Option.some.injEq] at hv'; subst hv'
    obtain ⟨hlt, hj⟩ := repC_jk hx hb
    have hkl := (List.getElem?_eq_some_iff.mp hL).1
    obtain ⟨n, hn, hj⟩ := hj
    simp only [List.getElem?_map, hL, Option.map_some, Option.some.injEq] at hn
    subst hn
    rcases hj with ⟨hs2, cap, rfl, hcap⟩ | ⟨_, h0, _⟩
    · refine ⟨.pointer (some ((⟨(X.sub b k).1.1, (X.sub b k).1.2, none⟩ : Addr).add (j.toNat * (e.T el).size))), ?_, ?_⟩
      · intro w2 _
        simp [execOp, ho, hu, ei, Instr.indexAt, asIntOf, run_underlying hd, hq.1, hq.2, hsz]
      · rw [Addr.add_lit, hc.1]
        refine .jk hlt (fun c2' c' LL' p' hb' => ⟨?_, fun hm => by cases hm⟩) rfl
        rw [hb] at hb'
        simp only [Option.some.injEq, Blk.bg.injEq] at hb'
        obtain ⟨rfl, rfl, h3, rfl⟩ := hb'
        have h3 := eq_of_heq h3
        subst h3
        exact ⟨by simpa using hkl, hs2, by simp⟩
    · omega
  · simp [Res.eval] at hv

theorem V_indexAddr {t : TypeId} {x i : Operand} (hT : TAll P e) (ho : o.op = .indexAddr t x i) (hρ : RepO X h w ρA ρ) (hH : RelH X h w) (hv : (stepV e o ρA h).eval = some v) : Yields0 P X h w o ρ v := by
  have hx := hρ x; have hi := hρ i
  unfold stepV at hv; simp only [ho] at hv
  split at hv
  · rename_i n el b off kj j hsh hxa hia
    rw [hxa] at hx; rw [hia] at hi
    obtain ⟨hlt, hx'⟩ := repC_ptr hx
    have ei := repC_int hi
    obtain ⟨d, hd, _, hs'⟩ := (hT t (Env.lt_of_sh hsh (by simp))).und
    rw [hsh] at hs'; simp only at hs'; subst hs'
    split at hv
    case isFalse => simp [Res.eval] at hv
    rename_i hel
    obtain ⟨hb, hv'⟩ := Res.br_fail hv
    simp only [Bool.and_eq_true, decide_eq_true_eq] at hb
    simp only [Nat.ble_eq] at hel
    have hsz := run_sizeOf (P := P) (hT el (Env.lt_of_size (by omega)))
    refine ⟨.pointer (some ((X.addr b off).add (j.toNat * (e.T el).size))), ?_, ?_⟩
    · intro w2 _; simp [execOp, ho, hx', ei, Instr.indexAt, asIntOf, run_underlying hd, Instr.sureAddr, hb.1, hb.2, hsz]
    · have := elP_ok (X := X) (w := w) hlt hv'
      unfold Cx.addr at this ⊢; rw [Addr.add_lit, Nat.add_assoc]; exact this
  · rename_i n el c xv off kj j hsh hxa hia
    rw [hxa] at hx; rw [hia] at hi
    have ei := repC_int hi
    obtain ⟨d, hd, _, hs'⟩ := (hT t (Env.lt_of_sh hsh (by simp))).und
    rw [hsh] at hs'; simp only at hs'; subst hs'
    split at hv
    case isFalse => simp [Res.eval] at hv
    rename_i hel
    obtain ⟨hb, hv'⟩ := Res.br_fail hv
    simp only [Bool.and_eq_true, decide_eq_true_eq] at hb
    have hv' := selR_ok hv'; subst hv'
    simp only [Nat.ble_eq] at hel
    have hsz := run_sizeOf (P := P) (hT el (Env.lt_of_size (by omega)))
    generalize hu : ρ x = u at hx
    cases hx with
    | @rp _ _ _ k e' cv h1 h2 =>
      refine ⟨.pointer (some (Addr.add ⟨k, e' + off, none⟩ (j.toNat * (e.T el).size))), ?_, ?_⟩
      · intro w2 _; simp [execOp, ho, hu, ei, Instr.indexAt, asIntOf, run_underlying hd, Instr.sureAddr, hb.1, hb.2, hsz]
      · rw [Addr.add_lit, Nat.add_assoc]
        exact .rp h1 h2
  · rename_i el cc c L kj j hsh hxa hia
    rw [hxa] at hx; rw [hia] at hi
    have ei := repC_int hi
    obtain ⟨d, hd, _, hs'⟩ := (hT t (Env.lt_of_sh hsh (by simp))).und
    rw [hsh] at hs'; simp only at hs'; subst hs'
    split at hv
    · rename_i hc
      simp only [Nat.beq_eq] at hc
      have hsp := Cod.sz_pos (c := c)
      have hsz := run_sizeOf (P := P) (hT el (Env.lt_of_size (by omega)))
      obtain ⟨hb, hv'⟩ := Res.br_fail hv
      simp only [decide_eq_true_eq] at hb
      rw [Res.eval_opt] at hv'
      split at hv'
      · rename_i y hy
        simp only [Res.eval, Option.some.injEq] at hv'; subst hv'
        have hjl : j.toNat < L.length := by
          rcases Nat.lt_or_ge j.toNat L.length with h | h
          · exact h
          · simp [List.getElem?_eq_none h] at hy
        generalize hu : ρ x = u at hx
        cases hx with
        | @rs _ _ a cap cv h0 h1 h2 =>
          obtain ⟨k, e', rfl, hj⟩ := h1 _ _ hy
          refine ⟨.pointer (some (Addr.add ⟨k, e', none⟩ (j.toNat * (e.T el).size))), ?_, ?_⟩
          · intro w2 _; simp [execOp, ho, hu, ei, Instr.indexAt, asIntOf, run_underlying hd, hb, hsz, show j < L.length by omega]
          · rw [Addr.add_lit, hc]
            have := @RepC.rp _ _ X h w c y 0 k (e' + j.toNat * Uni.sz c) (cv j.toNat) (fun q hq => hj q hq) (fun q z hq => h2 _ _ _ _ hy hq)
            rw [Nat.add_zero] at this
            exact this
      · simp at hv'
    · simp [Res.eval] at hv
  · rename_i el cc b kj j hsh hxa hia
    rw [hxa] at hx; rw [hia] at hi
    have ei := repC_int hi
    obtain ⟨d, hd, _, hs'⟩ := (hT t (Env.lt_of_sh hsh (by simp))).und
    rw [hsh] at hs'; simp only at hs'; subst hs'
    split at hv
    · rename_i c L hL
      split at hv
      · rename_i hc
        simp only [Nat.beq_eq] at hc
        have hsp := Cod.sz_pos (c := c)
        have hsz := run_sizeOf (P := P) (hT el (Env.lt_of_size (by omega)))
        obtain ⟨hb, hv'⟩ := Res.br_fail hv
        simp only [Bool.and_eq_true, decide_eq_true_eq] at hb
        simp only [Res.eval, Option.some.injEq] at hv'; subst hv'
        generalize hu : ρ x = u at hx
        cases hx with
        | slw hlt h1 _ =>
          rcases h1 c L hL with ⟨ho', cap, rfl, hcap, hroom⟩ | ⟨hno, a, rfl⟩
          · refine ⟨.pointer (some ((X.addr b 0).add (j.toNat * (e.T el).size))), ?_, ?_⟩
            · intro w2 _; simp [execOp, ho, hu, ei, Instr.indexAt, asIntOf, run_underlying hd, hb.1, hb.2, hsz]
            · unfold Cx.addr; rw [Addr.add_lit, hc]
              have := @RepC.ep _ _ X h w b (Uni.sz c) j.toNat 0 hlt
              unfold Cx.addr at this
              rw [Nat.add_zero] at this ⊢
              exact this
          · have := (hH.blk b _ hL).2 hno
            subst this; simp at hb; omega
      · simp [Res.eval] at hv
    · simp [Res.eval] at hv
  · rename_i el cc b m kj j hsh hxa hia
    rw [hxa] at hx; rw [hia] at hi
    exact V_jkIdx hT ho hsh hx (repC_int hi) hH hv
  · rename_i el cc b off n c' kj j hsh hxa hia
    rw [hxa] at hx; rw [hia] at hi
    obtain ⟨hlt, cap, hx', _⟩ := repC_sl hx
    have ei := repC_int hi
    obtain ⟨d, hd, _, hs'⟩ := (hT t (Env.lt_of_sh hsh (by simp))).und
    rw [hsh] at hs'; simp only at hs'; subst hs'
    split at hv
    case isFalse => simp [Res.eval] at hv
    rename_i hel
    obtain ⟨hb, hv'⟩ := Res.br_fail hv
    simp only [Bool.and_eq_true, decide_eq_true_eq] at hb
    simp only [Nat.ble_eq] at hel
    have hsz := run_sizeOf (P := P) (hT el (Env.lt_of_size (by omega)))
    refine ⟨.pointer (some ((X.addr b off).add (j.toNat * (e.T el).size))), ?_, ?_⟩
    · intro w2 _; simp [execOp, ho, hx', ei, Instr.indexAt, asIntOf, run_underlying hd, hb.1, hb.2, hsz]
    · have := elP_ok (X := X) (w := w) hlt hv'
      unfold Cx.addr at this ⊢; rw [Addr.add_lit, Nat.add_assoc]; exact this
  · simp [Res.eval] at hv

theorem V_len {c : Call} (hT : TAll P e) (ho : o.op = .call c) (hc : c.callee = .builtin .len) (hρ : RepO X h w ρA ρ) (hH : RelH X h w) (hv : (stepV e o ρA h).eval = some v) : Yields0 P X h w o ρ v := by
  unfold stepV at hv; simp only [ho, hc] at hv
  split at hv
  · rename_i t x hts hxs
    have hx := hρ x
    have hts' : c.argTypes = #[t] := by apply Array.ext'; simpa using hts
    have hxs' : c.args = #[x] := by apply Array.ext'; simpa using hxs
    have run : ∀ n : Int, (∀ w2, (Builtin.len_ #[t] o.type #[ρ x]).run P w2 = .ok (goInt n) w2) → ∀ w2, True → (execOp ρ o).run P w2 = .ok (.value (.int .i64 n)) w2 := by
      intro n hn w2 _
      simp [execOp, ho, resolve, hc, hts', hxs', invoke, builtin, hn, goInt]
    split at hv
    · rename_i n el hsh
      simp only [Res.eval, Option.some.injEq] at hv; subst hv
      obtain ⟨d, hd, _, hs'⟩ := (hT t (Env.lt_of_sh hsh (by simp))).und
      rw [hsh] at hs'; simp only at hs'; subst hs'
      refine ⟨.int .i64 n, run _ ?_, .int⟩
      intro w2; simp [Builtin.len_, run_underlying hd]
    · rename_i el cc hsh
      obtain ⟨d, hd, _, hs'⟩ := (hT t (Env.lt_of_sh hsh (by simp))).und
      rw [hsh] at hs'; simp only at hs'; subst hs'
      split at hv
      · rename_i b k hy
        rw [hy] at hx
        unfold jkLen at hv
        split at hv
        · rename_i c2 c' LL hb
          rw [Res.eval_opt] at hv
          split at hv
          case h_2 => simp at hv
          rename_i L hL
          simp only [Res.eval, Option.some.injEq] at hv; subst hv
          generalize hu : ρ x = u at hx
          obtain ⟨hlt, n, hn, hj⟩ := repC_jk hx hb
          simp only [List.getElem?_map, hL, Option.map_some, Option.some.injEq] at hn
          subst hn
          rcases hj with ⟨hs2, cap, rfl, hcap⟩ | ⟨_, h0, a, rfl⟩
          · exact ⟨.int .i64 L.length, run _ (fun w2 => by rw [hu]; simp [Builtin.len_, run_underlying hd]), .int⟩
          · exact ⟨.int .i64 L.length, run _ (fun w2 => by rw [hu, h0]; simp [Builtin.len_, run_underlying hd]), .int⟩
        · simp [Res.eval] at hv
      · rename_i y hy
        rw [hy] at hx
        split at hv
        · rename_i n hn
          simp only [Res.eval, Option.some.injEq] at hv; subst hv
          have sl : ∀ a m cap, ρ x = .slice a m cap → n = (m : Int) → Yields0 P X h w o ρ (.c (.int .i64 n)) := by
            intro a m cap hu hm
            subst hm
            exact ⟨.int .i64 m, run _ (fun w2 => by rw [hu]; simp [Builtin.len_, run_underlying hd]), .int⟩
          generalize hu : ρ x = u at hx
          unfold lenC at hn
          split at hn
          · simp at hn; cases hx; exact sl _ _ _ hu (by simpa using hn.symm)
          · simp at hn; cases hx; exact sl _ _ _ hu (by simpa using hn.symm)
          · simp at hn; cases hx; exact sl _ _ _ hu hn.symm
          · split at hn
            · rename_i c' L hL
              simp at hn
              cases hx with
              | slw hlt h1 _ =>
                rcases h1 _ L hL with ⟨ho', cap, rfl, hcap, hroom⟩ | ⟨hno, a, rfl⟩
                · exact sl _ _ _ hu hn.symm
                · have := (hH.blk _ _ hL).2 hno
                  subst this; exact sl _ _ _ hu (by simpa using hn.symm)
            · simp at hn
          · simp at hn; cases hx; exact sl _ _ _ hu hn.symm
          · split at hn
            · rename_i c2 c' LL hb
              simp at hn
              obtain ⟨hlt, hj⟩ := repC_jk hx hb
              rcases hj with ⟨_, cap, rfl, hcap⟩ | ⟨hno, _, a, rfl⟩
              · exact sl _ _ _ hu (by simp; exact hn.symm)
              · have := ((hH.blk _ _ hb).2 hno).1
                subst this; exact sl _ _ _ hu (by simpa using hn.symm)
            · simp at hn
          · simp at hn
        · simp [Res.eval] at hv
      · simp [Res.eval] at hv
    · rename_i hsh
      obtain ⟨d, hd, _, hs'⟩ := (hT t (Env.lt_of_sh hsh (by simp))).und
      rw [hsh] at hs'; simp only at hs'; subst hs'
      split at hv
      · rename_i b hy
        rw [hy] at hx
        simp only [Res.eval, Option.some.injEq] at hv; subst hv
        exact ⟨.int .i64 b.size, run _ (fun w2 => by rw [repC_str hx]; simp [Builtin.len_, run_underlying hd]), .int⟩
      · simp [Res.eval] at hv
    · simp [Res.eval] at hv
  · simp [Res.eval] at hv

theorem rs_sub {c : Nat} {L : List (Uni.val c)} {a : Option Addr} {n cap l k : Nat} (r : RepC X h w (.rs c L) (.slice a n cap)) (hl : l ≤ k) (hk : k ≤ n) (hn : n = L.length) :
    RepC X h w (.rs c ((L.take k).drop l)) (sliced a l k cap (Uni.sz c)) := by
  subst hn
  cases r with
  | @rs _ _ _ _ cv h0 h1 h2 =>
    have hlen : ((L.take k).drop l).length = k - l := by simp; omega
    unfold sliced
    rw [← hlen]
    refine .rs (cv := fun i j => cv (l + i) j) (by rw [hlen]; omega) (fun i x hx => ?_) (fun i x j y hx hy => ?_)
    · rw [List.getElem?_drop, List.getElem?_take] at hx
      split at hx
      · rename_i hlk
        obtain ⟨q, e', ha, hj⟩ := h1 (l + i) x hx
        have hi : l + i < L.length := by
          rcases Nat.lt_or_ge (l + i) L.length with h | h
          · exact h
          · simp [List.getElem?_eq_none h] at hx
        rw [if_neg (by omega), ha]
        refine ⟨q, e' + l * Uni.sz c, by simp [Addr.add_lit], fun j hj' => ?_⟩
        have := hj j hj'
        rw [show e' + l * Uni.sz c + i * Uni.sz c + j = e' + (l + i) * Uni.sz c + j by rw [Nat.add_mul]; omega]
        exact this
      · simp at hx
    · rw [List.getElem?_drop, List.getElem?_take] at hx
      split at hx
      · exact h2 _ _ _ _ hx hy
      · simp at hx

theorem ival_int {x : AV} {k : IntKind} {n : Int} (hx : ival x = some (k, n)) : x = .c (.int k n) := by
  unfold ival at hx
  split at hx
  · simp at hx; obtain ⟨rfl, rfl⟩ := hx; rfl
  · simp at hx

theorem decN_at {c : Nat} {l : List Cl} : ∀ {n q : Nat} {L : List (Uni.val c)}, decN c l q n = some L → L.length = n ∧ ∀ i x, L[i]? = some x → Cod.enc c x = slice l (q + i * Uni.sz c) (Uni.sz c)
  | 0, q, L, h => by simp [decN] at h; subst h; simp
  | n + 1, q, L, h => by
    unfold decN at h
    split at h
    · rename_i x r hx hr
      simp at h; subst h
      obtain ⟨h1, h2⟩ := decN_at hr
      refine ⟨by simp [h1], fun i y hy => ?_⟩
      cases i with
      | zero => simp at hy; subst hy; simpa using Cod.dec_enc _ _ _ hx
      | succ i =>
        simp at hy
        rw [h2 i y hy]
        rw [Nat.succ_mul]; congr 1; omega
    · simp at h

theorem rp_rows {c k' off n : Nat} {x : Uni.val c} {L : List (Uni.val k')} {k e' : Nat} {cv : Nat → Value} (hd : decN k' (Cod.enc c x) off n = some L) (h1 : ∀ j, j < Uni.sz c → X.F k (e' + j) ∧ w.cell? ⟨k, e' + j, none⟩ = some (cv j))
    (h2 : ∀ j y, (Cod.enc c x)[j]? = some y → RepC X h w y (cv j)) : RepC X h w (.rs k' L) (.slice (some ⟨k, e' + off, none⟩) n n) := by
  obtain ⟨hl, hg⟩ := decN_at hd
  subst hl
  have hlen := Cod.enc_len c x
  have bnd : ∀ i y, L[i]? = some y → off + i * Uni.sz k' + Uni.sz k' ≤ Uni.sz c := fun i y hy => by
    have h3 := hg i y hy
    have h4 := Cod.enc_len k' y
    have h5 := Cod.sz_pos (c := k')
    rw [h3] at h4
    simp only [slice, List.length_take, List.length_drop] at h4
    omega
  refine .rs (cv := fun i j => cv (off + i * Uni.sz k' + j)) (Nat.le_refl _) (fun i y hy => ⟨k, e' + off, rfl, fun j hj => ?_⟩) (fun i y j z hy hz => ?_)
  · have := bnd i y hy
    have := h1 (off + i * Uni.sz k' + j) (by omega)
    rw [show e' + off + i * Uni.sz k' + j = e' + (off + i * Uni.sz k' + j) by omega]
    exact this
  · rw [hg i y hy] at hz
    simp only [slice, List.getElem?_take, List.getElem?_drop] at hz
    split at hz
    · exact h2 _ _ hz
    · simp at hz

theorem V_slice {t : TypeId} {x : Operand} {lo hi mx : Option Operand} (hT : TAll P e) (ho : o.op = .slice t x lo hi mx) (hρ : RepO X h w ρA ρ) (hv : (stepV e o ρA h).eval = some v) : Yields0 P X h w o ρ v := by
  have hx := hρ x
  unfold stepV at hv; simp only [ho] at hv
  have arg : ∀ {q : Option Operand} {kk : IntKind} {n : Int}, (q.map ρA).map ival = some (some (kk, n)) → q.map ρ = some (.int kk n) := by
    intro q kk n hq
    cases q with
    | none => simp at hq
    | some q =>
      simp at hq
      have := hρ q
      rw [ival_int hq] at this
      simp [repC_int this]
  have argn : ∀ {q : Option Operand}, (q.map ρA).map ival = none → q.map ρ = none := by
    intro q hq
    cases q with
    | none => rfl
    | some q => simp at hq
  split at hv
  · rename_i el cc c L hsh hxa
    rw [hxa] at hx
    obtain ⟨d, hd, _, hs'⟩ := (hT t (Env.lt_of_sh hsh (by simp))).und
    rw [hsh] at hs'; simp only at hs'; subst hs'
    have hd' : P.underlying t = some (.slice (P.elem t)) := by simp [Program.elem, hd]
    have hel : P.elem t = el := by simp [Program.elem, hd]
    split at hv
    case isFalse => simp [Res.eval] at hv
    rename_i hc
    simp only [Nat.beq_eq] at hc
    have hsp := Cod.sz_pos (c := c)
    have hsz := run_sizeOf (P := P) (hT el (Env.lt_of_size (by omega)))
    generalize hu : ρ x = u at hx
    have hsl : ∃ a cap, u = .slice a L.length cap ∧ L.length ≤ cap := by cases hx; exact ⟨_, _, rfl, by assumption⟩
    obtain ⟨a, cap, rfl, hcap⟩ := hsl
    have run : ∀ s, (∀ w2, (Instr.slice t (.slice a L.length cap) (lo.map ρ) (hi.map ρ) none).run P w2 = .ok s w2) → ∀ w2, True → (execOp ρ o).run P w2 = .ok (.value s) w2 := by
      intro s hs w2 _
      simp [execOp, ho, hu, run_sliceAt_slice w2 t _ _ _ _ hd', hs]
    have hsz' : ∀ w2, (Go.sizeOf (P.elem t)).run P w2 = .ok (Uni.sz c) w2 := by intro w2; rw [hel, hsz, hc]
    split at hv
    · rename_i h1 h2
      simp only [Res.eval, Option.some.injEq] at hv; subst hv
      have := rs_sub hx (Nat.zero_le _) (Nat.le_refl _) rfl
      simp at this
      refine ⟨_, run _ ?_, this⟩
      intro w2; rw [argn h1, argn h2, run_slice_all w2 t a _ _ hd', hsz']; rfl
    · rename_i k n h1 h2
      obtain ⟨hb, hv'⟩ := Res.br_fail hv
      simp only [Bool.and_eq_true, decide_eq_true_eq] at hb
      simp only [Res.eval, Option.some.injEq] at hv'; subst hv'
      have := rs_sub (l := 0) (k := n.toNat) hx (Nat.zero_le _) (by omega) rfl
      simp at this
      refine ⟨_, run _ ?_, this⟩
      intro w2; rw [argn h1, arg h2, run_slice_h w2 t a _ _ hd' _ _ hb.1 (by omega), hsz']; rfl
    · rename_i k m h1 h2
      obtain ⟨hb, hv'⟩ := Res.br_fail hv
      simp only [Bool.and_eq_true, decide_eq_true_eq] at hb
      simp only [Res.eval, Option.some.injEq] at hv'; subst hv'
      have := rs_sub (l := m.toNat) (k := L.length) hx (by omega) (Nat.le_refl _) rfl
      simp at this
      refine ⟨_, run _ ?_, this⟩
      intro w2; rw [arg h1, argn h2, run_slice_l w2 t a _ _ hd' _ _ hb.1 hb.2, hsz']; rfl
    · rename_i k m k' n h1 h2
      obtain ⟨hb, hv'⟩ := Res.br_fail hv
      simp only [Bool.and_eq_true, decide_eq_true_eq] at hb
      simp only [Res.eval, Option.some.injEq] at hv'; subst hv'
      have := rs_sub (l := m.toNat) (k := n.toNat) hx (by omega) (by omega) rfl
      refine ⟨_, run _ ?_, this⟩
      intro w2; rw [arg h1, arg h2, run_slice_lh w2 t a _ _ hd' _ _ _ _ hb.1.1 hb.1.2 (by omega), hsz']; rfl
    · simp [Res.eval] at hv
  · rename_i s hsh hxa
    rw [hxa] at hx
    obtain ⟨d, hd, _, hs'⟩ := (hT t (Env.lt_of_sh hsh (by simp))).und
    rw [hsh] at hs'; simp only at hs'; subst hs'
    split at hv
    · rename_i k n h1 h2
      obtain ⟨hb, hv'⟩ := Res.br_fail hv
      simp only [Bool.and_eq_true, decide_eq_true_eq] at hb
      simp only [Res.eval, Option.some.injEq] at hv'; subst hv'
      refine ⟨.string (s.extract 0 n.toNat), ?_, .str⟩
      intro w2 _; simp [execOp, ho, repC_str hx, run_sliceAt_string w2 t _ _ _ _ hd, argn h1, arg h2, run_slice_string_h w2 t s hd _ _ hb.1 hb.2]
    · simp [Res.eval] at hv
  · rename_i n el b off hsh hxa
    rw [hxa] at hx
    obtain ⟨hlt, hx'⟩ := repC_ptr hx
    obtain ⟨d, hd, _, hs'⟩ := (hT t (Env.lt_of_sh hsh (by simp))).und
    rw [hsh] at hs'; simp only at hs'; subst hs'
    have hd' : P.underlying t = some (.array (P.arrayLen t) (P.elem t)) := by simp [Program.elem, Program.arrayLen, hd]
    split at hv
    · split at hv
      · rename_i hc
        simp only [Bool.and_eq_true, Nat.ble_eq] at hc
        simp only [Res.eval, Option.some.injEq] at hv; subst hv
        have hsz := run_sizeOf (P := P) (hT el (Env.lt_of_size (by omega)))
        refine ⟨.slice (some (X.addr b off)) n n, ?_, .sl hlt (Nat.le_refl _)⟩
        intro w2 _; simp [execOp, ho, hx', Instr.sliceAt, run_underlying hd, Instr.sureAddr, Instr.sliceBounds, hsz, Addr.add]
      · simp [Res.eval] at hv
    · simp [Res.eval] at hv
  · rename_i n el c xv off hsh hxa
    rw [hxa] at hx
    obtain ⟨d, hd, _, hs'⟩ := (hT t (Env.lt_of_sh hsh (by simp))).und
    rw [hsh] at hs'; simp only at hs'; subst hs'
    split at hv
    · split at hv
      · rename_i L hL
        split at hv
        · rename_i hc
          simp only [Nat.ble_eq] at hc
          simp only [Res.eval, Option.some.injEq] at hv; subst hv
          have hsz := run_sizeOf (P := P) (hT el (Env.lt_of_size (by omega)))
          generalize hu : ρ x = u at hx
          cases hx with
          | @rp _ _ _ k e' cv h1 h2 =>
            refine ⟨.slice (some ⟨k, e' + off, none⟩) n n, ?_, rp_rows hL h1 h2⟩
            intro w2 _; simp [execOp, ho, hu, Instr.sliceAt, run_underlying hd, Instr.sureAddr, Instr.sliceBounds, hsz, Addr.add]
        · simp [Res.eval] at hv
      · simp [Res.eval] at hv
    · simp [Res.eval] at hv
  · simp [Res.eval] at hv

theorem fold_ok (f : Value → Value → Sem Value) (g : Int → Int → Int) (hf : ∀ k k' x y, f (.int k x) (.int k' y) = pure (.int k (g x y))) {k : IntKind} :
    ∀ {l : List AV} {vs : List Value} {x n : Int}, All2 (RepV X h w) l vs → foldI g k x l = some n → ∀ w2, (vs.foldlM f (.int k x)).run P w2 = .ok (.int k n) w2
  | [], [], x, n, .nil, hn => by intro w2; simp [foldI] at hn; subst hn; simp
  | a :: l, u :: vs, x, n, .cons hr ht, hn => by
    intro w2
    unfold foldI at hn
    split at hn
    · simp at *
    · rename_i x' k' y r heq
      simp at heq
      obtain ⟨rfl, rfl⟩ := heq
      split at hn
      · rw [repC_int hr]
        simp only [List.foldlM_cons, hf, Sem.run_bind, Sem.run_pure, Result.andThen_ok]
        exact fold_ok f g hf ht hn w2
      · simp at hn
    · simp at hn

theorem V_minmax {c : Call} {b : Builtin} (hb : b = .min ∨ b = .max) (ho : o.op = .call c) (hc : c.callee = .builtin b) (hρ : RepO X h w ρA ρ) (hv : (stepV e o ρA h).eval = some v) : Yields0 P X h w o ρ v := by
  have hargs := repO_map hρ c.args.toList
  rcases hb with rfl | rfl
  all_goals
    unfold stepV at hv; simp only [ho, hc] at hv
    split at hv
    · rename_i k x r hr
      split at hv
      · rename_i n hn
        simp only [Res.eval, Option.some.injEq] at hv; subst hv
        rw [hr] at hargs
        generalize hvs : c.args.toList.map ρ = vs at hargs
        cases hargs with
        | @cons _ u _ us h1 h2 =>
          have h1' := repC_int h1
          subst h1'
          refine ⟨.int k n, fun w2 _ => ?_, .int⟩
          first
          | have := fold_ok (P := P) (w := w) Builtin.min2 mnI (fun k k' x y => rfl) h2 hn w2
            simp [execOp, ho, resolve, hc, invoke, builtin, Builtin.min_, hvs, this]
          | have := fold_ok (P := P) (w := w) Builtin.max2 mxI (fun k k' x y => rfl) h2 hn w2
            simp [execOp, ho, resolve, hc, invoke, builtin, Builtin.max_, hvs, this]
      · simp [Res.eval] at hv
    · simp [Res.eval] at hv

end
end Ab
