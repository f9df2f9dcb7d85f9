/- Bytes taken as a text, and back. -/
import Derived.Test.YtllohgmahflpaaaAbAppend
import Derived.Laws.IdiomStrings
set_option linter.unusedSectionVars false
set_option linter.unusedSimpArgs false
set_option linter.unusedVariables false
namespace Ab
open Go
section
variable [Uni] [Cod]
variable {P : Program} {e : Env} {X Y : Cx} {h i : List Blk} {w w' : World} {o : Oper} {ρA : Operand → AV} {ρ : Operand → Value} {v : AV}

theorem u8_sz {c : Nat} (hu : Cod.u8 c = true) (x : Uni.val c) : Uni.sz c = 1 := by
  obtain ⟨n, hn⟩ := Cod.u8_ok c hu x
  rw [← Cod.enc_len c x, hn]; rfl

/-- A row that is read: where it stands. -/
theorem snap_news (hH : RelH X h w) {x : Cl} {u : Value} {c : Nat} {L : List (Uni.val c)} (hu8 : Cod.u8 c = true) (hs : snap h x = .rs c L) (r : RepC X h w x u) : (∃ a cap, u = .slice a L.length cap) ∧ (0 < L.length → News X h w c L u) := by
  cases x with
  | rs c' L' =>
    replace hs : Cl.rs c' L' = .rs c L := hs
    simp only [Cl.rs.injEq] at hs
    obtain ⟨rfl, hs⟩ := hs
    cases hs
    refine ⟨?_, fun h0 => news_rs r h0⟩
    cases r with
    | rs _ _ _ => exact ⟨_, _, rfl⟩
  | rn z c' L' =>
    replace hs : Cl.rs c' L' = .rs c L := hs
    simp only [Cl.rs.injEq] at hs
    obtain ⟨rfl, hs⟩ := hs
    cases hs
    cases r with
    | rn hz h1 h2 h3 => exact ⟨⟨_, _, rfl⟩, fun h0 => news_rs (.rs h1 h2 h3) h0⟩
  | slw b =>
    replace hs : (match h[b]? with
      | some (.row c L) => Cl.rs c L
      | _ => .top) = .rs c L := hs
    split at hs
    · rename_i c' L' hb
      simp only [Cl.rs.injEq] at hs
      obtain ⟨rfl, hs⟩ := hs
      cases hs
      refine ⟨?_, fun h0 => news_slw hH hb r h0⟩
      cases r with
      | slw hlt h1 h3 =>
        rcases h1 c' _ hb with ⟨ho, cap, hv, hc, hr⟩ | ⟨ho, a, hv⟩
        · exact ⟨_, _, hv⟩
        · have := (hH.blk b _ hb).2 ho
          subst this
          exact ⟨a, 0, hv⟩
    · cases hs
  | sl b o n cc =>
    replace hs : (match cc, h[b]? with
      | some c, some (.cells l) => match decN c l o n with
        | some L => Cl.rs c L
        | none => .top
      | _, _ => .top) = .rs c L := hs
    split at hs
    · rename_i c' l hb
      split at hs
      · rename_i L' hd
        simp only [Cl.rs.injEq] at hs
        obtain ⟨rfl, hs⟩ := hs
        cases hs
        refine ⟨?_, fun h0 => news_sl hH hb hd r⟩
        have hl := (decN_get' hd).1
        cases r with
        | sl _ _ => exact ⟨_, _, by rw [hl]⟩
      · cases hs
    · cases hs
  | jk b m =>
    replace hs : (match m, h[b]? with
      | .whole, some (.bg c2 c LL none) => (match Cod.nest c2 c with
        | some f => Cl.rs c2 (LL.map f)
        | none => .top)
      | _, _ => .top) = .rs c L := hs
    split at hs
    · rename_i c2 c1 LL hb
      split at hs
      · rename_i f hf
        simp only [Cl.rs.injEq] at hs
        obtain ⟨rfl, hs⟩ := hs
        have hs := eq_of_heq hs
        subst hs
        obtain ⟨_, hj⟩ := repC_jk r hb
        refine ⟨?_, fun h0 => ?_⟩
        · rcases hj with ⟨_, cap, rfl, _⟩ | ⟨hno, _, a, rfl⟩
          · exact ⟨some (X.addr b 0), cap, by simp⟩
          · have := ((hH.blk _ _ hb).2 hno).1
            subst this; exact ⟨a, 0, rfl⟩
        · cases LL with
          | nil => simp at h0
          | cons x0 r0 =>
            obtain ⟨n, hn⟩ := Cod.u8_ok c2 hu8 (f x0)
            have := Cod.nest_ok c2 c1 f hf x0
            rw [hn] at this
            simp at this
      · cases hs
    · cases hs
  | fn f a b =>
    replace hs : (match a, b with
      | [], [] => Cl.fn f [] []
      | _, _ => .top) = .rs c L := hs
    split at hs <;> cases hs
  | _ => cases hs

theorem convB_run {s d el : TypeId} {c : Nat} {L : List (Uni.val c)} {u : Value} (hs : P.underlying s = some (.slice el)) (he : P.underlying el = some (.int .u8)) (hd : P.underlying d = some .string) (hu : Cod.u8 c = true) (h1 : ∃ a cap, u = .slice a L.length cap) (h2 : 0 < L.length → News X h w c L u) {w2 : World} (ha : Agree w w2) :
    (convert s d u).run P w2 = .ok (.string (strO c L)) w2 := by
  cases hL : L with
  | nil =>
    subst hL
    obtain ⟨a, cap, rfl⟩ := h1
    rw [run_convert_bytes_string w2 s d el a _ cap hs he hd]
    cases a with
    | none => rfl
    | some a =>
      have := run_bytesToString (P := P) w2 a 0 cap [] (run_loadCells_list (P := P) w2 a [] (fun j v hj => by simp at hj))
      simp at this
      exact this
  | cons x0 L0 =>
    rw [← hL]
    obtain ⟨a, cap, ds, rfl, hrc, hcell, _⟩ := h2 (by rw [hL]; simp)
    rw [run_convert_bytes_string w2 s d el _ _ cap hs he hd]
    have hz := u8_sz hu x0
    have hds : ds = (L.map fun x => selI (Cod.enc c x) 0).map (Value.int .u8) := by
      apply List.ext_getElem?
      intro n
      rcases Nat.lt_or_ge n L.length with hlt | hge
      · obtain ⟨q, hq⟩ := Cod.u8_ok c hu L[n]
        obtain ⟨u', hu', ru⟩ := hrc.2 n L[n] 0 (.int .u8 q) (List.getElem?_eq_getElem hlt) (by rw [hq]; rfl)
        rw [hz, Nat.mul_one, Nat.add_zero] at hu'
        rw [hu']
        cases ru
        simp [List.getElem?_eq_getElem hlt, hq, selI]
      · rw [List.getElem?_eq_none (by rw [hrc.1, hz]; omega), List.getElem?_eq_none (by simpa using hge)]
    have hl := run_loadCells_list (P := P) w2 a ds (fun j u hj => ha _ _ (hcell j u hj))
    rw [show ds.length = L.length by rw [hrc.1, hz, Nat.mul_one]] at hl
    rw [hds] at hl
    rw [run_bytesToString w2 a L.length cap _ hl, foldl_push_bytes]
    simp [strO, strOfNums, ByteArray.empty, ByteArray.emptyWithCapacity]
    rfl

theorem convB_ok {s d el : TypeId} {cc : Option Nat} {x : Operand} (hT : TAll P e) (ho : o.op = .convert s d x) (hs : (e.T s).sh = .slice el cc) (hd : (e.T d).sh = .str) (hρ : RepO X h w ρA ρ) (hH : RelH X h w) (hv : (convB e el (ρA x) h).eval = some v) : Yields1 P X h w o ρ v := by
  have hx := hρ x
  obtain ⟨ds, hds, _, hs'⟩ := (hT s (Env.lt_of_sh hs (by simp))).und
  obtain ⟨dd, hdd, _, hd'⟩ := (hT d (Env.lt_of_sh hd (by simp))).und
  rw [hs] at hs'; rw [hd] at hd'; simp only at hs' hd'; subst hs'; subst hd'
  have eu : (e.T el).sh = .int .u8 → P.underlying el = some (.int .u8) := fun hel => by
    obtain ⟨de, hde, _, he'⟩ := (hT el (Env.lt_of_sh hel (by simp))).und
    rw [hel] at he'; simp only at he'; subst he'; exact hde
  unfold convB at hv
  split at hv
  · rename_i hel hb
    simp only [Res.eval, Option.some.injEq] at hv; subst hv
    rw [hb] at hx
    have hx : RepC X h w .nils (ρ x) := hx
    generalize hu : ρ x = u at hx
    cases hx
    refine ⟨.string ⟨#[]⟩, fun w2 _ => ?_, .str⟩
    simp only [execOp, ho, hu, Sem.run_bind, run_convert_bytes_string w2 s d el none 0 0 hds (eu hel) hdd]
    rfl
  · rename_i hel hb
    simp only [Res.eval, Option.some.injEq] at hv; subst hv
    rw [hb] at hx
    have hx : RepC X h w .ez (ρ x) := hx
    generalize hu : ρ x = u at hx
    cases hx with
    | @ez a =>
    refine ⟨.string ⟨#[]⟩, fun w2 _ => ?_, .str⟩
    have key : (convert s d (.slice a 0 0)).run P w2 = .ok (.string ⟨#[]⟩) w2 := by
      rw [run_convert_bytes_string w2 s d el _ 0 0 hds (eu hel) hdd]
      cases a with
      | none => rfl
      | some a =>
        have := run_bytesToString (P := P) w2 a 0 0 [] (run_loadCells_list (P := P) w2 a [] (fun j v hj => by simp at hj))
        simp at this
        exact this
    simp only [execOp, ho, hu, Sem.run_bind, key]
    rfl
  · rename_i y _ _ hel hb
    split at hv
    · rename_i c L hsn
      split at hv
      · rename_i hu8
        simp only [Res.eval, Option.some.injEq] at hv; subst hv
        rw [hb] at hx
        obtain ⟨h1, h2⟩ := snap_news hH hu8 hsn hx
        refine ⟨.string (strO c L), fun w2 hw => ?_, .str⟩
        have key := convB_run (d := d) hds (eu hel) hdd hu8 h1 h2 hw
        simp only [execOp, ho, Sem.run_bind, key]
        rfl
      · simp [Res.eval] at hv
    · simp [Res.eval] at hv
  · simp [Res.eval] at hv

theorem bytesL_len {c : Nat} : ∀ {l : List UInt8} {L : List (Uni.val c)}, bytesL c l = some L → L.length = l.length ∧ ∀ (i : Nat) x, L[i]? = some x → ∃ b, l[i]? = some b ∧ Cod.enc c x = [.int .u8 b.toNat]
  | [], L, hb => by simp [bytesL] at hb; subst hb; exact ⟨rfl, fun i x hx => by simp at hx⟩
  | b :: r, L, hb => by
    unfold bytesL at hb
    split at hb
    · rename_i x l hx hr
      simp only [Option.some.injEq] at hb; subst hb
      obtain ⟨h1, h2⟩ := bytesL_len hr
      refine ⟨by simp [h1], fun i y hy => ?_⟩
      cases i with
      | zero => simp at hy; subst hy; exact ⟨b, rfl, Cod.dec_enc c _ _ hx⟩
      | succ i => simpa using h2 i y (by simpa using hy)
    · cases hb

/-- New memory that nobody writes. -/
def Cx.addF (X : Cx) (k n : Nat) : Cx := { X with F := fun k' q => X.F k' q ∨ (k' = k ∧ q < n) }

theorem Good.addF (hH : RelH X h w) (hb : RowKit.Below w.heap.size w w') (n : Nat) (hk : w.heap.size < w'.heap.size) : Good X h w (X.addF w.heap.size n) h w' := by
  have g := Good.more hH hb
  have m : Mono X h (X.addF w.heap.size n) h := ⟨Nat.le_refl _, fun _ _ => rfl, fun _ _ => Iff.rfl, fun _ _ hf => .inl hf, fun b c L' _ hL => ⟨L', hL, rfl⟩, Mono.bgOf (fun _ _ => rfl) (fun _ _ => Iff.rfl) (fun _ _ => rfl) (fun b c2 c LL' p' _ hL => ⟨LL', p', hL, rfl, rfl⟩)⟩
  refine ⟨⟨fun b bl hbl => (g.rel.blk b bl hbl).keep hbl m (Ext.refl _ w') (fun _ _ _ => rfl) rfl (fun _ _ => sameMk.refl _), g.rel.disj, fun b k q hf hF => ?_, fun k q hF => ?_⟩, m, g.ext, fun k q hF => ?_, g.ffoot⟩
  · have hf : foot X h b k q := hf
    rcases hF with hF | ⟨rfl, _⟩
    · exact hH.free b k q hf hF
    · have := foot_lt hH hf; omega
  · rcases hF with hF | ⟨rfl, _⟩
    · exact g.rel.fsz k q hF
    · exact hk
  · rcases hF with hF | ⟨rfl, _⟩
    · exact .inl hF
    · exact .inr (.inl (Nat.le_refl _))

/-- A slice of bytes taken as what it is: its object gets a mark behind its cells. -/
theorem run_convert_same {t el : TypeId} {k q n c : Nat} {C : Array Value} {e2 : TypeId} {fz : Nat × Nat} (ht : P.underlying t = some (.slice el)) (he : P.underlying el = some (.int .u8)) (hk : w.heap[k]? = some (.cells C e2 fz)) (hfz : harm fz C.size) :
    ∃ w', (convert t t (.slice (some ⟨k, q, none⟩) n c)).run P w = .ok (.slice (some ⟨k, q, none⟩) n c) w' ∧ w'.heap[k]? = some (.cells C e2 (C.size, C.size + 1)) ∧ (∀ k', k' ≠ k → w'.heap[k']? = w.heap[k']?) ∧ w'.os = w.os ∧ w'.tape = w.tape ∧ w'.output = w.output ∧ w'.heap.size = w.heap.size := by
  have hsh : w.shape? k = some (e2, C.size) := by
    unfold World.shape?
    rw [hk]
  refine ⟨w.freeze ⟨k, C.size, none⟩ 1, ?_, ?_, fun k' hne => ?_, ?_, ?_, ?_, ?_⟩
  · simp [convert, run_underlying ht, run_underlying he, markStringish, hsh]
  · unfold World.freeze
    rw [if_neg (by decide)]
    show (w.heap.modify k _)[k]? = _
    rw [Array.getElem?_modify]
    simp only [if_true, hk, Option.map_some]
    rcases hfz with rfl | rfl
    · simp
    · simp
  · unfold World.freeze
    rw [if_neg (by decide)]
    show (w.heap.modify k _)[k']? = _
    rw [Array.getElem?_modify, if_neg (fun hh => hne hh.symm)]
  all_goals (unfold World.freeze; rw [if_neg (by decide)])
  show (w.heap.modify k _).size = _
  simp

theorem Good.marked (hH : RelH X h w) {b k : Nat} {C : Array Value} {e2 : TypeId} {fz : Nat × Nat} (hf : ∃ q, foot X h b k q) (hn : ∃ q, ¬ foot X h b k q) (hk : w.heap[k]? = some (.cells C e2 fz)) (hk' : w'.heap[k]? = some (.cells C e2 (C.size, C.size + 1))) (hoth : ∀ k', k' ≠ k → w'.heap[k']? = w.heap[k']?)
    (ho : w'.os = w.os) (ht : w'.tape = w.tape) (hu : w'.output = w.output) (hs : w'.heap.size = w.heap.size) : Good X h w X h w' := by
  have hcell : ∀ k' q, w'.cell? ⟨k', q, none⟩ = w.cell? ⟨k', q, none⟩ := by
    intro k' q
    by_cases hkk : k' = k
    · subst hkk; rw [cell_of_heap hk', cell_of_heap hk]
    · exact World.cell?_of_block (w := w) (hoth k' hkk)
  have ex : ∀ G : Nat → Nat → Prop, (∃ q, ¬ G k q) → Ext G w w' := by
    intro G hG
    refine ⟨ho, ht, hu, by omega, fun k' _ => ?_, fun k' q _ => hcell k' q, fun k' _ hall => ?_⟩
    · by_cases hkk : k' = k
      · subst hkk; rw [hk, hk']; exact ⟨_, _, rfl, rfl, fun _ => .inr rfl⟩
      · rw [hoth k' hkk]; exact sameHdr.refl _
    · by_cases hkk : k' = k
      · subst hkk
        obtain ⟨q, hq⟩ := hG
        exact absurd (hall q) hq
      · rw [hoth k' hkk]; exact sameMk.refl _
  obtain ⟨q, hq⟩ := hf
  have exF := ex X.F ⟨q, hH.free b k q hq⟩
  refine ⟨⟨fun b' bl hb' => (hH.blk b' bl hb').keep hb' (Mono.refl X h) exF (fun k' q' _ => hcell k' q') rfl (fun k' hall => ?_), hH.disj, hH.free, fun k' q' hf => by rw [hs]; exact hH.fsz k' q' hf⟩, Mono.refl X h, ex _ ⟨q, fun hfr => hfr.2 b hq⟩, fun _ _ hf => .inl hf, fun b' _ _ hf => .inr ⟨b', hf⟩⟩
  by_cases hkk : k' = k
  · subst hkk
    have hbb := hH.disj b' b k' q (hall q) hq
    subst hbb
    obtain ⟨q2, hq2⟩ := hn
    exact absurd (hall q2) hq2
  · rw [hoth k' hkk]; exact sameMk.refl _

theorem H_convert {s d : TypeId} {x : Operand} {h' : List Blk} (hT : TAll P e) (ho : o.op = .convert s d x) (hρ : RepO X h w ρA ρ) (hH : RelH X h w) (hv : (stepH e o ρA h).eval = some (v, h')) : Steps1 P X h w o ρ v h' := by
  have hx := hρ x
  unfold stepH at hv; simp only [ho] at hv
  split at hv
  case h_3 => simp [Res.eval] at hv
  case h_2 =>
    rename_i el0 c0 el c1 b q n cc hs hd hb
    split at hv
    case h_2 => simp [Res.eval] at hv
    rename_i y ys hel hsd hbl
    have hsd := Nat.eq_of_beq_eq_true hsd
    subst hsd
    simp only [Res.eval, Option.some.injEq, Prod.mk.injEq] at hv
    obtain ⟨rfl, rfl⟩ := hv
    rw [hb] at hx
    obtain ⟨ds, hds, _, hs'⟩ := (hT s (Env.lt_of_sh hs (by simp))).und
    obtain ⟨de, hde, _, he'⟩ := (hT el (Env.lt_of_sh hel (by simp))).und
    rw [hd] at hs'; rw [hel] at he'; simp only at hs' he'; subst hs'; subst he'
    obtain ⟨carr, e2, ⟨fz, hw, hfz⟩, hsz, _⟩ := hH.blk b _ hbl
    have hx0 : RepC X h w (.sl b q n cc) (ρ x) := hx
    generalize hu : ρ x = u at hx0
    have hx1 := hx0
    cases hx0 with
    | @sl _ _ _ _ cap hlt hcap =>
    obtain ⟨w', hrun, h1, h2, h3, h4, h5, h6⟩ := run_convert_same (P := P) (q := (X.ρ b).2 + q) (n := n) (c := cap) hds hde hw hfz
    have hg := Good.marked hH (b := b) ⟨(X.ρ b).2, by unfold foot; rw [hbl]; exact ⟨rfl, Nat.le_refl _, by simp⟩⟩ ⟨(X.ρ b).2 + (_ :: _ : List Cl).length, by unfold foot; rw [hbl]; exact fun hh => Nat.lt_irrefl _ hh.2.2⟩ hw h1 h2 h3 h4 h5 h6
    refine ⟨.slice (some (X.addr b q)) n cap, w', X, .inl ?_, hx1.mono hg.mono (hg.extF hH), hg, fun hgr => by simp [grO, ho] at hgr⟩
    have hrun' : (convert s s (.slice (some (X.addr b q)) n cap)).run P w = .ok (.slice (some (X.addr b q)) n cap) w' := hrun
    simp only [execOp, ho, hu, Sem.run_bind, hrun', Result.andThen_ok]
    rfl
  rename_i el c b hs hd hb
  split at hv
  case h_2 => simp [Res.eval] at hv
  rename_i L hel hL
  split at hv
  case isFalse => simp [Res.eval] at hv
  rename_i hz
  have hz := Nat.eq_of_beq_eq_true hz
  simp only [Res.eval, Option.some.injEq, Prod.mk.injEq] at hv
  obtain ⟨rfl, rfl⟩ := hv
  rw [hb] at hx
  obtain ⟨ds, hds, _, hs'⟩ := (hT s (Env.lt_of_sh hs (by simp))).und
  obtain ⟨dd, hdd, _, hd'⟩ := (hT d (Env.lt_of_sh hd (by simp))).und
  obtain ⟨de, hde, _, he'⟩ := (hT el (Env.lt_of_sh hel (by simp))).und
  rw [hs] at hs'; rw [hd] at hd'; rw [hel] at he'; simp only at hs' hd' he'; subst hs'; subst hd'; subst he'
  have run := run_bytes_of_string (P := P) w s d el b hds hdd hde
  generalize hcap : grownCap w b.size 0 el = cap at run
  obtain ⟨h1, h2⟩ := bytesL_len hL
  have hn : L.length = b.size := by rw [h1]; rfl
  have hbel : RowKit.Below w.heap.size w (w.drew.alloc (.cells (bytesRow b cap) el ((bytesRow b cap).size, (bytesRow b cap).size + 1))) := by
    have h0 := below_push w.drew (.cells (bytesRow b cap) el ((bytesRow b cap).size, (bytesRow b cap).size + 1))
    exact ⟨rfl, rfl, rfl, by show w.heap.size ≤ (w.heap.push _).size; simp, fun k hk => h0.block k hk⟩
  have hobj : (w.drew.alloc (.cells (bytesRow b cap) el ((bytesRow b cap).size, (bytesRow b cap).size + 1))).heap[w.heap.size]? = some (.cells (bytesRow b cap) el ((bytesRow b cap).size, (bytesRow b cap).size + 1)) := by
    show (w.heap.push _)[w.heap.size]? = _
    simp
  have hg := Good.addF hH hbel L.length (by show w.heap.size < (w.heap.push _).size; simp)
  refine ⟨.slice (some ⟨w.heap.size, 0, none⟩) b.size cap, _, _, .inl ?_, ?_, hg, fun hgr => by simp [grO, ho] at hgr⟩
  · simp only [execOp, ho, repC_str hx, Sem.run_bind, run, Result.andThen_ok]
    rfl
  · show RepC _ _ _ (.rs c L) _
    rw [← hn]
    have hcapn : L.length ≤ cap := by
      rw [hn, ← hcap]; exact grownCap_ge ..
    refine .rs (cv := fun i _ => .int .u8 ((b.data.toList.getD i 0).toNat)) hcapn (fun i x hx => ?_) (fun i x j y hx hy => ?_)
    · refine ⟨w.heap.size, 0, rfl, fun j hj => ?_⟩
      have hi := lt_of_list hx
      have hj0 : j = 0 := by omega
      subst hj0
      rw [hz, Nat.mul_one, Nat.zero_add, Nat.add_zero]
      refine ⟨.inr ⟨rfl, hi⟩, ?_⟩
      rw [cell_of_heap hobj]
      have hib : i < b.data.size := by rw [hn] at hi; exact hi
      unfold bytesRow
      rw [Array.getElem?_append_left (by simpa using hib)]
      simp [hib]
      exact ⟨_, (Array.getElem?_eq_getElem hib), by simp [Array.getElem?_eq_getElem hib]⟩
    · obtain ⟨bb, hbb, henc⟩ := h2 i x hx
      rw [henc] at hy
      cases j with
      | zero =>
        simp at hy; subst hy
        show RepC _ _ _ _ (Value.int .u8 ((b.data.toList.getD i 0).toNat))
        rw [List.getD_eq_getElem?_getD, hbb]
        exact .int
      | succ j => simp at hy

end
end Ab
