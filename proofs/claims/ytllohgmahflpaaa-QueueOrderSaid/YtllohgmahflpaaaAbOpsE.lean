/- Structs and arrays held against each other. -/
import Derived.Test.YtllohgmahflpaaaAbOpsD
import Derived.ChangeKeysEq
set_option linter.unusedSectionVars false
set_option linter.unusedSimpArgs false
namespace Ab
open Go
section
variable [Uni] [Cod]
variable {P : Program} {e : Env} {X : Cx} {h : List Blk} {w : World} {o : Oper} {ρA : Operand → AV} {ρ : Operand → Value} {v : AV}

structure KOk (P : Program) (t : TypeId) (ks : List KC) : Prop where
  len : P.cellsOf t = ks.length
  pos : 1 ≤ ks.length
  info : (P.info? t).isSome = true
  und : (P.underlying t).isSome = true
  one : (∀ fs, P.underlying t ≠ some (.struct fs)) → (∀ m u, P.underlying t ≠ some (.array m u)) → P.cellsOf t = 1

def EqOk (P : Program) (d : Nat) (t : TypeId) (ks : List KC) : Prop :=
  ∀ x y cs ds, FormT P t x cs → FormT P t y ds → All2 KV ks cs → All2 KV ks ds → ∀ w, (Op.equalIn d t x y).run P w = .ok (eqVs cs ds) w

theorem All2.take_drop {α β : Type} {R : α → β → Prop} {l l' : List α} {m : List β} (r : All2 R (l ++ l') m) : All2 R l (m.take l.length) ∧ All2 R l' (m.drop l.length) := by
  have h1 := r.take l.length
  have h2 := r.drop l.length
  simpa using And.intro h1 h2

theorem eqFields_ok (P : Program) (d : Nat) (g : TypeId → Option (List KC)) (hg : ∀ t ks, g t = some ks → KOk P t ks ∧ EqOk P d t ks) :
    ∀ (fs : List Field) (off : Nat) (ks : List KC), plainFs g fs off = some ks → ∀ (cs ds : List Value), All2 KV ks (cs.drop off) → All2 KV ks (ds.drop off) →
      ∀ w, (Op.eqFields d cs.toArray ds.toArray fs).run P w = .ok (eqVs (cs.drop off) (ds.drop off)) w
  | [], off, ks, hk, cs, ds, hc, hd, w => by
    simp [plainFs] at hk; subst hk
    have e1 := hc.len; have e2 := hd.len
    simp only [List.length_nil] at e1 e2
    rw [List.eq_nil_of_length_eq_zero e1.symm, List.eq_nil_of_length_eq_zero e2.symm]
    simp [Op.eqFields, eqVs]
  | f :: fs, off, ks, hk, cs, ds, hc, hd, w => by
    unfold plainFs at hk
    split at hk
    · rename_i hcond
      simp only [Bool.and_eq_true, bne_iff_ne, ne_eq, beq_iff_eq] at hcond
      obtain ⟨hn, ho⟩ := hcond
      split at hk
      · rename_i k1 hk1
        split at hk
        · rename_i k2 hk2
          simp at hk; subst hk
          obtain ⟨K, E⟩ := hg _ _ hk1
          obtain ⟨c1, c2⟩ := hc.take_drop
          obtain ⟨d1, d2⟩ := hd.take_drop
          have lc := hc.len; have ld := hd.len
          simp only [List.length_append, List.length_drop] at lc ld
          have hpos := K.pos
          obtain ⟨a, ha, fa⟩ := run_part_form (P := P) (w := w) (t := f.type) (cs := cs) (off := off) K.und (by rw [K.len]; omega) K.one K.info
          obtain ⟨b, hb, fb⟩ := run_part_form (P := P) (w := w) (t := f.type) (cs := ds) (off := off) K.und (by rw [K.len]; omega) K.one K.info
          rw [K.len] at fa fb
          have he := E a b _ _ fa fb c1 d1 w
          have ih := eqFields_ok P d g hg fs (off + k1.length) k2 hk2 cs ds (by rw [← List.drop_drop]; exact c2) (by rw [← List.drop_drop]; exact d2) w
          have key : eqVs (cs.drop off) (ds.drop off) = (eqVs ((cs.drop off).take k1.length) ((ds.drop off).take k1.length) && eqVs (cs.drop (off + k1.length)) (ds.drop (off + k1.length))) := by
            rw [← eqVs_append c1 d1, ← List.drop_drop, ← List.drop_drop, List.take_append_drop, List.take_append_drop]
          rw [key]
          simp only [Op.eqFields, hn, ne_eq, not_false_eq_true, if_true, Sem.run_bind, ho, ha, hb, he, Result.andThen_ok]
          cases eqVs ((cs.drop off).take k1.length) ((ds.drop off).take k1.length)
          · simp
          · simpa using ih
        · simp at hk
      · simp at hk
    · simp at hk

theorem flatten_replicate_succ (n : Nat) (ks : List KC) : (List.replicate (n + 1) ks).flatten = ks ++ (List.replicate n ks).flatten := by simp [List.replicate_succ]

theorem eqItems_ok (P : Program) (d : Nat) (t : TypeId) (ks : List KC) (K : KOk P t ks) (E : EqOk P d t ks) :
    ∀ (n i : Nat) (cs ds : List Value), All2 KV (List.replicate n ks).flatten (cs.drop (i * ks.length)) → All2 KV (List.replicate n ks).flatten (ds.drop (i * ks.length)) →
      ∀ w, (Op.eqItems d t (P.cellsOf t) cs.toArray ds.toArray (List.range' i n)).run P w = .ok (eqVs (cs.drop (i * ks.length)) (ds.drop (i * ks.length))) w
  | 0, i, cs, ds, hc, hd, w => by
    have e1 := hc.len; have e2 := hd.len
    simp only [List.replicate_zero, List.flatten_nil, List.length_nil] at e1 e2
    rw [List.eq_nil_of_length_eq_zero e1.symm, List.eq_nil_of_length_eq_zero e2.symm]
    simp [Op.eqItems, eqVs]
  | n + 1, i, cs, ds, hc, hd, w => by
    rw [flatten_replicate_succ] at hc hd
    obtain ⟨c1, c2⟩ := hc.take_drop
    obtain ⟨d1, d2⟩ := hd.take_drop
    have lc := hc.len; have ld := hd.len
    simp only [List.length_append, List.length_drop] at lc ld
    have hpos := K.pos
    obtain ⟨a, ha, fa⟩ := run_part_form (P := P) (w := w) (t := t) (cs := cs) (off := i * ks.length) K.und (by rw [K.len]; omega) K.one K.info
    obtain ⟨b, hb, fb⟩ := run_part_form (P := P) (w := w) (t := t) (cs := ds) (off := i * ks.length) K.und (by rw [K.len]; omega) K.one K.info
    rw [K.len] at fa fb
    have he := E a b _ _ fa fb c1 d1 w
    have es : (i + 1) * ks.length = i * ks.length + ks.length := by rw [Nat.succ_mul]
    have ih := eqItems_ok P d t ks K E n (i + 1) cs ds (by rw [es, ← List.drop_drop]; exact c2) (by rw [es, ← List.drop_drop]; exact d2) w
    rw [es] at ih
    have key : eqVs (cs.drop (i * ks.length)) (ds.drop (i * ks.length)) = (eqVs ((cs.drop (i * ks.length)).take ks.length) ((ds.drop (i * ks.length)).take ks.length) && eqVs (cs.drop (i * ks.length + ks.length)) (ds.drop (i * ks.length + ks.length))) := by
      rw [← eqVs_append c1 d1, ← List.drop_drop, ← List.drop_drop, List.take_append_drop, List.take_append_drop]
    rw [key]
    rw [List.range'_succ]
    simp only [Op.eqItems, Sem.run_bind, K.len, ha, hb, he, Result.andThen_ok]
    rw [K.len] at ih
    cases eqVs ((cs.drop (i * ks.length)).take ks.length) ((ds.drop (i * ks.length)).take ks.length)
    · simp
    · simpa using ih

theorem eqT_ok (P : Program) : ∀ (n : Nat) (t : TypeId) (ks : List KC), plainKs P n t = some ks → KOk P t ks ∧ ∀ d, n ≤ d → EqOk P d t ks
  | 0, t, ks, h => by simp [plainKs] at h
  | n + 1, t, ks, h => by
    unfold plainKs at h
    split at h
    · simp at h
    rename_i hinfo
    have hi : (P.info? t).isSome = true := by cases hh : P.info? t <;> simp [hh] at hinfo ⊢
    have scalar : ∀ {k : KC}, (if P.cellsOf t == 1 then some [k] else none) = some ks → P.cellsOf t = 1 ∧ ks = [k] := by
      intro k h
      split at h
      · rename_i h1; simp at h; exact ⟨by simpa using h1, h.symm⟩
      · simp at h
    split at h
    · rename_i k hu
      obtain ⟨h1, rfl⟩ := scalar h
      refine ⟨⟨h1, by simp, hi, by simp [hu], fun _ _ => h1⟩, fun d hd x y cs ds fx fy kx ky w => ?_⟩
      simp only [FormT, hu] at fx fy
      subst fx; subst fy
      obtain ⟨d, rfl⟩ : ∃ m, d = m + 1 := ⟨d - 1, by omega⟩
      cases kx with
      | cons kx _ => cases ky with
        | cons ky _ =>
          cases x <;> simp [KV] at kx; cases y <;> simp [KV] at ky
          subst kx; subst ky
          rw [run_equalIn_int w d t _ _ _ _ hu]; simp [eqVs]
    · rename_i hu
      obtain ⟨h1, rfl⟩ := scalar h
      refine ⟨⟨h1, by simp, hi, by simp [hu], fun _ _ => h1⟩, fun d hd x y cs ds fx fy kx ky w => ?_⟩
      simp only [FormT, hu] at fx fy
      subst fx; subst fy
      obtain ⟨d, rfl⟩ : ∃ m, d = m + 1 := ⟨d - 1, by omega⟩
      cases kx with
      | cons kx _ => cases ky with
        | cons ky _ =>
          cases x <;> simp [KV] at kx; cases y <;> simp [KV] at ky
          rw [run_equalIn_bool w d t _ _ hu]; simp [eqVs]
    · rename_i hu
      obtain ⟨h1, rfl⟩ := scalar h
      refine ⟨⟨h1, by simp, hi, by simp [hu], fun _ _ => h1⟩, fun d hd x y cs ds fx fy kx ky w => ?_⟩
      simp only [FormT, hu] at fx fy
      subst fx; subst fy
      obtain ⟨d, rfl⟩ : ∃ m, d = m + 1 := ⟨d - 1, by omega⟩
      cases kx with
      | cons kx _ => cases ky with
        | cons ky _ =>
          cases x <;> simp [KV] at kx; cases y <;> simp [KV] at ky
          simp [Op.equalIn, run_underlying hu, eqVs]
    · rename_i fs hu
      split at h
      · simp at h
      rename_i hst
      split at h
      · rename_i l hl
        split at h
        · rename_i hlen
          simp at h; subst h
          simp only [beq_iff_eq, Bool.and_eq_true, Nat.ble_eq] at hlen
          obtain ⟨hlen, hpos⟩ := hlen
          refine ⟨⟨hlen, hpos, hi, by simp [hu], fun hs => absurd hu (hs fs)⟩, fun d hd x y cs ds fx fy kx ky w => ?_⟩
          simp only [FormT, hu] at fx fy
          subst fx; subst fy
          obtain ⟨d, rfl⟩ : ∃ m, d = m + 1 := ⟨d - 1, by omega⟩
          have hfs : P.fieldsOf t = fs := by simp [Program.fieldsOf, hu]
          rw [run_equalIn_struct w d t _ _ (by rw [hfs]; exact hu) (by simpa using hst), hfs]
          exact eqFields_ok P d (plainKs P n) (fun t ks hh => let ⟨a, b⟩ := eqT_ok P n t ks hh; ⟨a, b d (by omega)⟩) fs.toList 0 l hl cs ds (by simpa using kx) (by simpa using ky) w
        · simp at h
      · simp at h
    · rename_i m u hu
      split at h
      · rename_i l hl
        split at h
        · rename_i hlen
          simp at h; subst h
          simp only [beq_iff_eq, Bool.and_eq_true, Nat.ble_eq] at hlen
          obtain ⟨hlen, hm1⟩ := hlen
          obtain ⟨K, E⟩ := eqT_ok P n u l hl
          have hK := K.pos
          refine ⟨⟨by simp [hlen], by simp; exact Nat.mul_pos hm1 hK, hi, by simp [hu], fun _ hs => absurd hu (hs m u)⟩, fun d hd x y cs ds fx fy kx ky w => ?_⟩
          simp only [FormT, hu] at fx fy
          subst fx; subst fy
          obtain ⟨d, rfl⟩ : ∃ m, d = m + 1 := ⟨d - 1, by omega⟩
          obtain ⟨i, hi'⟩ := Option.isSome_iff_exists.mp K.info
          rw [run_equalIn_array w d _ _ hu hi']
          rw [List.range_eq_range']
          have := eqItems_ok P d u l K (E d (by omega)) m 0 cs ds (by simpa using kx) (by simpa using ky) w
          simpa using this
        · simp at h
      · simp at h
    · simp at h

theorem eqCls_ok : ∀ {ks : List KC} {l m : List Cl} {vs us : List Value} {b : Bool}, RepL X h w l vs → RepL X h w m us → eqCls ks l m = some b → All2 KV ks vs ∧ All2 KV ks us ∧ eqVs vs us = b := by
  have one : ∀ {k : KC} {x y : Cl} {a c : Value} {b : Bool}, RepC X h w x a → RepC X h w y c → eqCl k x y = some b → KV k a ∧ KV k c ∧ ∀ vs us, eqVs (a :: vs) (c :: us) = (b && eqVs vs us) := by
    intro k x y a c b hx hy hb
    unfold eqCl at hb
    split at hb
    · rename_i k k1 a' k2 b'
      split at hb
      · rename_i hk
        simp only [Bool.and_eq_true] at hk
        simp at hb; subst hb
        rw [repC_int hx, repC_int hy]
        exact ⟨kEq_eq hk.1, kEq_eq hk.2, fun _ _ => rfl⟩
      · simp at hb
    · simp at hb; subst hb
      rw [repC_bool hx, repC_bool hy]
      exact ⟨trivial, trivial, fun _ _ => rfl⟩
    · simp at hb; subst hb
      rw [repC_str hx, repC_str hy]
      exact ⟨trivial, trivial, fun _ _ => rfl⟩
    · simp at hb
  intro ks
  induction ks with
  | nil =>
    intro l m vs us b hl hm hb
    cases hl with
    | nil => cases hm with
      | nil => simp [eqCls] at hb; subst hb; exact ⟨.nil, .nil, rfl⟩
      | cons _ _ => simp [eqCls] at hb
    | cons _ _ => simp [eqCls] at hb
  | cons k ks ih =>
    intro l m vs us b hl hm hb
    cases hl with
    | nil => simp [eqCls] at hb
    | cons hx tx => cases hm with
      | nil => simp [eqCls] at hb
      | cons hy ty =>
        rename_i x a l vs y c m us
        have gen : ∀ r s, eqCl k x y = some r → eqCls ks l m = some s → b = (r && s) → All2 KV (k :: ks) (a :: vs) ∧ All2 KV (k :: ks) (c :: us) ∧ eqVs (a :: vs) (c :: us) = b := by
          intro r s h1 h2 h3
          obtain ⟨p1, p2, p3⟩ := one hx hy h1
          obtain ⟨q1, q2, q3⟩ := ih tx ty h2
          exact ⟨.cons p1 q1, .cons p2 q2, by rw [p3, q3, h3]⟩
        unfold eqCls at hb
        split at hb
        · simp at *
        · rename_i k' x' y' e1 e2 e3
          simp at e1 e2 e3
          obtain ⟨rfl, rfl⟩ := e1; obtain ⟨rfl, rfl⟩ := e2; obtain ⟨rfl, rfl⟩ := e3
          exact gen b true hb rfl (by simp)
        · rename_i k' ks' x' xs' y' ys' _ e1 e2 e3
          simp at e1 e2 e3
          obtain ⟨rfl, rfl⟩ := e1; obtain ⟨rfl, rfl⟩ := e2; obtain ⟨rfl, rfl⟩ := e3
          split at hb
          · rename_i r s h1 h2
            simp at hb
            exact gen r s h1 h2 hb.symm
          · simp at hb
        · simp at hb

end
end Ab
