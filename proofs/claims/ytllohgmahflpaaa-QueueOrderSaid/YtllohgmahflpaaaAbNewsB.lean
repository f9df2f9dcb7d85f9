/- What is appended: a literal's elements. -/
import Derived.Test.YtllohgmahflpaaaAbNews
set_option linter.unusedSectionVars false
set_option linter.unusedSimpArgs false
set_option linter.unusedVariables false
namespace Ab
open Go
section
variable [Uni] [Cod]
variable {P : Program} {e : Env} {X Y : Cx} {h i : List Blk} {w w' : World}

theorem decN_get' {c : Nat} {l : List Cl} : ∀ {n o : Nat} {L : List (Uni.val c)}, decN c l o n = some L → L.length = n ∧ ∀ (q : Nat) x, L[q]? = some x → slice l (o + q * Uni.sz c) (Uni.sz c) = Cod.enc c x
  | 0, o, L, hd => by
    simp [decN] at hd; subst hd
    exact ⟨rfl, fun q x hx => by simp at hx⟩
  | n + 1, o, L, hd => by
    unfold decN at hd
    split at hd
    · rename_i x r hx hr
      simp only [Option.some.injEq] at hd; subst hd
      obtain ⟨h1, h2⟩ := decN_get' hr
      refine ⟨by simp [h1], fun q y hy => ?_⟩
      cases q with
      | zero =>
        simp at hy; subst hy
        simpa using (Cod.dec_enc c _ _ hx).symm
      | succ q =>
        have := h2 q y (by simpa using hy)
        rw [← this, Nat.succ_mul]
        congr 1; omega
    · simp at hd

theorem news_sl (hH : RelH X h w) {b o n c : Nat} {cc : Option Nat} {l : List Cl} {N : List (Uni.val c)} {v : Value} (hb : h[b]? = some (.cells l)) (hd : decN c l o n = some N) (r : RepC X h w (.sl b o n cc) v) : News X h w c N v := by
  obtain ⟨hlen, hget⟩ := decN_get' hd
  cases r with
  | @sl _ _ _ _ cap hlt hcap =>
    obtain ⟨carr, el, ⟨fz, hw, hfz⟩, hsz, hcell⟩ := hH.blk b _ hb
    have hz := Cod.sz_pos c
    have cellAt : ∀ (q : Nat) x (j : Nat) y, N[q]? = some x → (Cod.enc c x)[j]? = some y → ∃ u, carr[(X.ρ b).2 + o + (q * Uni.sz c + j)]? = some u ∧ RepC X h w y u := by
      intro q x j y hx hy
      have hs := hget q x hx
      rw [← hs] at hy
      unfold slice at hy
      rw [List.getElem?_take] at hy
      split at hy
      · rw [List.getElem?_drop] at hy
        obtain ⟨u, hu, ru⟩ := hcell _ y hy
        refine ⟨u, ?_, ru⟩
        rw [show (X.ρ b).2 + o + (q * Uni.sz c + j) = (X.ρ b).2 + (o + q * Uni.sz c + j) by omega]
        exact hu
      · simp at hy
    have hbig : ∀ k, k < n * Uni.sz c → (X.ρ b).2 + o + k < carr.size := by
      intro k hk
      have hq : k / Uni.sz c < N.length := by rw [hlen]; exact Nat.div_lt_of_lt_mul (by rw [Nat.mul_comm]; exact hk)
      have hj : k % Uni.sz c < Uni.sz c := Nat.mod_lt _ hz
      have hy : (Cod.enc c N[k / Uni.sz c])[k % Uni.sz c]? = some ((Cod.enc c N[k / Uni.sz c])[k % Uni.sz c]'(by rw [Cod.enc_len]; exact hj)) := List.getElem?_eq_getElem _
      obtain ⟨u, hu, _⟩ := cellAt _ _ _ _ (List.getElem?_eq_getElem hq) hy
      rw [Nat.div_add_mod'] at hu
      exact (Array.getElem?_eq_some_iff.mp hu).1
    have hdsl : ((carr.toList.drop ((X.ρ b).2 + o)).take (n * Uni.sz c)).length = N.length * Uni.sz c := by
      rw [hlen]
      simp only [List.length_take, List.length_drop, Array.length_toList]
      rcases Nat.eq_zero_or_pos (n * Uni.sz c) with h0 | h0
      · omega
      · have := hbig (n * Uni.sz c - 1) (by omega); omega
    have hat : ∀ k, k < n * Uni.sz c → ((carr.toList.drop ((X.ρ b).2 + o)).take (n * Uni.sz c))[k]? = carr[(X.ρ b).2 + o + k]? := by
      intro k hk
      rw [List.getElem?_take, if_pos hk, List.getElem?_drop]
      simp
    have hrc : RowCells X h w c N ((carr.toList.drop ((X.ρ b).2 + o)).take (n * Uni.sz c)) := by
      refine ⟨hdsl, fun q x j y hx hy => ?_⟩
      have hj : j < Uni.sz c := by have := lt_of_list hy; rwa [Cod.enc_len] at this
      obtain ⟨u, hu, ru⟩ := cellAt q x j y hx hy
      have hk := row_lt (lt_of_list hx) hj
      rw [hlen] at hk
      exact ⟨u, by rw [hat _ hk]; exact hu, ru⟩
    refine ⟨X.addr b o, cap, _, by rw [hlen], hrc, fun j u hu => ?_, hrc.one⟩
    have hj : j < n * Uni.sz c := by have := lt_of_list hu; rw [hdsl, hlen] at this; exact this
    rw [hat j hj] at hu
    rw [show X.addr b o = ⟨(X.ρ b).1, (X.ρ b).2 + o, none⟩ from rfl, add_plain, cell_of_heap hw]
    exact hu

end
end Ab
