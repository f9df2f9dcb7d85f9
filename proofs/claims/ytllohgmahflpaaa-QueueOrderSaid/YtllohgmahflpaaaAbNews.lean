/- What is appended: elements that stand in memory. -/
import Derived.Test.YtllohgmahflpaaaAbApp
set_option linter.unusedSectionVars false
set_option linter.unusedSimpArgs false
set_option linter.unusedVariables false
namespace Ab
open Go
section
variable [Uni] [Cod]
variable {P : Program} {e : Env} {X Y : Cx} {h i : List Blk} {w w' : World}

/-- Elements in memory, from an address on. -/
def News (X : Cx) (h : List Blk) (w : World) (c : Nat) (N : List (Uni.val c)) (v : Value) : Prop :=
  ∃ a cap ds, v = .slice (some a) N.length cap ∧ RowCells X h w c N ds ∧ (∀ (j : Nat) u, ds[j]? = some u → w.cell? (a.add j) = some u) ∧ ∀ u ∈ ds, u.oneCell' = true

theorem RowCells.one {c : Nat} {L : List (Uni.val c)} {cs : List Value} (a : RowCells X h w c L cs) : ∀ u ∈ cs, u.oneCell' = true := by
  intro u hu
  obtain ⟨n, hn⟩ := List.getElem?_of_mem hu
  have hlt := lt_of_list hn
  rw [a.1] at hlt
  have hz := Cod.sz_pos c
  have hq : n / Uni.sz c < L.length := Nat.div_lt_of_lt_mul (by rw [Nat.mul_comm]; exact hlt)
  have hj : n % Uni.sz c < Uni.sz c := Nat.mod_lt _ hz
  have hy : (Cod.enc c L[n / Uni.sz c])[n % Uni.sz c]? = some ((Cod.enc c L[n / Uni.sz c])[n % Uni.sz c]'(by rw [Cod.enc_len]; exact hj)) := List.getElem?_eq_getElem _
  obtain ⟨u', hu', ru⟩ := a.2 (n / Uni.sz c) _ (n % Uni.sz c) _ (List.getElem?_eq_getElem hq) hy
  rw [Nat.div_add_mod' n (Uni.sz c), hn] at hu'
  simp only [Option.some.injEq] at hu'
  subst hu'
  exact ru.one

theorem add_plain (k q j : Nat) : (⟨k, q, none⟩ : Addr).add j = ⟨k, q + j, none⟩ := by unfold Addr.add; split <;> simp_all

/-- A row that is read. -/
theorem news_rs {c : Nat} {N : List (Uni.val c)} {v : Value} (r : RepC X h w (.rs c N) v) (h0 : 0 < N.length) : News X h w c N v := by
  cases r with
  | @rs _ _ a cap cv hcap hcell hrep =>
    obtain ⟨k, q, ha, _⟩ := hcell 0 _ (List.getElem?_eq_getElem h0)
    subst ha
    have hz := Cod.sz_pos c
    have key : ∀ i x, N[i]? = some x → ∀ j, j < Uni.sz c → w.cell? ⟨k, q + i * Uni.sz c + j, none⟩ = some (cv i j) := by
      intro i x hx j hj
      obtain ⟨k', q', ha', h2⟩ := hcell i x hx
      simp only [Option.some.injEq, Addr.mk.injEq] at ha'
      obtain ⟨rfl, rfl, _⟩ := ha'
      exact (h2 j hj).2
    have hget : ∀ n, n < N.length * Uni.sz c → ((List.range (N.length * Uni.sz c)).map fun n => cv (n / Uni.sz c) (n % Uni.sz c))[n]? = some (cv (n / Uni.sz c) (n % Uni.sz c)) := by
      intro n hn
      rw [List.getElem?_map, List.getElem?_range hn]; rfl
    have hrc : RowCells X h w c N ((List.range (N.length * Uni.sz c)).map fun n => cv (n / Uni.sz c) (n % Uni.sz c)) := by
      refine ⟨by simp, fun i x j y hx hy => ?_⟩
      have hj : j < Uni.sz c := by have := lt_of_list hy; rwa [Cod.enc_len] at this
      have hn := row_lt (lt_of_list hx) hj
      refine ⟨cv i j, ?_, hrep i x j y hx hy⟩
      rw [hget _ hn]
      rw [show (i * Uni.sz c + j) / Uni.sz c = i by rw [Nat.add_comm, Nat.add_mul_div_right _ _ hz, Nat.div_eq_of_lt hj, Nat.zero_add],
        show (i * Uni.sz c + j) % Uni.sz c = j by rw [Nat.add_comm, Nat.add_mul_mod_self_right, Nat.mod_eq_of_lt hj]]
    refine ⟨⟨k, q, none⟩, cap, _, rfl, hrc, fun n u hu => ?_, hrc.one⟩
    have hn : n < N.length * Uni.sz c := by have := lt_of_list hu; simpa using this
    rw [hget n hn] at hu
    simp only [Option.some.injEq] at hu
    subst hu
    have hq : n / Uni.sz c < N.length := Nat.div_lt_of_lt_mul (by rw [Nat.mul_comm]; exact hn)
    have := key (n / Uni.sz c) _ (List.getElem?_eq_getElem hq) (n % Uni.sz c) (Nat.mod_lt _ hz)
    rw [add_plain]
    rw [show q + n = q + n / Uni.sz c * Uni.sz c + n % Uni.sz c by rw [Nat.add_assoc, Nat.div_add_mod']]
    exact this

/-- A row of the run's own. -/
theorem news_slw (hH : RelH X h w) {b c : Nat} {N : List (Uni.val c)} {v : Value} (hb : h[b]? = some (.row c N)) (r : RepC X h w (.slw b) v) (h0 : 0 < N.length) : News X h w c N v := by
  cases r with
  | slw hlt h1 h3 =>
    rcases h1 c N hb with ⟨ho, cap, hv, hc, hr⟩ | ⟨ho, a, hv⟩
    · obtain ⟨carr, el', ⟨fz, hw, hfz⟩, hsize, hcell⟩ := (hH.blk b _ hb).1 ho
      have hold : RowCells X h w c N ((carr.toList.drop (X.ρ b).2).take (N.length * Uni.sz c)) := by
        refine ⟨by simp; omega, fun q x j y hx hy => ?_⟩
        obtain ⟨u, hu, ru⟩ := hcell q x j y hx hy
        have hj : j < Uni.sz c := by have := lt_of_list hy; rwa [Cod.enc_len] at this
        refine ⟨u, ?_, ru⟩
        rw [List.getElem?_take, if_pos (row_lt (lt_of_list hx) hj), List.getElem?_drop]
        simpa using hu
      refine ⟨_, cap, _, hv, hold, fun j u hu => ?_, hold.one⟩
      rw [show X.addr b 0 = ⟨(X.ρ b).1, (X.ρ b).2, none⟩ by simp [Cx.addr], add_plain, cell_of_heap hw]
      rw [List.getElem?_take] at hu
      split at hu
      · rw [List.getElem?_drop] at hu
        simpa using hu
      · cases hu
    · have := (hH.blk b _ hb).2 ho
      rw [this] at h0
      simp at h0

end
end Ab
