/- What the abstract executor's values stand for in the machine's memory. -/
import Derived.Test.YtllohgmahflpaaaAbExec
import Derived.Calls
import Derived.Laws.Cells
import Derived.Below
set_option linter.unusedSectionVars false
namespace Ab
open Go
section
variable [Uni] [Cod]

/-- Two lists, element by element. -/
inductive All2 {α β : Type} (R : α → β → Prop) : List α → List β → Prop
  | nil : All2 R [] []
  | cons {a b l m} : R a b → All2 R l m → All2 R (a :: l) (b :: m)

namespace All2
variable {α β : Type} {R S : α → β → Prop} {l l' : List α} {m m' : List β}
theorem len (h : All2 R l m) : l.length = m.length := by
  induction h with
  | nil => rfl
  | cons _ _ ih => simp [ih]
theorem mono (h : All2 R l m) (f : ∀ a b, R a b → S a b) : All2 S l m := by
  induction h with
  | nil => exact .nil
  | cons h _ ih => exact .cons (f _ _ h) ih
theorem get (h : All2 R l m) : ∀ {i : Nat} {a : α}, l[i]? = some a → ∃ b, m[i]? = some b ∧ R a b := by
  induction h with
  | nil => intro i a h; simp at h
  | cons h _ ih =>
    intro i a hi
    cases i with
    | zero => simp at hi; subst hi; exact ⟨_, rfl, h⟩
    | succ i => simpa using ih (by simpa using hi)
theorem of_get (hl : l.length = m.length) (h : ∀ (i : Nat) a b, l[i]? = some a → m[i]? = some b → R a b) : All2 R l m := by
  induction l generalizing m with
  | nil => cases m with
    | nil => exact .nil
    | cons => simp at hl
  | cons a l ih => cases m with
    | nil => simp at hl
    | cons b m => exact .cons (h 0 a b rfl rfl) (ih (by simpa using hl) fun i x y hx hy => h (i + 1) x y (by simpa using hx) (by simpa using hy))
theorem app (h : All2 R l m) (h' : All2 R l' m') : All2 R (l ++ l') (m ++ m') := by
  induction h with
  | nil => exact h'
  | cons h _ ih => exact .cons h ih
theorem drop (h : All2 R l m) (n : Nat) : All2 R (l.drop n) (m.drop n) := by
  induction h generalizing n with
  | nil => simpa using .nil
  | cons h t ih => cases n with
    | zero => exact .cons h t
    | succ n => simpa using ih n
theorem take (h : All2 R l m) (n : Nat) : All2 R (l.take n) (m.take n) := by
  induction h generalizing n with
  | nil => simpa using .nil
  | cons h t ih => cases n with
    | zero => simpa using .nil
    | succ n => simpa using .cons h (ih n)
theorem map {γ : Type} {f : γ → α} {l : List γ} (h : All2 (fun c b => R (f c) b) l m) : All2 R (l.map f) m := by
  induction h with
  | nil => exact .nil
  | cons h _ ih => exact .cons h ih
theorem set (h : All2 R l m) {i : Nat} {a : α} {b : β} (hr : R a b) : All2 R (l.set i a) (m.set i b) := by
  induction h generalizing i with
  | nil => simpa using .nil
  | cons h t ih => cases i with
    | zero => exact .cons hr t
    | succ i => exact .cons h ih
end All2

structure Cx where
  ρ : Nat → Nat × Nat
  own : Nat → Prop
  F : Nat → Nat → Prop
  sub : Nat → Nat → (Nat × Nat) × Prop

def Cx.addr (X : Cx) (b o : Nat) : Addr := ⟨(X.ρ b).1, (X.ρ b).2 + o, none⟩

/-- A block of the heap has that much room. -/
def room (w : World) (k n : Nat) : Prop := ∃ carr el fz, w.heap[k]? = some (.cells carr el fz) ∧ n ≤ carr.size

/-- What such a value is, of so long rows (and one more, told last). -/
def JVal (X : Cx) (b : Nat) (ls : List Nat) (more : Bool) (v : Value) : JM → Prop
  | .whole => (X.own b ∧ ∃ cap, v = .slice (some (X.addr b 0)) (ls.length + more.toNat) cap ∧ (ls.length + more.toNat ≤ cap ∧ cap ≤ 9223372036854775807)) ∨ (¬ X.own b ∧ more = false ∧ ∃ a, v = .slice a 0 0)
  | .hdr k => X.own b ∧ v = .pointer (some (X.addr b k))
  | .row k => ∃ n, ls[k]? = some n ∧ (((X.sub b k).2 ∧ ∃ cap, v = .slice (some ⟨(X.sub b k).1.1, (X.sub b k).1.2, none⟩) n cap ∧ n ≤ cap) ∨ (¬ (X.sub b k).2 ∧ n = 0 ∧ ∃ a, v = .slice a 0 0))
  | .byte k j => k < ls.length ∧ (X.sub b k).2 ∧ v = .pointer (some ⟨(X.sub b k).1.1, (X.sub b k).1.2 + j, none⟩)

inductive RepC (X : Cx) (h : List Blk) (w : World) : Cl → Value → Prop
  | top {v} : v.oneCell' = true → RepC X h w .top v
  | bool {b} : RepC X h w (.bool b) (.bool b)
  | int {k n} : RepC X h w (.int k n) (.int k n)
  | str {s} : RepC X h w (.str s) (.string s)
  | nilp : RepC X h w .nilp (.pointer none)
  | nils : RepC X h w .nils (.slice none 0 0)
  | ez {a} : RepC X h w .ez (.slice a 0 0)
  | nilf : RepC X h w .nilf .nilFunc
  | ptr {b o} : b < h.length → RepC X h w (.ptr b o) (.pointer (some (X.addr b o)))
  | sl {b o n c cap} : b < h.length → n ≤ cap → RepC X h w (.sl b o n c) (.slice (some (X.addr b o)) n cap)
  | slw {b v} : b < h.length →
      (∀ c L, h[b]? = some (.row c L) → (X.own b ∧ ∃ cap, v = .slice (some (X.addr b 0)) L.length cap ∧ (L.length ≤ cap ∧ cap ≤ 9223372036854775807) ∧ room w (X.ρ b).1 ((X.ρ b).2 + cap * Uni.sz c)) ∨ (¬ X.own b ∧ ∃ a, v = .slice a 0 0)) →
      v.oneCell' = true → RepC X h w (.slw b) v
  | ep {b z i o} : b < h.length → RepC X h w (.ep b z i o) (.pointer (some (X.addr b (i * z + o))))
  | rs {c L a cap} {cv : Nat → Nat → Value} : L.length ≤ cap → (∀ i x, L[i]? = some x → ∃ k e, a = some ⟨k, e, none⟩ ∧ ∀ j, j < Uni.sz c → X.F k (e + i * Uni.sz c + j) ∧ w.cell? ⟨k, e + i * Uni.sz c + j, none⟩ = some (cv i j)) →
      (∀ i x j y, L[i]? = some x → (Cod.enc c x)[j]? = some y → RepC X h w y (cv i j)) → RepC X h w (.rs c L) (.slice a L.length cap)
  | rn {z c L a cap} {cv : Nat → Nat → Value} : z = a.isNone → L.length ≤ cap → (∀ i x, L[i]? = some x → ∃ k e, a = some ⟨k, e, none⟩ ∧ ∀ j, j < Uni.sz c → X.F k (e + i * Uni.sz c + j) ∧ w.cell? ⟨k, e + i * Uni.sz c + j, none⟩ = some (cv i j)) →
      (∀ i x j y, L[i]? = some x → (Cod.enc c x)[j]? = some y → RepC X h w y (cv i j)) → RepC X h w (.rn z c L) (.slice a L.length cap)
  | rp {c x o k e} {cv : Nat → Value} : (∀ j, j < Uni.sz c → X.F k (e + j) ∧ w.cell? ⟨k, e + j, none⟩ = some (cv j)) →
      (∀ j y, (Cod.enc c x)[j]? = some y → RepC X h w y (cv j)) → RepC X h w (.rp c x o) (.pointer (some ⟨k, e + o, none⟩))
  | ch {b} : b < h.length → RepC X h w (.ch b) (.chan (some (X.ρ b).1))
  | nilch : RepC X h w .nilch (.chan none)
  | jk {b m v} : b < h.length → (∀ c2 c LL p, h[b]? = some (.bg c2 c LL p) → JVal X b (LL.map (·.length)) p.isSome v m ∧ (m = .whole → X.own b → ∃ a n cap, v = .slice a n cap ∧ room w (X.ρ b).1 ((X.ρ b).2 + cap))) → v.oneCell' = true → RepC X h w (.jk b m) v
  | fn {f first caps} : (∀ p ∈ first, p.1 < h.length) → (∀ p ∈ caps, p.1 < h.length) →
      RepC X h w (.fn f first caps) (.func (.func f) (first.map fun p => Value.pointer (some (X.addr p.1 p.2))).toArray (caps.map fun p => Value.pointer (some (X.addr p.1 p.2))).toArray)

theorem RepC.one {X : Cx} {h : List Blk} {w : World} {x : Cl} {v : Value} (r : RepC X h w x v) : v.oneCell' = true := by
  cases r <;> first | rfl | assumption

abbrev RepL (X : Cx) (h : List Blk) (w : World) (l : List Cl) (vs : List Value) : Prop := All2 (RepC X h w) l vs

def RepP (X : Cx) (h : List Blk) (w : World) : Option (Bool × List Cl) → Value → Prop
  | some (true, l), v => ∃ vs, v = .agg (List.toArray vs) ∧ RepL X h w l vs
  | some (false, [x]), v => RepC X h w x v
  | _, _ => True

def RepV (X : Cx) (h : List Blk) (w : World) : AV → Value → Prop
  | .top, _ => True
  | .c x, v => RepC X h w x v
  | .agg l, v => ∃ vs, v = .agg (List.toArray vs) ∧ RepL X h w l vs
  | .tup l, v => ∃ vs, v = .tuple (List.toArray vs) ∧ All2 (RepP X h w) l vs

/-- The cells that a block of the run's own takes. -/
def foot (X : Cx) (h : List Blk) (b k o : Nat) : Prop := match h[b]? with
  | some (.cells l) => k = (X.ρ b).1 ∧ (X.ρ b).2 ≤ o ∧ o < (X.ρ b).2 + l.length
  | some (.row _ _) => X.own b ∧ k = (X.ρ b).1
  | some (.bg _ _ LL _) => X.own b ∧ (k = (X.ρ b).1 ∨ ∃ i, i < LL.length ∧ (X.sub b i).2 ∧ k = (X.sub b i).1.1)
  | some (.chn _ _ LL) => k = (X.ρ b).1 ∨ ∃ i, i < LL.length ∧ (X.sub b i).2 ∧ k = (X.sub b i).1.1
  | _ => False

/-- A header that stops no write. -/
def harm (f : Nat × Nat) (n : Nat) : Prop := f = (0, 0) ∨ f = (n, n + 1)

/-- An object of cells that may be written. -/
def Own0 (w : World) (k : Nat) (carr : Array Value) (el : TypeId) : Prop := ∃ fz, w.heap[k]? = some (.cells carr el fz) ∧ harm fz carr.size

/-- A row of the run's own at a place, if it is one's own there; its header. -/
def RowAt (X : Cx) (h : List Blk) (w : World) (p : (Nat × Nat) × Prop) (c : Nat) (L : List (Uni.val c)) : Prop :=
  (p.2 → ∃ carr el, Own0 w p.1.1 carr el ∧ p.1.2 + L.length * Uni.sz c ≤ carr.size ∧
      (∀ i x j y, L[i]? = some x → (Cod.enc c x)[j]? = some y → ∃ v, carr[p.1.2 + (i * Uni.sz c + j)]? = some v ∧ RepC X h w y v)) ∧ (¬ p.2 → L = [])
def HdAt (w : World) (p : (Nat × Nat) × Prop) (z n : Nat) (v : Value) : Prop :=
  (p.2 ∧ ∃ cap, v = .slice (some ⟨p.1.1, p.1.2, none⟩) n cap ∧ (n ≤ cap ∧ cap ≤ 9223372036854775807) ∧ room w p.1.1 (p.1.2 + cap * z)) ∨ (¬ p.2 ∧ ∃ a, v = .slice a 0 0)

def RelB (X : Cx) (h : List Blk) (w : World) (b : Nat) : Blk → Prop
  | .dead => True
  | .cells l => ∃ carr el, Own0 w (X.ρ b).1 carr el ∧ (X.ρ b).2 + l.length ≤ carr.size ∧
      ∀ i x, l[i]? = some x → ∃ v, carr[(X.ρ b).2 + i]? = some v ∧ RepC X h w x v
  | .row c L => (X.own b → ∃ carr el, Own0 w (X.ρ b).1 carr el ∧ (X.ρ b).2 + L.length * Uni.sz c ≤ carr.size ∧
      (∀ i x j y, L[i]? = some x → (Cod.enc c x)[j]? = some y → ∃ v, carr[(X.ρ b).2 + (i * Uni.sz c + j)]? = some v ∧ RepC X h w y v)) ∧ (¬ X.own b → L = [])
  | .chn c cap LL => ∃ buf s r, w.heap[(X.ρ b).1]? = some (.chan cap buf false s r false) ∧ buf.size = LL.length ∧ LL.length ≤ cap ∧
      (∀ i L, LL[i]? = some L → RowAt X h w (X.sub b i) c L ∧ ∃ v, buf[i]? = some v ∧ HdAt w (X.sub b i) (Uni.sz c) L.length v) ∧
      (∀ i j, i < LL.length → j < LL.length → (X.sub b i).2 → (X.sub b j).2 → (X.sub b i).1.1 = (X.sub b j).1.1 → i = j)

  | .bg _ c LL p => (X.own b → ∃ carr el, Own0 w (X.ρ b).1 carr el ∧ (X.ρ b).2 + (LL.length + p.isSome.toNat) ≤ carr.size ∧
      (∀ i L, LL[i]? = some L → RowAt X h w (X.sub b i) c L ∧ ∃ v, carr[(X.ρ b).2 + i]? = some v ∧ HdAt w (X.sub b i) (Uni.sz c) L.length v) ∧
      (∀ i j, i < LL.length → j < LL.length → (X.sub b i).2 → (X.sub b j).2 → (X.sub b i).1.1 = (X.sub b j).1.1 → i = j) ∧ (∀ i, i < LL.length → (X.sub b i).2 → (X.sub b i).1.1 ≠ (X.ρ b).1) ∧
      (∀ r, p = some r → ∃ u, carr[(X.ρ b).2 + LL.length]? = some u ∧ RepC X h w (.slw r) u)) ∧ (¬ X.own b → LL = [] ∧ p = none)

structure RelH (X : Cx) (h : List Blk) (w : World) : Prop where
  blk : ∀ b bl, h[b]? = some bl → RelB X h w b bl
  disj : ∀ b b' k o, foot X h b k o → foot X h b' k o → b = b'
  free : ∀ b k o, foot X h b k o → ¬ X.F k o
  fsz : ∀ k o, X.F k o → k < w.heap.size

/-- An object of memory as it was, but for its cells (and a header that stops no write). -/
def sameHdr (a b : Option Obj) : Prop := match a with
  | some (.cells c e f) => ∃ c' f', b = some (.cells c' e f') ∧ c'.size = c.size ∧ (harm f c.size → harm f' c.size)
  | some (.chan cap _ cl _ _ tm) => ∃ buf' s' r', b = some (.chan cap buf' cl s' r' tm)
  | x => b = x

/-- .. its header, too. -/
def sameMk (a b : Option Obj) : Prop := match a with
  | some (.cells _ e f) => ∃ c', b = some (.cells c' e f)
  | x => b = x

structure Ext (F : Nat → Nat → Prop) (w w' : World) : Prop where
  os : w'.os = w.os
  tape : w'.tape = w.tape
  output : w'.output = w.output
  size : w.heap.size ≤ w'.heap.size
  hdr : ∀ k, k < w.heap.size → sameHdr w.heap[k]? w'.heap[k]?
  cell : ∀ k o, F k o → w'.cell? ⟨k, o, none⟩ = w.cell? ⟨k, o, none⟩
  mark : ∀ k, k < w.heap.size → (∀ o, F k o) → sameMk w.heap[k]? w'.heap[k]?

theorem sameHdr.refl (a : Option Obj) : sameHdr a a := by
  unfold sameHdr
  split
  · exact ⟨_, _, rfl, rfl, id⟩
  · exact ⟨_, _, _, rfl⟩
  · rfl
theorem sameHdr.trans {a b c : Option Obj} (h : sameHdr a b) (h' : sameHdr b c) : sameHdr a c := by
  unfold sameHdr at h
  split at h
  · obtain ⟨c1, f1, rfl, e1, g1⟩ := h
    obtain ⟨c2, f2, rfl, e2, g2⟩ := h'
    exact ⟨c2, f2, rfl, by omega, fun hf => by have := g2 (by rw [e1]; exact g1 hf); rw [e1] at this; exact this⟩
  · obtain ⟨b1, s1, r1, rfl⟩ := h
    obtain ⟨b2, s2, r2, rfl⟩ := h'
    exact ⟨_, _, _, rfl⟩
  · subst h
    exact h'
theorem sameMk.refl (a : Option Obj) : sameMk a a := by
  unfold sameMk; split <;> simp_all
theorem sameMk.trans {a b c : Option Obj} (h : sameMk a b) (h' : sameMk b c) : sameMk a c := by
  unfold sameMk at h
  split at h
  · obtain ⟨c1, rfl⟩ := h
    exact h'
  · subst h
    exact h'
theorem Ext.refl (F : Nat → Nat → Prop) (w : World) : Ext F w w := ⟨rfl, rfl, rfl, Nat.le_refl _, fun _ _ => sameHdr.refl _, fun _ _ _ => rfl, fun _ _ _ => sameMk.refl _⟩
theorem Ext.trans {F G : Nat → Nat → Prop} {a b c : World} (h : Ext F a b) (h' : Ext G b c) (hF : ∀ k o, F k o → G k o) : Ext F a c :=
  ⟨h'.os.trans h.os, h'.tape.trans h.tape, h'.output.trans h.output, Nat.le_trans h.size h'.size,
    fun k hk => (h.hdr k hk).trans (h'.hdr k (Nat.lt_of_lt_of_le hk h.size)), fun k o f => (h'.cell k o (hF k o f)).trans (h.cell k o f),
    fun k hk hf => (h.mark k hk hf).trans (h'.mark k (Nat.lt_of_lt_of_le hk h.size) fun o => hF k o (hf o))⟩
theorem Ext.weaken {F G : Nat → Nat → Prop} {a b : World} (h : Ext G a b) (hF : ∀ k o, F k o → G k o) : Ext F a b := ⟨h.os, h.tape, h.output, h.size, h.hdr, fun k o f => h.cell k o (hF k o f), fun k hk hf => h.mark k hk fun o => hF k o (hf o)⟩

theorem room.ext {F} {w w' : World} (h : Ext F w w') {k n : Nat} (r : room w k n) : room w' k n := by
  obtain ⟨c, e, f, hc, hn⟩ := r
  have hk : k < w.heap.size := by
    rcases Nat.lt_or_ge k w.heap.size with h | h
    · exact h
    · simp [Array.getElem?_eq_none h] at hc
  have := h.hdr k hk
  rw [hc] at this
  obtain ⟨c', f', hc', hs, _⟩ := this
  exact ⟨c', e, f', hc', by omega⟩

theorem JVal.congr {X Y : Cx} {b j : Nat} {ls : List Nat} {more : Bool} {v : Value} {m : JM} (hρ : Y.ρ j = X.ρ b) (ho : Y.own j ↔ X.own b) (hs : Y.sub j = X.sub b) (q : JVal X b ls more v m) : JVal Y j ls more v m := by
  have ha : ∀ o, Y.addr j o = X.addr b o := fun o => by simp [Cx.addr, hρ]
  cases m with
  | whole => simp only [JVal, ha, ho] at q ⊢; exact q
  | hdr k => simp only [JVal, ha, ho] at q ⊢; exact q
  | row k => simp only [JVal, hs] at q ⊢; exact q
  | byte k i => simp only [JVal, hs] at q ⊢; exact q

/-- How the run's own blocks go on. -/
structure Mono (X : Cx) (h : List Blk) (X' : Cx) (h' : List Blk) : Prop where
  len : h.length ≤ h'.length
  ρ : ∀ b, b < h.length → X'.ρ b = X.ρ b
  own : ∀ b, b < h.length → (X'.own b ↔ X.own b)
  F : ∀ k o, X.F k o → X'.F k o
  row : ∀ b c L', b < h.length → h'[b]? = some (.row c L') → ∃ L, h[b]? = some (.row c L) ∧ L.length = L'.length
  bg : ∀ b c2 c LL' p', b < h.length → h'[b]? = some (.bg c2 c LL' p') → ∃ LL p, h[b]? = some (.bg c2 c LL p) ∧ ∀ v m, JVal X b (LL.map (·.length)) p.isSome v m → JVal X' b (LL'.map (·.length)) p'.isSome v m

theorem Mono.bgOf {X X' : Cx} {h h' : List Blk} (hρ : ∀ b, b < h.length → X'.ρ b = X.ρ b) (ho : ∀ b, b < h.length → (X'.own b ↔ X.own b)) (hs : ∀ b, b < h.length → X'.sub b = X.sub b)
    (hh : ∀ (b c2 c : Nat) (LL' : List (List (Uni.val c))) (p' : Option Nat), b < h.length → h'[b]? = some (.bg c2 c LL' p') → ∃ (LL : List (List (Uni.val c))) (p : Option Nat), h[b]? = some (.bg c2 c LL p) ∧ LL.map (·.length) = LL'.map (·.length) ∧ p.isSome = p'.isSome) :
    ∀ (b c2 c : Nat) (LL' : List (List (Uni.val c))) (p' : Option Nat), b < h.length → h'[b]? = some (.bg c2 c LL' p') → ∃ (LL : List (List (Uni.val c))) (p : Option Nat), h[b]? = some (.bg c2 c LL p) ∧ ∀ v m, JVal X b (LL.map (·.length)) p.isSome v m → JVal X' b (LL'.map (·.length)) p'.isSome v m := by
  intro b c2 c LL' p' hb h'
  obtain ⟨LL, p, h1, h2, h3⟩ := hh b c2 c LL' p' hb h'
  exact ⟨LL, p, h1, fun v m j => by rw [← h2, ← h3]; exact j.congr (hρ b hb) (ho b hb) (hs b hb)⟩

theorem Mono.refl (X : Cx) (h : List Blk) : Mono X h X h := ⟨Nat.le_refl _, fun _ _ => rfl, fun _ _ => Iff.rfl, fun _ _ h => h, fun _ _ L' _ h => ⟨L', h, rfl⟩, fun _ _ _ LL p _ h => ⟨LL, p, h, fun _ _ h => h⟩⟩

theorem Mono.trans {X Y Z : Cx} {h i j : List Blk} (a : Mono X h Y i) (b : Mono Y i Z j) : Mono X h Z j := by
  refine ⟨Nat.le_trans a.len b.len, fun k hk => (b.ρ k (Nat.lt_of_lt_of_le hk a.len)).trans (a.ρ k hk), fun k hk => (b.own k (Nat.lt_of_lt_of_le hk a.len)).trans (a.own k hk), fun k o f => b.F k o (a.F k o f), fun k c L' hk h' => ?_, fun k c2 c LL' p' hk h' => ?_⟩
  case refine_2 =>
    obtain ⟨LL1, p1, h1, e1⟩ := b.bg k c2 c LL' p' (Nat.lt_of_lt_of_le hk a.len) h'
    obtain ⟨LL2, p2, h2, e2⟩ := a.bg k c2 c LL1 p1 hk h1
    exact ⟨LL2, p2, h2, fun v m hv => e1 v m (e2 v m hv)⟩
  obtain ⟨L, h1, e1⟩ := b.row k c L' (Nat.lt_of_lt_of_le hk a.len) h'
  obtain ⟨M, h2, e2⟩ := a.row k c L hk h1
  exact ⟨M, h2, by omega⟩

theorem Cx.addr_eq {X Y : Cx} {b : Nat} (h : Y.ρ b = X.ρ b) (o : Nat) : Y.addr b o = X.addr b o := by simp [Cx.addr, h]

theorem RepC.mono {X Y : Cx} {h i : List Blk} {w w' : World} (m : Mono X h Y i) (e : Ext X.F w w') {x : Cl} {v : Value} (r : RepC X h w x v) : RepC Y i w' x v := by
  induction r with
  | top h => exact .top h
  | bool => exact .bool
  | int => exact .int
  | str => exact .str
  | nilp => exact .nilp
  | nils => exact .nils
  | ez => exact .ez
  | nilf => exact .nilf
  | nilch => exact .nilch
  | @jk b mm v hb h1 h2 =>
    refine .jk (Nat.lt_of_lt_of_le hb m.len) (fun c2 c LL p hL => ?_) h2
    obtain ⟨LL0, p0, h0, e0⟩ := m.bg b c2 c LL p hb hL
    obtain ⟨q1, q2⟩ := h1 c2 c LL0 p0 h0
    refine ⟨e0 v mm q1, fun hm ho => ?_⟩
    obtain ⟨a, n, cap, hv, hr⟩ := q2 hm ((m.own b hb).mp ho)
    exact ⟨a, n, cap, hv, by rw [m.ρ b hb]; exact hr.ext e⟩
  | ch hb => rw [← m.ρ _ hb]; exact .ch (Nat.lt_of_lt_of_le hb m.len)
  | ptr hb => rw [← Cx.addr_eq (m.ρ _ hb)]; exact .ptr (Nat.lt_of_lt_of_le hb m.len)
  | sl hb hn => rw [← Cx.addr_eq (m.ρ _ hb)]; exact .sl (Nat.lt_of_lt_of_le hb m.len) hn
  | @slw b v hb h1 h3 =>
    refine .slw (Nat.lt_of_lt_of_le hb m.len) (fun c L hL => ?_) h3
    obtain ⟨L0, hL0, el⟩ := m.row b c L hb hL
    rcases h1 c L0 hL0 with ⟨ho, cap, hv, hc, hr⟩ | ⟨ho, a, hv⟩
    · refine .inl ⟨(m.own b hb).mpr ho, cap, ?_, by omega, ?_⟩
      · rw [Cx.addr_eq (m.ρ b hb), ← el]; exact hv
      · rw [m.ρ b hb]; exact hr.ext e
    · exact .inr ⟨fun h => ho ((m.own b hb).mp h), a, hv⟩
  | ep hb => rw [← Cx.addr_eq (m.ρ _ hb)]; exact .ep (Nat.lt_of_lt_of_le hb m.len)
  | @rs c L a cap cv h0 h1 h2 ih =>
    refine .rs (cv := cv) h0 (fun i x hx => ?_) ih
    obtain ⟨k, e', ha, hj⟩ := h1 i x hx
    exact ⟨k, e', ha, fun j hj' => ⟨m.F _ _ (hj j hj').1, (e.cell _ _ (hj j hj').1).trans (hj j hj').2⟩⟩
  | @rn z c L a cap cv hz h0 h1 h2 ih =>
    refine .rn (cv := cv) hz h0 (fun i x hx => ?_) ih
    obtain ⟨k, e', ha, hj⟩ := h1 i x hx
    exact ⟨k, e', ha, fun j hj' => ⟨m.F _ _ (hj j hj').1, (e.cell _ _ (hj j hj').1).trans (hj j hj').2⟩⟩
  | @rp c x o k e' cv h1 h2 ih =>
    exact .rp (cv := cv) (fun j hj => ⟨m.F _ _ (h1 j hj).1, (e.cell _ _ (h1 j hj).1).trans (h1 j hj).2⟩) ih
  | @fn f first caps h1 h2 =>
    have e1 : (first.map fun p => Value.pointer (some (X.addr p.1 p.2))) = first.map fun p => Value.pointer (some (Y.addr p.1 p.2)) :=
      List.map_congr_left fun p hp => by rw [Cx.addr_eq (m.ρ _ (h1 p hp))]
    have e2 : (caps.map fun p => Value.pointer (some (X.addr p.1 p.2))) = caps.map fun p => Value.pointer (some (Y.addr p.1 p.2)) :=
      List.map_congr_left fun p hp => by rw [Cx.addr_eq (m.ρ _ (h2 p hp))]
    rw [e1, e2]
    exact .fn (fun p hp => Nat.lt_of_lt_of_le (h1 p hp) m.len) (fun p hp => Nat.lt_of_lt_of_le (h2 p hp) m.len)

end
end Ab
