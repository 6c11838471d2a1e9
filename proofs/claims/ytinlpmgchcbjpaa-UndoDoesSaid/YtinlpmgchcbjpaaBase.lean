/- Plain words for memory: which blocks a call may turn, and what a slice value reads as. No program is named here. -/
import Derived.Below
import Derived.Laws.OwnMore
import Derived.Deep.AppendLies
import Derived.Deep.Draws
import Derived.Laws.Rows
namespace Go.Proofs.Ytinlpmgchcbjpaa
open Go Go.RowKit

theorem hid {p : Prop} (h : p) : Hid p := h

/-- Outside the blocks T (and what is new) the world w' is as w was. -/
structure Only (T : Nat → Prop) (w w' : World) : Prop where
  os : w'.os = w.os
  tape : w'.tape = w.tape
  output : w'.output = w.output
  size : w.heap.size ≤ w'.heap.size
  block : ∀ k, k < w.heap.size → ¬ T k → w'.heap[k]? = w.heap[k]?

/-- Nothing that was there has turned. -/
abbrev Pure (w w' : World) : Prop := Only (fun _ => False) w w'

section
variable {T T' : Nat → Prop} {a b c w w' : World}

theorem Only.refl (T : Nat → Prop) (w : World) : Only T w w := ⟨rfl, rfl, rfl, Nat.le_refl _, fun _ _ _ => rfl⟩
theorem Only.trans (h : Only T a b) (k : Only T b c) : Only T a c :=
  ⟨k.os.trans h.os, k.tape.trans h.tape, k.output.trans h.output, Nat.le_trans h.size k.size, fun i hi ht => (k.block i (Nat.lt_of_lt_of_le hi h.size) ht).trans (h.block i hi ht)⟩
theorem Only.mono (h : Only T w w') (hT : ∀ k, k < w.heap.size → T k → T' k) : Only T' w w' :=
  ⟨h.os, h.tape, h.output, h.size, fun i hi ht => h.block i hi (fun x => ht (hT i hi x))⟩
theorem Only.of_pure (h : Pure w w') : Only T w w' := h.mono fun _ _ x => x.elim
/-- A step after which only blocks that are new since a have turned. -/
theorem Only.then_ (h : Only T a b) (k : Only T' b c) (hT : ∀ i, i < a.heap.size → T' i → T i) : Only T a c :=
  ⟨k.os.trans h.os, k.tape.trans h.tape, k.output.trans h.output, Nat.le_trans h.size k.size, fun i hi ht => (k.block i (Nat.lt_of_lt_of_le hi h.size) (fun x => ht (hT i hi x))).trans (h.block i hi ht)⟩
theorem Only.drew (h : Only T a w) : Only T a w.drew := ⟨h.os, h.tape, h.output, h.size, h.block⟩
theorem Only.drewN (h : Only T a w) (n : Nat) : Only T a (w.drewN n) := ⟨h.os, h.tape, h.output, h.size, h.block⟩
theorem Only.ofDrew (h : Only T w.drew w') : Only T w w' := ⟨h.os, h.tape, h.output, h.size, h.block⟩
theorem Only.ofDrewN {n : Nat} (h : Only T (w.drewN n) w') : Only T w w' := ⟨h.os, h.tape, h.output, h.size, h.block⟩
theorem Only.alloc (h : Only T a w) (o : Obj) : Only T a (w.alloc o) :=
  ⟨h.os, h.tape, h.output, Nat.le_trans h.size (by simp), fun i hi ht => (Below.heap_alloc w o i (Nat.lt_of_lt_of_le hi h.size)).trans (h.block i hi ht)⟩
theorem Only.setCell (h : Only T a w) {p : Addr} (hp : p.block < a.heap.size → T p.block) (u : Value) : Only T a (w.setCell p u) :=
  ⟨h.os, h.tape, h.output, by simpa [World.setCell] using h.size, fun i hi ht => (Below.heap_setCell w p u i (by rintro rfl; exact ht (hp hi))).trans (h.block i hi ht)⟩
theorem Only.grown (h : Only T a w) {row : Option Nat} (hg : w.grownBy w' row) (hr : ∀ k, row = some k → k < a.heap.size → T k) : Only T a w' :=
  ⟨hg.os.trans h.os, hg.tape.trans h.tape, hg.output.trans h.output, Nat.le_trans h.size hg.size, fun i hi ht => (hg.block i (Nat.lt_of_lt_of_le hi h.size) (fun e => ht (hr i e.symm hi))).trans (h.block i hi ht)⟩
theorem Only.of_below (h : Below w.heap.size w w') : Pure w w' := ⟨h.os, h.tape, h.output, h.size, fun i hi _ => h.block i hi⟩
theorem Only.below {B : Nat} (h : Only T w w') (hB : ∀ k, k < B → ¬ T k) (hs : B ≤ w.heap.size) : Below B w w' :=
  ⟨h.os, h.tape, h.output, h.size, fun i hi => h.block i (Nat.lt_of_lt_of_le hi hs) (hB i hi)⟩
theorem Only.pure_below (h : Pure w w') : Below w.heap.size w w' := ⟨h.os, h.tape, h.output, h.size, fun i hi => h.block i hi (fun x => x)⟩
theorem Only.cell (h : Only T w w') {p : Addr} (hb : p.block < w.heap.size) (ht : ¬ T p.block) : w'.cell? p = w.cell? p := World.cell?_of_block (w := w) (h.block p.block hb ht)
theorem Only.frozen (h : Only T w w') {p : Addr} (hb : p.block < w.heap.size) (ht : ¬ T p.block) : w'.frozen? p = w.frozen? p := World.frozen?_of_block (w := w) (h.block p.block hb ht)
theorem Only.to_grown (h : Pure w w') (row : Option Nat) : w.grownBy w' row := ⟨h.os, h.tape, h.output, h.size, fun i hi _ => h.block i hi (fun x => x)⟩
end

/-- The slice '.slice A n c' reads as the cells xs (size cells an element); its cells lie in blocks of S. -/
def Rd (w : World) (S : Nat → Prop) (size : Nat) (A : Option Addr) (n c : Nat) (xs : List Value) : Prop :=
  xs.length = n * size ∧ n ≤ c ∧ c ≤ maxLen ∧ (0 < n → ∃ g off, A = some ⟨g, off, none⟩ ∧ S g ∧ g < w.heap.size ∧ ∀ j u, xs[j]? = some u → w.cell? ⟨g, off + j, none⟩ = some u)

section
variable {w w' : World} {S S' T : Nat → Prop} {size : Nat} {A : Option Addr} {n c : Nat} {xs : List Value}

theorem Rd.frame (h : Rd w S size A n c xs) (hk : ∀ b, S b → b < w.heap.size → w'.heap[b]? = w.heap[b]?) (hs : w.heap.size ≤ w'.heap.size) : Rd w' S size A n c xs :=
  ⟨h.1, h.2.1, h.2.2.1, fun hn => by
    obtain ⟨g, off, e, hS, hg, hc⟩ := h.2.2.2 hn
    exact ⟨g, off, e, hS, Nat.lt_of_lt_of_le hg hs, fun j u hu => (World.cell?_of_block (hk g hS hg)).trans (hc j u hu)⟩⟩
theorem Rd.only (h : Rd w S size A n c xs) (ho : Only T w w') (hT : ∀ b, S b → b < w.heap.size → ¬ T b) : Rd w' S size A n c xs :=
  h.frame (fun b hS hb => ho.block b hb (hT b hS hb)) ho.size
theorem Rd.pure_ (h : Rd w S size A n c xs) (ho : Pure w w') : Rd w' S size A n c xs := h.only ho fun _ _ _ x => x
theorem Rd.mono (h : Rd w S size A n c xs) (hS : ∀ b, b < w.heap.size → S b → S' b) : Rd w S' size A n c xs :=
  ⟨h.1, h.2.1, h.2.2.1, fun hn => by
    obtain ⟨g, off, e, hg, hl, hc⟩ := h.2.2.2 hn
    exact ⟨g, off, e, hS g hl hg, hl, hc⟩⟩
theorem Rd.nil (w : World) (S : Nat → Prop) (size : Nat) (A : Option Addr) (c : Nat) (hc : c ≤ maxLen) : Rd w S size A 0 c [] := ⟨by simp, Nat.zero_le _, hc, fun h => absurd h (by omega)⟩
theorem Rd.at_ (h : Rd w S 1 A n c xs) {k : Nat} (hk : k < n) : ∃ g off u, A = some ⟨g, off, none⟩ ∧ S g ∧ g < w.heap.size ∧ xs[k]? = some u ∧ w.cell? ⟨g, off + k, none⟩ = some u := by
  obtain ⟨g, off, e, hS, hg, hc⟩ := h.2.2.2 (by omega)
  have hl : k < xs.length := by have := h.1; omega
  exact ⟨g, off, xs[k], e, hS, hg, List.getElem?_eq_getElem hl, hc k _ (List.getElem?_eq_getElem hl)⟩
end

/-- A slice of runes. -/
def RdI (w : World) (S : Nat → Prop) (A : Option Addr) (n c : Nat) (xs : List Int) : Prop := Rd w S 1 A n c (xs.map (Value.int .i32))

section
variable {w w' : World} {S S' T : Nat → Prop} {A : Option Addr} {n c : Nat} {xs : List Int}
theorem RdI.len (h : RdI w S A n c xs) : xs.length = n := by have := h.1; simpa using this
theorem RdI.cap (h : RdI w S A n c xs) : n ≤ c := h.2.1
theorem RdI.capMax (h : RdI w S A n c xs) : c ≤ maxLen := h.2.2.1
theorem RdI.only (h : RdI w S A n c xs) (ho : Only T w w') (hT : ∀ b, S b → b < w.heap.size → ¬ T b) : RdI w' S A n c xs := Rd.only h ho hT
theorem RdI.pure_ (h : RdI w S A n c xs) (ho : Pure w w') : RdI w' S A n c xs := Rd.pure_ h ho
theorem RdI.mono (h : RdI w S A n c xs) (hS : ∀ b, b < w.heap.size → S b → S' b) : RdI w S' A n c xs := Rd.mono h hS
theorem RdI.frame (h : RdI w S A n c xs) (hk : ∀ b, S b → b < w.heap.size → w'.heap[b]? = w.heap[b]?) (hs : w.heap.size ≤ w'.heap.size) : RdI w' S A n c xs := Rd.frame h hk hs
theorem RdI.nil (w : World) (S : Nat → Prop) (A : Option Addr) (c : Nat) (hc : c ≤ maxLen) : RdI w S A 0 c [] := Rd.nil w S 1 A c hc
theorem RdI.at_ (h : RdI w S A n c xs) {k : Nat} (hk : k < n) : ∃ g off, A = some ⟨g, off, none⟩ ∧ S g ∧ g < w.heap.size ∧ w.cell? ⟨g, off + k, none⟩ = some (.int .i32 (xs[k]?.getD 0)) := by
  obtain ⟨g, off, u, e, hS, hg, hu, hc⟩ := Rd.at_ h hk
  refine ⟨g, off, e, hS, hg, ?_⟩
  rw [List.getElem?_map] at hu
  cases hx : xs[k]? with
  | none => rw [hx] at hu; simp at hu
  | some x => rw [hx] at hu; simp at hu; rw [hc, ← hu]; rfl
end

/-- A slice of slices of runes. -/
def RdL (w : World) (S : Nat → Prop) (A : Option Addr) (n c : Nat) (ls : List (List Int)) : Prop :=
  ls.length = n ∧ ∃ vs, Rd w S 1 A n c vs ∧ ∀ k, k < n → ∃ a m d, vs[k]? = some (.slice a m d) ∧ RdI w S a m d (ls[k]?.getD [])

section
variable {w w' : World} {S S' T : Nat → Prop} {A : Option Addr} {n c : Nat} {ls : List (List Int)}
theorem RdL.len (h : RdL w S A n c ls) : ls.length = n := h.1
theorem RdL.frame (h : RdL w S A n c ls) (hk : ∀ b, S b → b < w.heap.size → w'.heap[b]? = w.heap[b]?) (hs : w.heap.size ≤ w'.heap.size) : RdL w' S A n c ls := by
  obtain ⟨h1, vs, hr, hi⟩ := h
  refine ⟨h1, vs, hr.frame hk hs, fun k hk' => ?_⟩
  obtain ⟨a, m, d, hv, hri⟩ := hi k hk'
  exact ⟨a, m, d, hv, hri.frame hk hs⟩
theorem RdL.only (h : RdL w S A n c ls) (ho : Only T w w') (hT : ∀ b, S b → b < w.heap.size → ¬ T b) : RdL w' S A n c ls := h.frame (fun b hS hb => ho.block b hb (hT b hS hb)) ho.size
theorem RdL.pure_ (h : RdL w S A n c ls) (ho : Pure w w') : RdL w' S A n c ls := h.only ho fun _ _ _ x => x
theorem RdL.mono (h : RdL w S A n c ls) (hS : ∀ b, b < w.heap.size → S b → S' b) : RdL w S' A n c ls := by
  obtain ⟨h1, vs, hr, hi⟩ := h
  refine ⟨h1, vs, hr.mono hS, fun k hk' => ?_⟩
  obtain ⟨a, m, d, hv, hri⟩ := hi k hk'
  exact ⟨a, m, d, hv, hri.mono hS⟩
theorem RdL.at_ (h : RdL w S A n c ls) {k : Nat} (hk : k < n) : ∃ g off a m d, A = some ⟨g, off, none⟩ ∧ S g ∧ g < w.heap.size ∧ w.cell? ⟨g, off + k, none⟩ = some (.slice a m d) ∧ RdI w S a m d (ls[k]?.getD []) := by
  obtain ⟨_, vs, hr, hi⟩ := h
  obtain ⟨g, off, u, e, hS, hg, hu, hc⟩ := hr.at_ hk
  obtain ⟨a, m, d, hv, hri⟩ := hi k hk
  rw [hv] at hu; injection hu with hu; subst hu
  exact ⟨g, off, a, m, d, e, hS, hg, hc, hri⟩
end
end Go.Proofs.Ytinlpmgchcbjpaa
