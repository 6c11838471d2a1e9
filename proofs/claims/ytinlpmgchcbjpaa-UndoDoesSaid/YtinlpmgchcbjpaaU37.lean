/- What stands while the laws go on with both lists: plain facts. No walk. -/
import Derived.Test.YtinlpmgchcbjpaaU29
import Derived.Test.YtinlpmgchcbjpaaU23
namespace Go.Proofs.Ytinlpmgchcbjpaa
open Go Go.RowKit
set_option maxRecDepth 100000

/-- The list and the reference list; nothing that was there has turned. -/
def Pr (w : World) (g g2 : Nat) (gs : List (List Ed)) (nw : List Ed) (op : Int) (gs2 : List (List Ed)) (nw2 : List Ed) (op2 : Int) (S S2 : Nat → Prop) (X : World) : Prop :=
  UL X S g gs nw op ∧ RL X S2 g2 gs2 nw2 op2 ∧ (∀ b, S b → w.heap.size ≤ b ∧ b < X.heap.size ∧ ¬ S2 b ∧ b ≠ g2) ∧ (∀ b, S2 b → w.heap.size ≤ b ∧ b < X.heap.size ∧ b ≠ g) ∧ g ≠ g2 ∧ w.heap.size ≤ g ∧ w.heap.size ≤ g2 ∧ Pure w X

section
variable {w X Y : World} {g g2 : Nat} {gs gs2 gs' : List (List Ed)} {nw nw2 nw' : List Ed} {op op2 op' : Int} {S S2 T : Nat → Prop}
theorem Pr.only (h : Pr w g g2 gs nw op gs2 nw2 op2 S S2 X) (ho : Only T X Y) (hT : ∀ b, T b → ¬ S b ∧ ¬ S2 b ∧ b ≠ g ∧ b ≠ g2 ∧ w.heap.size ≤ b) : Pr w g g2 gs nw op gs2 nw2 op2 S S2 Y := by
  obtain ⟨h1, h2, h3, h4, h5, h6, h7, h8⟩ := h
  have hs := ho.size
  exact ⟨h1.only ho (fun b hb e => (hT b e).1 hb) (fun e => (hT g e).2.2.1 rfl), h2.only ho (fun b hb e => (hT b e).2.1 hb) (fun e => (hT g2 e).2.2.2.1 rfl), fun b hb => ⟨(h3 b hb).1, Nat.lt_of_lt_of_le (h3 b hb).2.1 hs, (h3 b hb).2.2⟩, fun b hb => ⟨(h4 b hb).1, Nat.lt_of_lt_of_le (h4 b hb).2.1 hs, (h4 b hb).2.2⟩, h5, h6, h7, h8.then_ ho fun i hi e => by have := (hT i e).2.2.2.2; omega⟩
theorem Pr.pure_ (h : Pr w g g2 gs nw op gs2 nw2 op2 S S2 X) (hp : Pure X Y) : Pr w g g2 gs nw op gs2 nw2 op2 S S2 Y := h.only hp fun _ e => e.elim
theorem Pr.turnU (h : Pr w g g2 gs nw op gs2 nw2 op2 S S2 X) (hU : UL Y (Plus S X.heap.size) g gs' nw' op') (ho : Only (fun b => S b ∨ b = g) X Y) :
    Pr w g g2 gs' nw' op' gs2 nw2 op2 (fun b => Plus S X.heap.size b ∧ b < Y.heap.size) S2 Y := by
  obtain ⟨h1, h2, h3, h4, h5, h6, h7, h8⟩ := h
  have hs := ho.size
  have hl := h2.lt
  have hl0 := h8.size
  refine ⟨hU.tight, h2.only ho (fun b hb e => ?_) (fun e => ?_), fun b hb => ?_, fun b hb => ⟨(h4 b hb).1, Nat.lt_of_lt_of_le (h4 b hb).2.1 hs, (h4 b hb).2.2⟩, h5, h6, h7, h8.then_ ho fun i hi e => ?_⟩
  · rcases e with e | e
    · exact (h3 b e).2.2.1 hb
    · exact (h4 b hb).2.2 e
  · rcases e with e | e
    · exact (h3 g2 e).2.2.2 rfl
    · exact h5 e.symm
  · rcases hb.1 with h | h
    · exact ⟨(h3 b h).1, hb.2, (h3 b h).2.2⟩
    · exact ⟨by omega, hb.2, fun hb2 => by have := (h4 b hb2).2.1; omega, by omega⟩
  · rcases e with e | e
    · have := (h3 i e).1; omega
    · omega
theorem Pr.turnR (h : Pr w g g2 gs nw op gs2 nw2 op2 S S2 X) (hU : RL Y (Plus S2 X.heap.size) g2 gs' nw' op') (ho : Only (fun b => S2 b ∨ b = g2) X Y) :
    Pr w g g2 gs nw op gs' nw' op' S (fun b => Plus S2 X.heap.size b ∧ b < Y.heap.size) Y := by
  obtain ⟨h1, h2, h3, h4, h5, h6, h7, h8⟩ := h
  have hs := ho.size
  have hl := h1.lt
  have hl0 := h8.size
  refine ⟨h1.only ho (fun b hb e => ?_) (fun e => ?_), hU.tight, fun b hb => ⟨(h3 b hb).1, Nat.lt_of_lt_of_le (h3 b hb).2.1 hs, fun h => ?_, (h3 b hb).2.2.2⟩, fun b hb => ?_, h5, h6, h7, h8.then_ ho fun i hi e => ?_⟩
  · rcases e with e | e
    · exact (h3 b hb).2.2.1 e
    · exact (h3 b hb).2.2.2 e
  · rcases e with e | e
    · exact (h4 g e).2.2 rfl
    · exact h5 e
  · rcases h.1 with h | h
    · exact (h3 b hb).2.2.1 h
    · have := (h3 b hb).2.1; omega
  · rcases hb.1 with h | h
    · exact ⟨(h4 b h).1, hb.2, (h4 b h).2.2⟩
    · exact ⟨by omega, hb.2, by omega⟩
  · rcases e with e | e
    · have := (h4 i e).1; omega
    · omega
end

theorem Only.put {Z : Nat → Prop} {X W : World} {b : Nat} (h : Only Z X W) (hb : Z b) (q : Nat) (u : Value) : Only Z X (W.setCell ⟨b, q, none⟩ u) :=
  h.trans (((Only.refl (fun x => x = b) W).set q u).mono fun x _ e => by have e' : x = b := e; subst e'; exact hb)

theorem Blk.types {W : World} {b : Nat} {t t' : TypeId} {cs cs' : Array Value} (h : Blk W b t cs) (h' : Blk W b t' cs') : t = t' := by
  unfold Blk at h h'
  rw [h] at h'
  injection h' with h'
  injection h' with _ ht

/-- A row of the call's own of edits whose numbers and new runes may be written. -/
def WrE (Z : Nat → Prop) (W : World) (A : Option Addr) (n : Nat) : Prop :=
  n ≤ maxLen ∧ (n = 0 ∨ ∃ b cur, A = some ⟨b, 0, none⟩ ∧ Z b ∧ Blk W b 60 cur ∧ n * 3 ≤ cur.size ∧ ∀ j, j < n → ∃ a m d, cur[j * 3 + 2]? = some (.slice a m d) ∧ Wr Z W a m)

theorem WrE.of {Z : Nat → Prop} {W : World} {B : Nat} {A : Option Addr} {n c : Nat} {es : List Ed} {Se : Nat → Prop} (h : OwnK (edKindO B) 60 3 Ed.none B W A n c es Se) (hZ : ∀ b, B ≤ b → Z b) (hn : n ≤ maxLen) : WrE Z W A n := by
  obtain ⟨h1, vs, h2, h3, _⟩ := h
  refine ⟨hn, ?_⟩
  rcases h2.2 with ⟨hv, hn0⟩ | ⟨g, cap, cur, hv, hb, hh, hnc, hcm, hcs, htk⟩
  · injection hv with _ e _; exact .inl e
  · injection hv with e1 e2 e3
    subst e1
    have hB : Blk W g 60 cur := hh
    have hlen : vs.length = n * 3 := h2.1
    refine .inr ⟨g, cur, rfl, hZ g hb, hB, ?_, fun j hj => ?_⟩
    · have hc : cap * 3 ≤ cur.size := by omega
      have : n * 3 ≤ cap * 3 := Nat.mul_le_mul_right 3 hnc
      omega
    · obtain ⟨a, m, d, a', m', d', e, k1, k2, _⟩ := h3 j hj
      have hc := h2.cells (g := g) rfl (j * 3 + 2) _ (row_get (j := 2) e rfl)
      rw [addr_add] at hc
      refine ⟨a', m', d', ?_, Wr.of_own k2 fun b hb _ => hZ b hb⟩
      rw [← hB.cell]; simpa using hc

theorem WrE.at_ {Z : Nat → Prop} {W : World} {A : Option Addr} {n : Nat} (h : WrE Z W A n) {j : Nat} (hj : j < n) : ∃ b u a m d, A = some ⟨b, 0, none⟩ ∧ Z b ∧ (∃ cur, Blk W b 60 cur) ∧ W.cell? ⟨b, j * 3, none⟩ = some u ∧ W.frozen? ⟨b, j * 3, none⟩ = false ∧ W.cell? ⟨b, j * 3 + 2, none⟩ = some (.slice a m d) ∧ Wr Z W a m := by
  obtain ⟨_, h | ⟨b, cur, rfl, hb, hB, hs, hi⟩⟩ := h
  · omega
  · obtain ⟨a, m, d, h1, h2⟩ := hi j hj
    exact ⟨b, cur[j * 3]'(by omega), a, m, d, rfl, hb, ⟨cur, hB⟩, by rw [hB.cell]; exact Array.getElem?_eq_getElem _, hB.frozen _, by rw [hB.cell]; exact h1, h2⟩

/-- A number is written. -/
theorem WrE.setAt {Z : Nat → Prop} {W : World} {b n : Nat} (h : WrE Z W (some ⟨b, 0, none⟩) n) (j : Nat) (u : Value) : WrE Z (W.setCell ⟨b, j * 3, none⟩ u) (some ⟨b, 0, none⟩) n := by
  obtain ⟨hn, h | ⟨b', cur, e, hb, hB, hs, hi⟩⟩ := h
  · exact ⟨hn, .inl h⟩
  · injection e with e; injection e with e; subst e
    refine ⟨hn, .inr ⟨b, _, rfl, hb, hB.set_ (j * 3) u, by simpa using hs, fun j' hj' => ?_⟩⟩
    obtain ⟨a, m, d, h1, h2⟩ := hi j' hj'
    exact ⟨a, m, d, by rw [Array.getElem?_setIfInBounds_ne (by omega)]; exact h1, h2.set _ _ _⟩
/-- A rune is written. -/
theorem WrE.setRune {Z : Nat → Prop} {W : World} {A : Option Addr} {n b : Nat} {cur' : Array Value} (h : WrE Z W A n) (hb : Blk W b 21 cur') (k : Nat) (u : Value) : WrE Z (W.setCell ⟨b, k, none⟩ u) A n := by
  obtain ⟨hn, h | ⟨b', cur, e, hz, hB, hs, hi⟩⟩ := h
  · exact ⟨hn, .inl h⟩
  · have hne : b' ≠ b := fun e' => by subst e'; exact absurd (hB.types hb) (by decide)
    refine ⟨hn, .inr ⟨b', cur, e, hz, hB.far (p := ⟨b, k, none⟩) hne u, hs, fun j' hj' => ?_⟩⟩
    obtain ⟨a, m, d, h1, h2⟩ := hi j' hj'
    exact ⟨a, m, d, h1, h2.set _ _ _⟩

/-- What an Add leaves, whatever it answers. -/
def gsA (gs : List (List Ed)) (nw : List Ed) (op : Int) (e : Ed) : List (List Ed) := if addCode e (tot gs nw) = 0 then addG gs op e else gs
def nwA (gs : List (List Ed)) (nw : List Ed) (op : Int) (e : Ed) : List Ed := if addCode e (tot gs nw) = 0 then addN nw op e else nw
theorem AddDid.any {w w' : World} {S : Nat → Prop} {g : Nat} {gs : List (List Ed)} {nw : List Ed} {op : Int} {e : Ed} {r : Ending} (h : AddDid w S g gs nw op e r w') :
    r = .returned (.int .i64 (addCode e (tot gs nw))) ∧ UL w' (Plus S w.heap.size) g (gsA gs nw op e) (nwA gs nw op e) op ∧ Only (fun b => S b ∨ b = g) w w' := by
  unfold AddDid at h
  unfold gsA nwA
  split at h
  · rename_i hc
    rw [if_pos hc, if_pos hc, hc]; exact h
  · rename_i hc
    rw [if_neg hc, if_neg hc]; exact h

/-- While the law UndoOwn goes round: both lists; the edit of the script in its box; the law's own copy of it, in its box, all of it below block B. -/
def OwnAt (w : World) (g g2 : Nat) (gs : List (List Ed)) (nw : List Ed) (S S2 : Nat → Prop) (B b8 b9 : Nat) (at0 : Int) (A : Option Addr) (n c : Nat) (A' : Option Addr) (n' c' : Nat) (A3 : Option Addr) (n3 c3 : Nat) (A4 : Option Addr) (n4 c4 : Nat) (del ins : List Int) (Z : Nat → Prop) (X : World) : Prop :=
  Pr w g g2 gs nw 0 gs nw 0 S S2 X ∧ Blk X b8 60 #[.int .i64 at0, .slice A n c, .slice A' n' c'] ∧ Blk X b9 60 #[.int .i64 at0, .slice A3 n3 c3, .slice A4 n4 c4] ∧ (RdI X Z A3 n3 c3 del ∧ RdI X Z A4 n4 c4 ins ∧ Wr Z X A3 n3 ∧ Wr Z X A4 n4) ∧
    (∀ b, Z b → w.heap.size ≤ b ∧ b < B ∧ ¬ S b ∧ ¬ S2 b ∧ b ≠ g ∧ b ≠ g2) ∧ ¬ Z b8 ∧ ¬ Z b9 ∧ b8 < B ∧ b9 < B ∧ (∀ b, S b ∨ S2 b ∨ b = g ∨ b = g2 → b < B) ∧ w.heap.size ≤ B

section
variable {w X Y : World} {g g2 : Nat} {gs : List (List Ed)} {nw : List Ed} {S S2 T Z : Nat → Prop} {B b8 b9 : Nat} {at0 : Int} {A A' A3 A4 : Option Addr} {n c n' c' n3 c3 n4 c4 : Nat} {del ins : List Int}
theorem OwnAt.far (h : OwnAt w g g2 gs nw S S2 B b8 b9 at0 A n c A' n' c' A3 n3 c3 A4 n4 c4 del ins Z X) (ho : Only T X Y) (hT : ∀ b, T b → B ≤ b) : OwnAt w g g2 gs nw S S2 B b8 b9 at0 A n c A' n' c' A3 n3 c3 A4 n4 c4 del ins Z Y := by
  obtain ⟨h1, h2, h3, ⟨k1, k2, k3, k4⟩, h4, h5, h6, h7, h8, h9, h10⟩ := h
  have hz : ∀ b, Z b → ¬ T b := fun b hb e => by have := hT b e; have := (h4 b hb).2.1; omega
  exact ⟨h1.only ho fun b e => ⟨fun hb => by have := hT b e; have := h9 b (.inl hb); omega, fun hb => by have := hT b e; have := h9 b (.inr (.inl hb)); omega, fun hb => by have := hT b e; have := h9 b (.inr (.inr (.inl hb))); omega, fun hb => by have := hT b e; have := h9 b (.inr (.inr (.inr hb))); omega, Nat.le_trans h10 (hT b e)⟩,
    h2.only ho (fun e => by have := hT _ e; omega), h3.only ho (fun e => by have := hT _ e; omega), ⟨k1.only ho fun b hb _ => hz b hb, k2.only ho fun b hb _ => hz b hb, k3.only ho hz, k4.only ho hz⟩, h4, h5, h6, h7, h8, h9, h10⟩
theorem OwnAt.pure_ (h : OwnAt w g g2 gs nw S S2 B b8 b9 at0 A n c A' n' c' A3 n3 c3 A4 n4 c4 del ins Z X) (ho : Pure X Y) : OwnAt w g g2 gs nw S S2 B b8 b9 at0 A n c A' n' c' A3 n3 c3 A4 n4 c4 del ins Z Y := h.far ho fun _ e => e.elim
/-- The law's own copy is overwritten: the lists stay. -/
theorem OwnAt.pr (h : OwnAt w g g2 gs nw S S2 B b8 b9 at0 A n c A' n' c' A3 n3 c3 A4 n4 c4 del ins Z X) (ho : Only Z X Y) : Pr w g g2 gs nw 0 gs nw 0 S S2 Y :=
  h.1.only ho fun b e => ⟨(h.2.2.2.2.1 b e).2.2.1, (h.2.2.2.2.1 b e).2.2.2.1, (h.2.2.2.2.1 b e).2.2.2.2.1, (h.2.2.2.2.1 b e).2.2.2.2.2, (h.2.2.2.2.1 b e).1⟩
theorem OwnAt.box (h : OwnAt w g g2 gs nw S S2 B b8 b9 at0 A n c A' n' c' A3 n3 c3 A4 n4 c4 del ins Z X) (ho : Only Z X Y) : Blk Y b9 60 #[.int .i64 at0, .slice A3 n3 c3, .slice A4 n4 c4] :=
  h.2.2.1.only ho h.2.2.2.2.2.2.1
end

end Go.Proofs.Ytinlpmgchcbjpaa
