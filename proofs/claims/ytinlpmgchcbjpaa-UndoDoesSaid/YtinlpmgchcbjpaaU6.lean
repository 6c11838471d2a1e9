/- Rows of the call's own over whatever elements: edits, groups of edits. -/
import Derived.Test.YtinlpmgchcbjpaaU2
namespace Go.Proofs.Ytinlpmgchcbjpaa
open Go Go.RowKit
set_option maxRecDepth 100000

/-- How an element lies in memory. -/
structure Kind (α : Type) where
  rd : World → (Nat → Prop) → List Value → α → Prop
  frame : ∀ {w w' : World} {S : Nat → Prop} {cs : List Value} {x : α}, rd w S cs x → (∀ b, S b → b < w.heap.size → w'.heap[b]? = w.heap[b]?) → w.heap.size ≤ w'.heap.size → rd w' S cs x
  mono : ∀ {w : World} {S S' : Nat → Prop} {cs : List Value} {x : α}, rd w S cs x → (∀ b, b < w.heap.size → S b → S' b) → rd w S' cs x

theorem Kind.only {α : Type} (K : Kind α) {w w' : World} {S T : Nat → Prop} {cs : List Value} {x : α} (h : K.rd w S cs x) (ho : Only T w w') (hT : ∀ b, S b → b < w.heap.size → ¬ T b) : K.rd w' S cs x :=
  K.frame h (fun b hS hb => ho.block b hb (hT b hS hb)) ho.size
theorem Kind.pure_ {α : Type} (K : Kind α) {w w' : World} {S : Nat → Prop} {cs : List Value} {x : α} (h : K.rd w S cs x) (ho : Pure w w') : K.rd w' S cs x := K.only h ho fun _ _ _ x => x

/-- A slice of such elements, k cells each. -/
def RdK' {α : Type} (K : Kind α) (k : Nat) (z : α) (w : World) (S : Nat → Prop) (A : Option Addr) (n c : Nat) (xs : List α) : Prop :=
  xs.length = n ∧ ∃ vs, Rd w S k A n c vs ∧ ∀ j, j < n → K.rd w S ((vs.drop (j * k)).take k) (xs[j]?.getD z)

/-- A row of the call's own of such elements, which lie in other blocks. -/
def OwnK {α : Type} (K : Kind α) (e : TypeId) (k : Nat) (z : α) (base : Nat) (w : World) (A : Option Addr) (n c : Nat) (xs : List α) (Se : Nat → Prop) : Prop :=
  xs.length = n ∧ ∃ vs, w.ownsRow base e k (.slice A n c) n vs ∧ (∀ j, j < n → K.rd w Se ((vs.drop (j * k)).take k) (xs[j]?.getD z)) ∧ (∀ b, Se b → (Value.slice A n c).ownBlock ≠ some b) ∧ (∀ b, Se b → b < w.heap.size)

section
variable {α : Type} {K : Kind α} {e : TypeId} {k : Nat} {z : α} {base : Nat} {w w' : World} {A : Option Addr} {n c : Nat} {xs : List α} {Se T : Nat → Prop}

theorem OwnK.nil (base : Nat) (w : World) : OwnK K e k z base w none 0 0 [] (fun _ => False) := ⟨rfl, [], World.ownsRow_nil _ _ _ _, fun j h => absurd h (by omega), fun _ h => h.elim, fun _ h => h.elim⟩
theorem OwnK.len (h : OwnK K e k z base w A n c xs Se) : xs.length = n := h.1
theorem OwnK.only (h : OwnK K e k z base w A n c xs Se) (ho : Only T w w') (hT : ∀ b, Se b → ¬ T b) (hB : ∀ b, (Value.slice A n c).ownBlock = some b → ¬ T b) : OwnK K e k z base w' A n c xs Se := by
  obtain ⟨h1, vs, h2, h3, h4, h5⟩ := h
  exact ⟨h1, vs, own_only h2 ho hB, fun j hj => K.only (h3 j hj) ho fun b hb _ => hT b hb, h4, fun b hb => Nat.lt_of_lt_of_le (h5 b hb) ho.size⟩
theorem OwnK.pure_ (h : OwnK K e k z base w A n c xs Se) (ho : Pure w w') : OwnK K e k z base w' A n c xs Se := h.only ho (fun _ _ x => x) fun _ _ x => x
theorem OwnK.rd (h : OwnK K e k z base w A n c xs Se) : RdK' K k z w (fun b => Se b ∨ (Value.slice A n c).ownBlock = some b) A n c xs := by
  obtain ⟨h1, vs, h2, h3, h4, h5⟩ := h
  exact ⟨h1, vs, Rd.of_own h2 fun b hb => .inr hb, fun j hj => K.mono (h3 j hj) fun b _ hb => .inl hb⟩
theorem OwnK.lt (h : OwnK K e k z base w A n c xs Se) : ∀ b, (Value.slice A n c).ownBlock = some b → b < w.heap.size := by
  obtain ⟨h1, vs, h2, _⟩ := h
  exact fun b hb => (h2.lt b hb).2

/-- One element more. -/
theorem OwnK.step {w3 w4 w5 : World} {A' : Option Addr} {c' : Nat} {Sx : Nat → Prop} {ns : List Value} {x : α} (hl : xs.length = n) {vs : List Value} (hown : w.ownsRow base e k (.slice A n c) n vs)
    (he : ∀ j, j < n → K.rd w Se ((vs.drop (j * k)).take k) (xs[j]?.getD z)) (h4 : ∀ b, Se b → (Value.slice A n c).ownBlock ≠ some b) (h5 : ∀ b, Se b → b < w.heap.size)
    (h3 : Pure w w3) (hx : K.rd w3 Sx ns x) (hns : ns.length = k) (hSx : ∀ b, Sx b → b < w3.heap.size ∧ (Value.slice A n c).ownBlock ≠ some b) (h34 : Pure w3 w4)
    (ho5 : w5.ownsRow base e k (.slice A' (n + 1) c') (n + 1) (vs ++ ns)) (hp5 : Only (fun b => (Value.slice A n c).ownBlock = some b) w4 w5)
    (hat : (Value.slice A' (n + 1) c').ownBlock = (Value.slice A n c).ownBlock ∨ (Value.slice A' (n + 1) c').ownBlock = some w4.heap.size) :
    OwnK K e k z base w5 A' (n + 1) c' (xs ++ [x]) (fun b => Se b ∨ Sx b) := by
  have hlen : vs.length = n * k := hown.1
  have s3 := h3.size
  have s4 := h34.size
  have s5 := hp5.size
  have hp : Only (fun b => (Value.slice A n c).ownBlock = some b) w w5 := (Only.of_pure (h3.trans h34)).then_ hp5 fun i _ e => e
  have hp3 : Only (fun b => (Value.slice A n c).ownBlock = some b) w3 w5 := (Only.of_pure h34).then_ hp5 fun i _ e => e
  refine ⟨by simp [hl], vs ++ ns, ho5, fun j hj => ?_, fun b hb => ?_, fun b hb => ?_⟩
  · by_cases ej : j = n
    · subst ej
      have e1 : ((vs ++ ns).drop (j * k)).take k = ns := by
        rw [← hlen, List.drop_left, ← hns, List.take_length]
      have e2 : ((xs ++ [x])[j]?.getD z) = x := by rw [List.getElem?_append_right (by omega)]; simp [hl]
      rw [e1, e2]
      exact K.mono (K.only hx hp3 fun b hb _ => (hSx b hb).2) fun b _ hb => .inr hb
    · have hlt : j < n := by omega
      have hjk : j * k + k ≤ n * k := by have := Nat.mul_le_mul_right k (show j + 1 ≤ n by omega); rwa [Nat.add_mul, Nat.one_mul] at this
      have e1 : ((vs ++ ns).drop (j * k)).take k = (vs.drop (j * k)).take k := by
        rw [List.drop_append_of_le_length (by omega), List.take_append_of_le_length (by rw [List.length_drop]; omega)]
      have e2 : ((xs ++ [x])[j]?.getD z) = (xs[j]?.getD z) := by rw [List.getElem?_append_left (by omega)]
      rw [e1, e2]
      exact K.mono (K.only (he j hlt) hp fun b hb _ => h4 b hb) fun b _ hb => .inl hb
  · have key : b < w4.heap.size ∧ (Value.slice A n c).ownBlock ≠ some b := by
      rcases hb with h | h
      · exact ⟨by have := h5 b h; omega, h4 b h⟩
      · exact ⟨by have := (hSx b h).1; omega, (hSx b h).2⟩
    rcases hat with h | h
    · rw [h]; exact key.2
    · rw [h]; intro e; injection e with e; omega
  · rcases hb with h | h
    · have := h5 b h; omega
    · have := (hSx b h).1; omega
end

/-- An edit: its number, its two slices of runes. -/
def edKind : Kind Ed where
  rd w S cs x := ∃ a m d a' m' d', cs = [.int .i64 x.at_, .slice a m d, .slice a' m' d'] ∧ RdI w S a m d x.del ∧ RdI w S a' m' d' x.ins
  frame := by rintro w w' S cs x ⟨a, m, d, a', m', d', e, h1, h2⟩ hk hs; exact ⟨a, m, d, a', m', d', e, h1.frame hk hs, h2.frame hk hs⟩
  mono := by rintro w S S' cs x ⟨a, m, d, a', m', d', e, h1, h2⟩ hS; exact ⟨a, m, d, a', m', d', e, h1.mono hS, h2.mono hS⟩

/-- A slice of edits. -/
abbrev RdE (w : World) (S : Nat → Prop) (A : Option Addr) (n c : Nat) (es : List Ed) : Prop := RdK' edKind 3 Ed.none w S A n c es

/-- A group: a slice of edits. -/
def grKind : Kind (List Ed) where
  rd w S cs x := ∃ a m d, cs = [.slice a m d] ∧ RdE w S a m d x
  frame := by
    rintro w w' S cs x ⟨a, m, d, e, h1, vs, h2, h3⟩ hk hs
    exact ⟨a, m, d, e, h1, vs, h2.frame hk hs, fun j hj => edKind.frame (h3 j hj) hk hs⟩
  mono := by
    rintro w S S' cs x ⟨a, m, d, e, h1, vs, h2, h3⟩ hS
    exact ⟨a, m, d, e, h1, vs, h2.mono hS, fun j hj => edKind.mono (h3 j hj) hS⟩
abbrev RdG (w : World) (S : Nat → Prop) (A : Option Addr) (n c : Nat) (gs : List (List Ed)) : Prop := RdK' grKind 1 [] w S A n c gs

end Go.Proofs.Ytinlpmgchcbjpaa
