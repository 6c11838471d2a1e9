/- Words about rows, boxes and rounds that the walks over lists of edits share. -/
import Derived.Test.YtinlpmgchcbjpaaK1
import Derived.Test.YtinlpmgchcbjpaaRf
import Derived.OwnWalkIn
import Derived.TacticsInMore
import Derived.LoopNIn
import Derived.LoopIn
import Derived.Shelf.Abstract
import Derived.Laws.Cover4
namespace Go.Proofs.Ytinlpmgchcbjpaa
open Go Go.RowKit
set_option maxHeartbeats 1000000
set_option maxRecDepth 100000

/-- Two slices laid into a new row of slices. -/
theorem RdL.two {W : World} {S S' : Nat → Prop} {a a' : Option Addr} {m d m' d' : Nat} {x y : List Int} (h : RdI W S a m d x) (h' : RdI W S' a' m' d' y) :
    RdL (W.alloc (.cells #[.slice a m d, .slice a' m' d'] 22)) (fun _ => True) (some ⟨W.heap.size, 0, none⟩) 2 2 [x, y] := by
  have hp : Pure W (W.alloc (.cells #[.slice a m d, .slice a' m' d'] 22)) := (Only.refl _ W).alloc _
  refine ⟨rfl, [.slice a m d, .slice a' m' d'], ⟨rfl, Nat.le_refl _, by unfold maxLen; omega, fun _ => ⟨W.heap.size, 0, rfl, trivial, by simp, fun j u hj => ?_⟩⟩, fun k hk => ?_⟩
  · have hb : Blk (W.alloc (.cells #[.slice a m d, .slice a' m' d'] 22)) W.heap.size 22 #[.slice a m d, .slice a' m' d'] := Blk.new _ _ _
    rw [hb.cell, Nat.zero_add]
    simpa using hj
  · match k, hk with
    | 0, _ => exact ⟨a, m, d, rfl, (h.pure_ hp).mono fun _ _ _ => trivial⟩
    | 1, _ => exact ⟨a', m', d', rfl, (h'.pure_ hp).mono fun _ _ _ => trivial⟩

theorem RdI.one (W : World) (x : Int) : RdI (W.alloc (.cells #[.int .i32 x] 21)) (fun b => b = W.heap.size) (some ⟨W.heap.size, 0, none⟩) 1 1 [x] := by
  refine ⟨rfl, Nat.le_refl _, by unfold maxLen; omega, fun _ => ⟨W.heap.size, 0, rfl, rfl, by simp, fun j u hj => ?_⟩⟩
  have hb : Blk (W.alloc (.cells #[.int .i32 x] 21)) W.heap.size 21 #[.int .i32 x] := Blk.new _ _ _
  rw [hb.cell, Nat.zero_add]
  simpa using hj

theorem convert_ab (w : World) (S : Nat → Prop) (A : Option Addr) (n c : Nat) (hr : RdI w S A n c [97, 98]) : (convert 22 9 (.slice A n c)).run Try.prog w = .ok (.string ⟨#[97, 98]⟩) w := by
  have hl := hr.len
  simp at hl
  subst hl
  obtain ⟨g, off, u, rfl, _, _, h0, c0⟩ := Rd.at_ hr (k := 0) (by omega)
  obtain ⟨g', off', u', e, _, _, h1, c1⟩ := Rd.at_ hr (k := 1) (by omega)
  injection e with e
  injection e with e1 e2
  subst e1 e2
  simp at h0 h1
  subst h0 h1
  have := run_convert_runes (P := Try.prog) w 22 9 21 ⟨g, off, none⟩ 2 c [97, 98] (by simp) Try.underlying22 Try.underlying21 Try.underlying9 (by
    intro j hj
    match j, hj with
    | 0, _ => rw [addr_add]; exact c0
    | 1, _ => rw [addr_add]; exact c1)
  rw [this]
  rfl

/-- One slice laid into a new row of slices. -/
theorem Rd.one (W : World) (u : Value) (t : TypeId) : Rd (W.alloc (.cells #[u] t)) (fun b => b = W.heap.size) 1 (some ⟨W.heap.size, 0, none⟩) 1 1 [u] := by
  refine ⟨rfl, Nat.le_refl _, by unfold maxLen; omega, fun _ => ⟨W.heap.size, 0, rfl, rfl, by simp, fun j v hj => ?_⟩⟩
  have hb : Blk (W.alloc (.cells #[u] t)) W.heap.size t #[u] := Blk.new _ _ _
  rw [hb.cell, Nat.zero_add]
  simpa using hj

/-- A row of slices is never a box of such a row. -/
theorem row_ne_box {w : World} {base Bn n k : Nat} {v : Value} {vs : List Value} {cs : Array Value} {e t : TypeId} (hB : Blk w Bn t cs) (hown : w.ownsRow base e k v n vs) (hne : e ≠ t) : ∀ b, v.ownBlock = some b → b ≠ Bn := by
  rintro b hb rfl
  rcases hown.2 with ⟨e', _⟩ | ⟨g', cap, cur, e', _, hh, _⟩
  · rw [e'] at hb; simp [Value.ownBlock] at hb
  · rw [e'] at hb; simp [Value.ownBlock] at hb; subst hb
    unfold Blk at hB; rw [hB] at hh; injection hh with hh; injection hh with _ ht; exact hne ht.symm

theorem Blk.keptB {B g : Nat} {W W' : World} {t : TypeId} {cs : Array Value} (h : Blk W g t cs) (k : KeptB B W W') : Blk W' g t cs := k.cells _ _ _ _ h

/-- A statement that is walked to its end alone. -/
theorem wp_calm {P : Program} {c : Code} {K : Act → World → Prop} {Q' : Exit → Act → World → Prop} {a : Act} {w : World} (h : c.wp P (Exit.then K fun _ _ _ => False) a w) : c.wp P (Exit.then K Q') a w :=
  wp_mono h fun e a w hq => by cases e <;> first | exact hq | exact hq.elim

theorem results_bool {fn : Func} {p : Tmp} (h : fn.results = #[.cell p 4]) (tmps : Array Value) (w : World) (a : Addr) (v : Value)
    (hp : tmps.getD p undef = .pointer (some a)) (hc : w.cell? a = some v) : (results fn tmps).run Try.prog w = .ok v w := by
  have hp' : tmps[p]?.getD undef = .pointer (some a) := by simpa using hp
  simp [results, h, hp', asAddr, go_sem, hc]

theorem take_at (ls : List (List Int)) (k : Nat) (h : k < ls.length) : ls.take (k + 1) = ls.take k ++ [ls[k]?.getD []] := by
  rw [List.take_add_one, List.getElem?_eq_getElem h]; rfl

theorem keeps_refl (W : World) : KeepsOthers W W := ⟨Nat.le_refl _, fun _ _ h _ => h⟩

theorem keeps_trans {a b c : World} (h : KeepsOthers a b) (k : KeepsOthers b c) : KeepsOthers a c := ⟨Nat.le_trans h.size k.size, fun i o hi ho => k.same i o (h.same i o hi ho) ho⟩

/-- Two blocks of other element types are not one. -/
theorem own_types {w : World} {base base' : Nat} {e e' : TypeId} {k k' n n' : Nat} {v v' : Value} {xs xs' : List Value} (h : w.ownsRow base e k v n xs) (h' : w.ownsRow base' e' k' v' n' xs') (hne : e ≠ e') : ∀ b, v.ownBlock = some b → v'.ownBlock ≠ some b := by
  intro b hb hb'
  rcases h.2 with ⟨e1, _⟩ | ⟨g, cap, cur, e1, _, hh, _⟩
  · rw [e1] at hb; simp [Value.ownBlock] at hb
  · rcases h'.2 with ⟨e2, _⟩ | ⟨g', cap', cur', e2, _, hh', _⟩
    · rw [e2] at hb'; simp [Value.ownBlock] at hb'
    · rw [e1] at hb; rw [e2] at hb'
      simp [Value.ownBlock] at hb hb'
      subst hb hb'
      rw [hh] at hh'; injection hh' with hh'; injection hh' with _ ht; exact hne ht

/-- A slice of runes that may be written: a row of the call's own, in a block of M. -/
def Wr (M : Nat → Prop) (W : World) (a : Option Addr) (m : Nat) : Prop := m ≤ maxLen ∧ (m = 0 ∨ ∃ b cur, a = some ⟨b, 0, none⟩ ∧ M b ∧ Blk W b 21 cur ∧ m ≤ cur.size)
theorem Wr.of_own {M : Nat → Prop} {W : World} {base : Nat} {a : Option Addr} {m d : Nat} {xs : List Value} (h : W.ownsRow base 21 1 (.slice a m d) m xs) (hM : ∀ b, base ≤ b → b < W.heap.size → M b) : Wr M W a m := by
  rcases h.2 with ⟨hv, hn0⟩ | ⟨g, cap, cur, hv, hb, hh, hnc, hcm, hcs, htk⟩
  · injection hv with h1 h2 h3
    exact ⟨by omega, .inl h2⟩
  · injection hv with h1 h2 h3
    subst h1
    exact ⟨by omega, .inr ⟨g, cur, rfl, hM g hb (Array.getElem?_eq_some_iff.1 hh).1, hh, by omega⟩⟩
theorem Wr.mono {M M' : Nat → Prop} {W : World} {a : Option Addr} {m : Nat} (h : Wr M W a m) (hM : ∀ b, M b → M' b) : Wr M' W a m := by
  rcases h with ⟨h, h0 | ⟨b, cur, e, hb, hB, hm⟩⟩
  · exact ⟨h, .inl h0⟩
  · exact ⟨h, .inr ⟨b, cur, e, hM b hb, hB, hm⟩⟩
theorem Wr.set {M : Nat → Prop} {W : World} {a : Option Addr} {m : Nat} (h : Wr M W a m) (g k : Nat) (u : Value) : Wr M (W.setCell ⟨g, k, none⟩ u) a m := by
  rcases h with ⟨h, h0 | ⟨b, cur, e, hb, hB, hm⟩⟩
  · exact ⟨h, .inl h0⟩
  · refine ⟨h, .inr ⟨b, ?_⟩⟩
    by_cases e' : b = g
    · subst e'; exact ⟨_, e, hb, hB.set_ k u, by simpa using hm⟩
    · exact ⟨cur, e, hb, hB.far (p := ⟨g, k, none⟩) e' u, hm⟩
theorem Wr.only {M T : Nat → Prop} {W W' : World} {a : Option Addr} {m : Nat} (h : Wr M W a m) (ho : Only T W W') (hT : ∀ b, M b → ¬ T b) : Wr M W' a m := by
  rcases h with ⟨h, h0 | ⟨b, cur, e, hb, hB, hm⟩⟩
  · exact ⟨h, .inl h0⟩
  · exact ⟨h, .inr ⟨b, cur, e, hb, hB.only ho (hT b hb), hm⟩⟩
theorem Wr.pure_ {M : Nat → Prop} {W W' : World} {a : Option Addr} {m : Nat} (h : Wr M W a m) (ho : Pure W W') : Wr M W' a m := h.only ho fun _ _ x => x
theorem Wr.at_ {M : Nat → Prop} {W : World} {a : Option Addr} {m : Nat} (h : Wr M W a m) {k : Nat} (hk : k < m) : ∃ b u, a = some ⟨b, 0, none⟩ ∧ M b ∧ W.cell? ⟨b, k, none⟩ = some u ∧ W.frozen? ⟨b, k, none⟩ = false ∧ ∃ cur, Blk W b 21 cur := by
  rcases h with ⟨h, h0 | ⟨b, cur, e, hb, hB, hm⟩⟩
  · omega
  · exact ⟨b, cur[k]'(by omega), e, hb, by rw [hB.cell]; exact Array.getElem?_eq_getElem _, hB.frozen k, cur, hB⟩

theorem Wr.keptB {B : Nat} {M : Nat → Prop} {W W' : World} {a : Option Addr} {m : Nat} (h : Wr M W a m) (k : KeptB B W W') : Wr M W' a m := by
  rcases h with ⟨h, h0 | ⟨b, cur, e, hb, hB, hm⟩⟩
  · exact ⟨h, .inl h0⟩
  · exact ⟨h, .inr ⟨b, cur, e, hb, hB.keptB k, hm⟩⟩

end Go.Proofs.Ytinlpmgchcbjpaa
