/- The lists that the law KillringOwn makes and overwrites. No walk. -/
import Derived.Test.YtinlpmgchcbjpaaO1
namespace Go.Proofs.Ytinlpmgchcbjpaa
open Go Go.RowKit
set_option maxRecDepth 100000

theorem RefRing.tighter {w : World} {S : Nat → Prop} {g place : Nat} {es : List (List Int)} (h : RefRing w S g es place) : RefRing w (fun b => S b ∧ b < w.heap.size) g es place :=
  h.mono (fun _ hb hS => ⟨hS, hb⟩) (fun hb => h.1 hb.1)

theorem keeps_refl (W : World) : KeepsOthers W W := ⟨Nat.le_refl _, fun _ _ h _ => h⟩
theorem keeps_trans {a b c : World} (h : KeepsOthers a b) (k : KeepsOthers b c) : KeepsOthers a c := ⟨Nat.le_trans h.size k.size, fun i o hi ho => k.same i o (h.same i o hi ho) ho⟩

/-- Two blocks of other element types are not one. -/
theorem own_types {w : World} {base base' : Nat} {e e' : TypeId} {k k' n n' : Nat} {v v' : Value} {xs xs' : List Value} (h : w.ownsRow base e k v n xs) (h' : w.ownsRow base' e' k' v' n' xs') (hne : e ≠ e') : ∀ b, v.ownBlock = some b → v'.ownBlock ≠ some b := by
  intro b hb hb'
  rcases h.2 with ⟨e1, _⟩ | ⟨g, cap, cur, e1, _, hh, _⟩
  · rw [e1] at hb; simp [Value.ownBlock] at hb
  · rcases h'.2 with ⟨e2, _⟩ | ⟨g', cap', cur', e2, _, hh', _⟩
    · rw [e2] at hb'; simp [Value.ownBlock] at hb'
    · rw [e1] at hb; rw [e2] at hb'
      simp [Value.ownBlock] at hb hb'
      subst hb hb'
      rw [hh] at hh'; injection hh' with hh'; injection hh' with _ ht; exact hne ht

/-- A row of rows, all of the call's own; they read as ls. -/
def Mine (base : Nat) (W : World) (A : Option Addr) (n c : Nat) (ls : List (List Int)) : Prop :=
  ls.length = n ∧ ∃ vs, W.ownsRow base 22 1 (.slice A n c) n vs ∧ ∀ j, j < n → ∃ a m d, vs[j]? = some (.slice a m d) ∧ W.ownsRow base 21 1 (.slice a m d) m ((ls[j]?.getD []).map (Value.int .i32))

theorem Mine.nil (base : Nat) (W : World) : Mine base W none 0 0 [] := ⟨rfl, [], World.ownsRow_nil _ _ _ _, fun j h => absurd h (by omega)⟩
theorem Mine.only {base : Nat} {T : Nat → Prop} {w w' : World} {A : Option Addr} {n c : Nat} {ls : List (List Int)} (h : Mine base w A n c ls) (ho : Only T w w') (hT : ∀ b, base ≤ b → b < w.heap.size → ¬ T b) : Mine base w' A n c ls := by
  obtain ⟨h1, vs, h2, h3⟩ := h
  refine ⟨h1, vs, own_only h2 ho fun b hb => hT b (h2.lt b hb).1 (h2.lt b hb).2, fun j hj => ?_⟩
  obtain ⟨a, m, d, h4, h5⟩ := h3 j hj
  exact ⟨a, m, d, h4, own_only h5 ho fun b hb => hT b (h5.lt b hb).1 (h5.lt b hb).2⟩
theorem Mine.rd {base : Nat} {w : World} {A : Option Addr} {n c : Nat} {ls : List (List Int)} (h : Mine base w A n c ls) : RdL w (fun b => base ≤ b ∧ b < w.heap.size) A n c ls := by
  obtain ⟨h1, vs, h2, h3⟩ := h
  refine ⟨h1, vs, Rd.of_own h2 fun b hb => h2.lt b hb, fun j hj => ?_⟩
  obtain ⟨a, m, d, h4, h5⟩ := h3 j hj
  exact ⟨a, m, d, h4, Rd.of_own h5 fun b hb => h5.lt b hb⟩
theorem Mine.step {base : Nat} {w w3 w5 : World} {A A' : Option Addr} {n c c' : Nat} {ls : List (List Int)} {vs : List Value} {a : Option Addr} {m d : Nat} {x : List Int} (hl : ls.length = n) (hbase : base ≤ w.heap.size)
    (hown : w.ownsRow base 22 1 (.slice A n c) n vs) (he : ∀ j, j < n → ∃ a m d, vs[j]? = some (.slice a m d) ∧ w.ownsRow base 21 1 (.slice a m d) m ((ls[j]?.getD []).map (Value.int .i32)))
    (h3 : Pure w w3) (hx : w3.ownsRow w.heap.size 21 1 (.slice a m d) m (x.map (Value.int .i32)))
    (ho5 : w5.ownsRow base 22 1 (.slice A' (n + 1) c') (n + 1) (vs ++ [.slice a m d])) (hp5 : Only (fun b => (Value.slice A n c).ownBlock = some b) (w3.alloc (.cells #[.slice a m d] 22)) w5) :
    Mine base w5 A' (n + 1) c' (ls ++ [x]) := by
  have hlen : vs.length = n := by have := hown.1; simpa using this
  have hp : Only (fun b => (Value.slice A n c).ownBlock = some b) w w5 := ((Only.of_pure h3).alloc _).then_ hp5 fun i _ e => e
  have hp35 : Only (fun b => (Value.slice A n c).ownBlock = some b) w3 w5 := ((Only.refl _ w3).alloc _).then_ hp5 fun i _ e => e
  refine ⟨by simp [hl], _, ho5, fun j hj => ?_⟩
  by_cases e : j = n
  · subst e
    refine ⟨a, m, d, by rw [List.getElem?_append_right (by omega)]; simp [hlen], ?_⟩
    rw [List.getElem?_append_right (by omega)]
    simp only [hl, Nat.sub_self, List.getElem?_cons_zero, Option.getD_some]
    exact own_base (own_only hx hp35 fun b hb e => by have h1 := (hx.lt b hb).1; have h2 := (hown.lt b e).2; omega) hbase
  · obtain ⟨a', m', d', h1, h2⟩ := he j (by omega)
    refine ⟨a', m', d', by rw [List.getElem?_append_left (by omega)]; exact h1, ?_⟩
    rw [List.getElem?_append_left (by omega)]
    exact own_only h2 hp fun b hb e => own_types h2 hown (by decide) b hb e

/-- A row of the call's own whose slices may be written. -/
def Rows (base : Nat) (Z : Nat → Prop) (W : World) (A : Option Addr) (n c : Nat) : Prop := ∃ vs, W.ownsRow base 22 1 (.slice A n c) n vs ∧ ∀ j, j < n → ∃ a m d, vs[j]? = some (.slice a m d) ∧ Wr Z W a m
theorem Rows.set {base : Nat} {Z : Nat → Prop} {W : World} {A : Option Addr} {n c b : Nat} {cur : Array Value} (h : Rows base Z W A n c) (hb : Blk W b 21 cur) (k : Nat) (u : Value) : Rows base Z (W.setCell ⟨b, k, none⟩ u) A n c := by
  obtain ⟨vs, h1, h2⟩ := h
  refine ⟨vs, own_only h1 ((Only.refl (fun x => x = b) W).set k u) fun x hx e => row_ne_box hb h1 (by decide) x hx e, fun j hj => ?_⟩
  obtain ⟨a, m, d, h3, h4⟩ := h2 j hj
  exact ⟨a, m, d, h3, h4.set b k u⟩
theorem Rows.at_ {base : Nat} {Z : Nat → Prop} {W : World} {A : Option Addr} {n c : Nat} (h : Rows base Z W A n c) {k : Nat} (hk : k < n) : ∃ g off a m d, A = some ⟨g, off, none⟩ ∧ W.cell? ⟨g, off + k, none⟩ = some (.slice a m d) ∧ Wr Z W a m := by
  obtain ⟨vs, h1, h2⟩ := h
  obtain ⟨a, m, d, h3, h4⟩ := h2 k hk
  obtain ⟨g, off, u, e, _, _, h5, h6⟩ := (Rd.of_own (S := fun _ => True) h1 fun _ _ => trivial).at_ hk
  rw [h3] at h5; injection h5 with h5
  exact ⟨g, off, a, m, d, e, by rw [h6, ← h5], h4⟩
/-- The row that is handed on, one slice longer. -/
theorem Rows.of_mine {base : Nat} {Z : Nat → Prop} {w7 w8 : World} {A A' : Option Addr} {n c c' : Nat} {ls : List (List Int)} {vs : List Value} {a : Option Addr} {m d : Nat}
    (hown : w7.ownsRow base 22 1 (.slice A n c) n vs) (he : ∀ j, j < n → ∃ a m d, vs[j]? = some (.slice a m d) ∧ w7.ownsRow base 21 1 (.slice a m d) m ((ls[j]?.getD []).map (Value.int .i32)))
    (hp8 : Only (fun b => (Value.slice A n c).ownBlock = some b) w7 w8) (ho8 : w8.ownsRow base 22 1 (.slice A' (n + 1) c') (n + 1) (vs ++ [.slice a m d])) (hm : Wr Z w8 a m)
    (hZ : ∀ j (a : Option Addr) (m d : Nat), j < n → vs[j]? = some (.slice a m d) → ∀ b, (Value.slice a m d).ownBlock = some b → Z b) : Rows base Z w8 A' (n + 1) c' := by
  have hlen : vs.length = n := by have := hown.1; simpa using this
  refine ⟨_, ho8, fun j hj => ?_⟩
  by_cases e : j = n
  · subst e
    exact ⟨a, m, d, by rw [List.getElem?_append_right (by omega)]; simp [hlen], hm⟩
  · obtain ⟨a', m', d', h1, h2⟩ := he j (by omega)
    refine ⟨a', m', d', by rw [List.getElem?_append_left (by omega)]; exact h1, ?_⟩
    have h3 : w8.ownsRow base 21 1 (.slice a' m' d') m' ((ls[j]?.getD []).map (Value.int .i32)) := own_only h2 hp8 fun b hb e => own_types h2 hown (by decide) b hb e
    rcases h3.2 with ⟨hv, hn0⟩ | ⟨g, cap, cur, hv, hb, hh, hnc, hcm, hcs, htk⟩
    · injection hv with e1 e2 e3
      exact ⟨by omega, .inl e2⟩
    · have hz := hZ j a' m' d' (by omega) h1 g (by rw [hv]; rfl)
      injection hv with e1 e2 e3
      subst e1
      exact ⟨by omega, .inr ⟨g, cur, rfl, hz, hh, by omega⟩⟩

/-- What stands while the law overwrites what is its own. -/
def St (w : World) (Sr Sq : Nat → Prop) (g g2 : Nat) (es : List (List Int)) (pl2 : Nat) (W : World) : Prop := (∃ pl, Ring W Sr g es pl) ∧ RefRing W Sq g2 es pl2 ∧ Pure w W
def FreeB (w : World) (Sr Sq : Nat → Prop) (g g2 : Nat) (Z : Nat → Prop) : Prop := ∀ b, Z b → ¬ Sr b ∧ ¬ Sq b ∧ b ≠ g ∧ b ≠ g2 ∧ w.heap.size ≤ b
theorem St.only {w : World} {Sr Sq T : Nat → Prop} {g g2 pl2 : Nat} {es : List (List Int)} {W W' : World} (h : St w Sr Sq g g2 es pl2 W) (ho : Only T W W') (hT : ∀ b, T b → ¬ Sr b ∧ ¬ Sq b ∧ b ≠ g ∧ b ≠ g2 ∧ w.heap.size ≤ b) : St w Sr Sq g g2 es pl2 W' := by
  obtain ⟨⟨pl, h1⟩, h2, h3⟩ := h
  exact ⟨⟨pl, h1.only ho (fun b hs _ ht => (hT b ht).1 hs) fun e => (hT g e).2.2.1 rfl⟩, h2.only ho (fun b hs _ ht => (hT b ht).2.1 hs) fun e => (hT g2 e).2.2.2.1 rfl, h3.then_ ho fun i hi e => by have := (hT i e).2.2.2.2; omega⟩
theorem St.pure_ {w : World} {Sr Sq : Nat → Prop} {g g2 pl2 : Nat} {es : List (List Int)} {W W' : World} (h : St w Sr Sq g g2 es pl2 W) (ho : Pure W W') : St w Sr Sq g g2 es pl2 W' := h.only ho fun _ x => x.elim
theorem St.set {w : World} {Sr Sq Z : Nat → Prop} {g g2 pl2 b : Nat} {es : List (List Int)} {W : World} (h : St w Sr Sq g g2 es pl2 W) (hF : FreeB w Sr Sq g g2 Z) (hb : Z b) (k : Nat) (u : Value) : St w Sr Sq g g2 es pl2 (W.setCell ⟨b, k, none⟩ u) :=
  h.only ((Only.refl (fun x => x = b) W).set k u) fun x e => by subst e; exact hF _ hb
theorem St.ring {w : World} {Sr Sq : Nat → Prop} {g g2 pl2 pl : Nat} {es : List (List Int)} {W W' : World} (h : St w Sr Sq g g2 es pl2 W) (hR : Ring W' Sr g es pl) (ho : Only (fun b => b = g) W W') (hq : ¬ Sq g) (hgg : g ≠ g2) (hg : w.heap.size ≤ g) : St w Sr Sq g g2 es pl2 W' :=
  ⟨⟨pl, hR⟩, h.2.1.only ho (fun b hs _ e => hq (e ▸ hs)) (fun e => hgg e.symm), h.2.2.then_ ho fun i hi e => by omega⟩
theorem St.keptB {B : Nat} {w : World} {Sr Sq : Nat → Prop} {g g2 pl2 : Nat} {es : List (List Int)} {W W' : World} (h : St w Sr Sq g g2 es pl2 W) (k : KeptB B W W') (hB : w.heap.size ≤ B) : St w Sr Sq g g2 es pl2 W' := by
  obtain ⟨⟨pl, h1⟩, ⟨q1, A, N, c, q2, q3, q4⟩, h3⟩ := h
  exact ⟨⟨pl, h1.keptB k⟩, ⟨q1, A, N, c, q2.keptB k, q3.keptB k, q4⟩, h3.keptB k hB⟩
theorem Wr.keptB {B : Nat} {M : Nat → Prop} {W W' : World} {a : Option Addr} {m : Nat} (h : Wr M W a m) (k : KeptB B W W') : Wr M W' a m := by
  rcases h with ⟨h, h0 | ⟨b, cur, e, hb, hB, hm⟩⟩
  · exact ⟨h, .inl h0⟩
  · exact ⟨h, .inr ⟨b, cur, e, hb, hB.keptB k, hm⟩⟩

end Go.Proofs.Ytinlpmgchcbjpaa
