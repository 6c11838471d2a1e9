/- (*Ring).Kill: the ways on which the newest entry grows; all its ways in one contract. -/
import Derived.Test.YtinlpmgchcbjpaaK2
namespace Go.Proofs.Ytinlpmgchcbjpaa
open Go Go.RowKit
set_option maxHeartbeats 400000
set_option maxRecDepth 100000

theorem RingCells.newest {w : World} {S : Nat → Prop} {cs : Array Value} {head : Nat} {e0 : List Int} {es : List (List Int)} {place : Nat} (h : RingCells w S cs head (e0 :: es) place) {a : Option Addr} {m d : Nat} {l : List Int} (hl : RdI w S a m d l) (hm : m ≤ 1024) :
    RingCells w S ((cs.setIfInBounds (1 + head) (.slice a m d)).setIfInBounds 63 (.int .i64 ((0 : Nat) : Int))) head (l :: es) 0 := by
  obtain ⟨h0s, h2, h3, h4, h5, h6, h7, h8, h9⟩ := h
  have h1 := h0s.1
  have hsz : ∀ (cs : Array Value) i v, (cs.setIfInBounds i v).size = cs.size := by simp
  refine ⟨(h0s.set _ rfl).set _ rfl, ?_, ?_, ?_, ?_, h6, by simpa using h7, .inr rfl, fun i hi => ?_⟩
  · simp only [Array.getElem?_setIfInBounds, hsz, h1]; rw [if_neg (by decide), if_neg (by omega)]; exact h2
  · simp only [Array.getElem?_setIfInBounds, hsz, h1]; rw [if_neg (by decide), if_neg (by omega)]; exact h3
  · simp only [Array.getElem?_setIfInBounds, hsz, h1]; rw [if_neg (by decide), if_neg (by omega)]; simpa using h4
  · simp only [Array.getElem?_setIfInBounds, hsz, h1]; simp
  · rcases Nat.eq_zero_or_pos i with h0 | h0
    · subst h0
      refine ⟨a, m, d, ?_, by simpa using hl, hm⟩
      simp only [Array.getElem?_setIfInBounds, hsz, h1]
      rw [if_neg (by omega), if_pos (by omega), if_pos (by omega)]
    · obtain ⟨a', m', d', hc, hr, hm'⟩ := h9 i (by simpa using hi)
      refine ⟨a', m', d', ?_, ?_, hm'⟩
      · simp only [Array.getElem?_setIfInBounds, hsz, h1]
        simp only [List.length_cons] at hi h7
        rw [if_neg (by omega), if_neg (by omega), ← hc]
      · obtain ⟨j, rfl⟩ : ∃ j, i = j + 1 := ⟨i - 1, by omega⟩
        simpa using hr

theorem Ring.grown {w W : World} {S : Nat → Prop} {cs : Array Value} {head g : Nat} {e0 : List Int} {es : List (List Int)} {place : Nat} {a : Option Addr} {m d : Nat} {l : List Int} (h : RingCells w S cs head (e0 :: es) place) (hSg : ¬ S g) (hg : g < w.heap.size)
    (ho : Only (fun b => b = g) w W) (hl : RdI W (Plus S w.heap.size) a m d l) (hm : m ≤ 1024)
    (hB : Blk W g 38 ((cs.setIfInBounds (1 + head) (.slice a m d)).setIfInBounds 63 (.int .i64 0))) :
    Ring W (Plus S w.heap.size) g (l :: es) 0 := by
  refine ⟨?_, _, _, hB, RingCells.newest ((h.frame (fun b hS hb => ho.block b hb (fun e => hSg (e ▸ hS))) ho.size).mono fun b _ hS => .inl hS) hl hm⟩
  rintro (h1 | h1)
  · exact hSg h1
  · omega

/-- Two slices laid into a new row of slices. -/
theorem RdL.two {W : World} {S S' : Nat → Prop} {a a' : Option Addr} {m d m' d' : Nat} {x y : List Int} (h : RdI W S a m d x) (h' : RdI W S' a' m' d' y) :
    RdL (W.alloc (.cells #[.slice a m d, .slice a' m' d'] 22)) (fun _ => True) (some ⟨W.heap.size, 0, none⟩) 2 2 [x, y] := by
  have hp : Pure W (W.alloc (.cells #[.slice a m d, .slice a' m' d'] 22)) := (Only.refl _ W).alloc _
  refine ⟨rfl, [.slice a m d, .slice a' m' d'], ⟨rfl, Nat.le_refl _, by unfold maxLen; omega, fun _ => ⟨W.heap.size, 0, rfl, trivial, by simp, fun j u hj => ?_⟩⟩, fun k hk => ?_⟩
  · have hb : Blk (W.alloc (.cells #[.slice a m d, .slice a' m' d'] 22)) W.heap.size 22 #[.slice a m d, .slice a' m' d'] := Blk.new _ _ _
    rw [hb.cell, Nat.zero_add]
    simpa using hj
  · match k, hk with
    | 0, _ => exact ⟨a, m, d, rfl, (h.pure_ hp).mono fun _ _ _ => trivial⟩
    | 1, _ => exact ⟨a', m', d', rfl, (h'.pure_ hp).mono fun _ _ _ => trivial⟩

theorem at_zero' (g head : Nat) (A : Option Addr) (m c : Nat) (w : World) (hh : head < 60) (h61 : w.cell? ⟨g, 61, none⟩ = some (.int .i64 (head : Int)))
    (hv : w.cell? ⟨g, 1 + head, none⟩ = some (.slice A m c)) :
    Calls Try.prog 67 #[.pointer (some ⟨g, 0, none⟩), .int .i64 0] w fun e w' => e = .returned (.slice A m c) ∧ Pure w w' :=
  (at_zero g head A m c w hh h61 hv).mono fun _ _ ⟨he, q, hw⟩ => ⟨he, by rw [hw]; exact (Only.refl _ w).drewN q⟩

theorem kill_append (g : Nat) (S S' : Nat → Prop) (e0 : List Int) (es : List (List Int)) (place : Nat) (A : Option Addr) (n c : Nat) (l : List Int) (w : World) (hR : Ring w S g (e0 :: es) place)
    (hr : RdI w S' A n c l) (hf : n + e0.length ≤ 1024) :
    Calls Try.prog 17 #[.pointer (some ⟨g, 0, none⟩), .int .i64 1, .slice A n c] w (Did w S g ((e0 ++ l) :: es) 0 (.int .i64 0)) := by
  obtain ⟨hSg, cs, head, hB, hC⟩ := hR
  have hC0 := hC
  obtain ⟨k1, k2, k3, k4, k5, k6, k7, k8, k9⟩ := hC
  obtain ⟨a, m, d, hv, hre, hm⟩ := k9 0 (by simp)
  rw [show (head + 0) % 60 = head by omega] at hv
  have hre' : RdI w S a m d e0 := by simpa using hre
  have hlen := hre'.len
  have hlen2 := hr.len
  have hsm : small [e0, l].flatten.length := by unfold small; simp; omega
  rw [hlen] at hf
  have c0 := (hB.cell 0).trans k2
  have c61 := (hB.cell 61).trans k3
  have c62 := (hB.cell 62).trans k4
  have c63 := (hB.cell 63).trans k5
  have cv := (hB.cell (1 + head)).trans hv
  have gv := hB.frozen (1 + head)
  have g63 := hB.frozen 63
  obtain ⟨E, hE⟩ : ∃ E, E = (e0 :: es).length := ⟨_, rfl⟩
  rw [← hE] at c62
  have hE1 : (0 : Int) < (E : Int) := by rw [hE]; simp
  have HL := hid hlen
  have HL2 := hid hlen2
  have hg := hB.lt
  clear k1 k2 k3 k4 k5 k7 k8 k9 hv hre hlen hlen2 hE
  have h1 : (n : Int) ≤ 1024 := by omega
  have h2 : (n : Int) ≤ (1024 : Int) - (m : Int) := by omega
  have h3 : (m : Int) ≤ 1024 := by omega
  have h4 : (0 : Int) ≤ (head : Int) := by omega
  have h5 : (head : Int) < 60 := by omega
  have hn61 : ¬ 1 + head = 61 := by omega
  have hn63 : ¬ 1 + head = 63 := by omega
  go_enter Try.func17, Try.ntmps17
  go_wp2_with (first | (go_at_call 66; refine (none_made _ _ c0).mono ?_; rintro e w' ⟨rfl, rfl⟩) | (go_at_call 67; refine (at_zero g head a m d _ k6 c61 cv).mono ?_; rintro e w' ⟨rfl, q, rfl⟩))
  obtain ⟨w0, hw0⟩ : ∃ w0, w0 = w.drewN q := ⟨_, rfl⟩
  rw [← hw0]
  have d61 : w0.cell? ⟨g, 61, none⟩ = some (.int .i64 (head : Int)) := by rw [hw0]; exact c61
  have d63 : w0.cell? ⟨g, 63, none⟩ = some (.int .i64 (place : Int)) := by rw [hw0]; exact c63
  have dv : w0.cell? ⟨g, 1 + head, none⟩ = some (.slice a m d) := by rw [hw0]; exact cv
  have dfv : w0.frozen? ⟨g, 1 + head, none⟩ = false := by rw [hw0]; exact gv
  have df63 : w0.frozen? ⟨g, 63, none⟩ = false := by rw [hw0]; exact g63
  have ho0 : Pure w w0 := by rw [hw0]; exact (Only.refl _ w).drewN q
  have hr0 := hr.pure_ ho0
  have hre0 := hre'.pure_ ho0
  have hB0 : Blk w0 g 38 cs := hB.pure_ ho0
  have hg0 := hB0.lt
  have hs0 : w.heap.size ≤ w0.heap.size := ho0.size
  clear hw0 c0 c61 c62 c63 cv gv g63 hr hre' hB
  go_region_held3 (fun W => W.cell? ⟨g, 61, none⟩ = some (.int .i64 (head : Int)))
    (first | go_keep | exact e61 | exact cell_other hn61 e61 | exact b61)
    (first | (go_at_call 67; refine (at_zero' g head a m d w0.drew k6 d61 dv).mono ?_; rintro e w1 ⟨rfl, hp1'⟩; have hp1 := hp1'.ofDrew; clear hp1'; have b61 := (hp1.cell (p := ⟨g, 61, none⟩) hg0 (fun x => x)).trans d61; have bv := (hp1.cell (p := ⟨g, 1 + head, none⟩) hg0 (fun x => x)).trans dv; have bfv := (hp1.frozen (p := ⟨g, 1 + head, none⟩) hg0 (fun x => x)).trans dfv; have hg1 := Nat.lt_of_lt_of_le hg0 hp1.size; have hre1 := hre0.pure_ (w' := w1) hp1; have hr1 := hr0.pure_ (w' := w1) hp1)
           | (go_at_call 69; refine (concat_any (some ⟨w1.heap.size, 0, none⟩) 2 2 [e0, l] (fun _ => True) (w1.alloc (.cells #[.slice a m d, .slice A n c] 22)) (RdL.two hre1 hr1) (by omega) hsm).mono ?_; rintro e w2 ⟨A1, n1, c1, rfl, hR2, hp2⟩; have e61 := (hp2.cell (p := ⟨g, 61, none⟩) (by simp; omega) (fun x => x)).trans ((World.cell?_alloc_past _ _ _ hg1).trans b61); have ev := (hp2.cell (p := ⟨g, 1 + head, none⟩) (by simp; omega) (fun x => x)).trans ((World.cell?_alloc_past _ _ _ hg1).trans bv); have fv2 := (hp2.frozen (p := ⟨g, 1 + head, none⟩) (by simp; omega) (fun x => x)).trans ((World.frozen?_alloc_old _ _ _ (Nat.ne_of_lt hg1)).trans bfv)))
  have hp02 : Pure w0 w2 := (hp1.alloc _).trans hp2
  have f63 := (hp02.cell (p := ⟨g, 63, none⟩) hg0 (fun x => x)).trans d63
  have ff63 := (hp02.frozen (p := ⟨g, 63, none⟩) hg0 (fun x => x)).trans df63
  have f63' := cell_other (v := .slice A1 n1 c1) hn63 f63
  have hb2 : Blk w2 g 38 cs := hB0.pure_ hp02
  have hw2 : Pure w w2 := ho0.trans hp02
  have hR3 : RdI w2 (Plus S w.heap.size) A1 n1 c1 (e0 ++ l) := by
    refine RdI.mono (by simpa using hR2) fun b _ hb => .inr ?_
    have h1 := hp1.size
    have h2 : w1.heap.size + 1 ≤ b := hb
    omega
  have hR4 : ∀ u u' : Value, RdI ((w2.setCell ⟨g, 1 + head, none⟩ u).setCell ⟨g, 63, none⟩ u') (Plus S w.heap.size) A1 n1 c1 (e0 ++ l) := fun u u' =>
    hR3.only (((Only.refl (fun b => b = g) w2).set _ _).set _ _) fun b hb _ e => by subst e; rcases hb with h | h; exact hSg h; omega
  have ho4 : ∀ u u' : Value, Only (fun b => b = g) w ((w2.setCell ⟨g, 1 + head, none⟩ u).setCell ⟨g, 63, none⟩ u') := fun u u' => ((Only.of_pure hw2).set _ _).set _ _
  have hn1 : n1 ≤ 1024 := by have := hR3.len; have := HL.out; have := HL2.out; simp at *; omega
  clear f63 b61 bv bfv d61 d63 dv dfv df63 e61 ev fv2
  go_wp2
  go_ret
  exact ⟨rfl, Ring.grown hC0 hSg hg (ho4 _ _) (hR4 _ _) hn1 ((hb2.set_ _ _).set_ 63 _), ho4 _ _⟩

theorem kill_prepend (g : Nat) (S S' : Nat → Prop) (e0 : List Int) (es : List (List Int)) (place : Nat) (A : Option Addr) (n c : Nat) (l : List Int) (w : World) (hR : Ring w S g (e0 :: es) place)
    (hr : RdI w S' A n c l) (hf : n + e0.length ≤ 1024) :
    Calls Try.prog 17 #[.pointer (some ⟨g, 0, none⟩), .int .i64 2, .slice A n c] w (Did w S g ((l ++ e0) :: es) 0 (.int .i64 0)) := by
  obtain ⟨hSg, cs, head, hB, hC⟩ := hR
  have hC0 := hC
  obtain ⟨k1, k2, k3, k4, k5, k6, k7, k8, k9⟩ := hC
  obtain ⟨a, m, d, hv, hre, hm⟩ := k9 0 (by simp)
  rw [show (head + 0) % 60 = head by omega] at hv
  have hre' : RdI w S a m d e0 := by simpa using hre
  have hlen := hre'.len
  have hlen2 := hr.len
  have hsm : small [l, e0].flatten.length := by unfold small; simp; omega
  rw [hlen] at hf
  have c0 := (hB.cell 0).trans k2
  have c61 := (hB.cell 61).trans k3
  have c62 := (hB.cell 62).trans k4
  have c63 := (hB.cell 63).trans k5
  have cv := (hB.cell (1 + head)).trans hv
  have gv := hB.frozen (1 + head)
  have g63 := hB.frozen 63
  obtain ⟨E, hE⟩ : ∃ E, E = (e0 :: es).length := ⟨_, rfl⟩
  rw [← hE] at c62
  have hE1 : (0 : Int) < (E : Int) := by rw [hE]; simp
  have HL := hid hlen
  have HL2 := hid hlen2
  have hg := hB.lt
  clear k1 k2 k3 k4 k5 k7 k8 k9 hv hre hlen hlen2 hE
  have h1 : (n : Int) ≤ 1024 := by omega
  have h2 : (n : Int) ≤ (1024 : Int) - (m : Int) := by omega
  have h3 : (m : Int) ≤ 1024 := by omega
  have h4 : (0 : Int) ≤ (head : Int) := by omega
  have h5 : (head : Int) < 60 := by omega
  have hn61 : ¬ 1 + head = 61 := by omega
  have hn63 : ¬ 1 + head = 63 := by omega
  go_enter Try.func17, Try.ntmps17
  go_wp2_with (first | (go_at_call 66; refine (none_made _ _ c0).mono ?_; rintro e w' ⟨rfl, rfl⟩) | (go_at_call 67; refine (at_zero g head a m d _ k6 c61 cv).mono ?_; rintro e w' ⟨rfl, q, rfl⟩))
  obtain ⟨w0, hw0⟩ : ∃ w0, w0 = w.drewN q := ⟨_, rfl⟩
  rw [← hw0]
  have d61 : w0.cell? ⟨g, 61, none⟩ = some (.int .i64 (head : Int)) := by rw [hw0]; exact c61
  have d63 : w0.cell? ⟨g, 63, none⟩ = some (.int .i64 (place : Int)) := by rw [hw0]; exact c63
  have dv : w0.cell? ⟨g, 1 + head, none⟩ = some (.slice a m d) := by rw [hw0]; exact cv
  have dfv : w0.frozen? ⟨g, 1 + head, none⟩ = false := by rw [hw0]; exact gv
  have df63 : w0.frozen? ⟨g, 63, none⟩ = false := by rw [hw0]; exact g63
  have ho0 : Pure w w0 := by rw [hw0]; exact (Only.refl _ w).drewN q
  have hr0 := hr.pure_ ho0
  have hre0 := hre'.pure_ ho0
  have hB0 : Blk w0 g 38 cs := hB.pure_ ho0
  have hg0 := hB0.lt
  have hs0 : w.heap.size ≤ w0.heap.size := ho0.size
  clear hw0 c0 c61 c62 c63 cv gv g63 hr hre' hB
  go_region_held3 (fun W => W.cell? ⟨g, 61, none⟩ = some (.int .i64 (head : Int)))
    (first | go_keep | exact e61 | exact cell_other hn61 e61 | exact b61)
    (first | (go_at_call 67; refine (at_zero' g head a m d w0.drew k6 d61 dv).mono ?_; rintro e w1 ⟨rfl, hp1'⟩; have hp1 := hp1'.ofDrew; clear hp1'; have b61 := (hp1.cell (p := ⟨g, 61, none⟩) hg0 (fun x => x)).trans d61; have bv := (hp1.cell (p := ⟨g, 1 + head, none⟩) hg0 (fun x => x)).trans dv; have bfv := (hp1.frozen (p := ⟨g, 1 + head, none⟩) hg0 (fun x => x)).trans dfv; have hg1 := Nat.lt_of_lt_of_le hg0 hp1.size; have hre1 := hre0.pure_ (w' := w1) hp1; have hr1 := hr0.pure_ (w' := w1) hp1)
           | (go_at_call 69; refine (concat_any (some ⟨w1.heap.size, 0, none⟩) 2 2 [l, e0] (fun _ => True) (w1.alloc (.cells #[.slice A n c, .slice a m d] 22)) (RdL.two hr1 hre1) (by omega) hsm).mono ?_; rintro e w2 ⟨A1, n1, c1, rfl, hR2, hp2⟩; have e61 := (hp2.cell (p := ⟨g, 61, none⟩) (by simp; omega) (fun x => x)).trans ((World.cell?_alloc_past _ _ _ hg1).trans b61); have ev := (hp2.cell (p := ⟨g, 1 + head, none⟩) (by simp; omega) (fun x => x)).trans ((World.cell?_alloc_past _ _ _ hg1).trans bv); have fv2 := (hp2.frozen (p := ⟨g, 1 + head, none⟩) (by simp; omega) (fun x => x)).trans ((World.frozen?_alloc_old _ _ _ (Nat.ne_of_lt hg1)).trans bfv)))
  have hp02 : Pure w0 w2 := (hp1.alloc _).trans hp2
  have f63 := (hp02.cell (p := ⟨g, 63, none⟩) hg0 (fun x => x)).trans d63
  have ff63 := (hp02.frozen (p := ⟨g, 63, none⟩) hg0 (fun x => x)).trans df63
  have f63' := cell_other (v := .slice A1 n1 c1) hn63 f63
  have hb2 : Blk w2 g 38 cs := hB0.pure_ hp02
  have hw2 : Pure w w2 := ho0.trans hp02
  have hR3 : RdI w2 (Plus S w.heap.size) A1 n1 c1 (l ++ e0) := by
    refine RdI.mono (by simpa using hR2) fun b _ hb => .inr ?_
    have h1 := hp1.size
    have h2 : w1.heap.size + 1 ≤ b := hb
    omega
  have hR4 : ∀ u u' : Value, RdI ((w2.setCell ⟨g, 1 + head, none⟩ u).setCell ⟨g, 63, none⟩ u') (Plus S w.heap.size) A1 n1 c1 (l ++ e0) := fun u u' =>
    hR3.only (((Only.refl (fun b => b = g) w2).set _ _).set _ _) fun b hb _ e => by subst e; rcases hb with h | h; exact hSg h; omega
  have ho4 : ∀ u u' : Value, Only (fun b => b = g) w ((w2.setCell ⟨g, 1 + head, none⟩ u).setCell ⟨g, 63, none⟩ u') := fun u u' => ((Only.of_pure hw2).set _ _).set _ _
  have hn1 : n1 ≤ 1024 := by have := hR3.len; have := HL.out; have := HL2.out; simp at *; omega
  clear f63 b61 bv bfv d61 d63 dv dfv df63 e61 ev fv2
  go_wp2
  go_ret
  exact ⟨rfl, Ring.grown hC0 hSg hg (ho4 _ _) (hR4 _ _) hn1 ((hb2.set_ _ _).set_ 63 _), ho4 _ _⟩

end Go.Proofs.Ytinlpmgchcbjpaa
