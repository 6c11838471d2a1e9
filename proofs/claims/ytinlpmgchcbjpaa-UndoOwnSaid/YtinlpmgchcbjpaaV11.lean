/- The law UndoOwn, walked. -/
import Derived.Test.YtinlpmgchcbjpaaU38
import Derived.Test.YtinlpmgchcbjpaaU35
import Derived.Test.YtinlpmgchcbjpaaU34
import Derived.Test.YtinlpmgchcbjpaaU33
import Derived.Test.YtinlpmgchcbjpaaRt
import Derived.Test.YtinlpmgchcbjpaaU16
namespace Go.Proofs.Ytinlpmgchcbjpaa
open Go Go.RowKit
set_option maxHeartbeats 1000000
set_option maxRecDepth 100000
attribute [local go_sem] Oper.semAt_some

set_option maxHeartbeats 16000000 in
theorem own_law (AL : Option Addr) (N C : Nat) (line : List Int) (A : Option Addr) (n c : Nat) (es : List Ed) (w : World) (hL : RdI w (Old w) AL N C line) (hE : RdE w (Old w) A n c es)
    (hN : N ≤ 35184372087808) (hn : n ≤ 35184372087808) (hf : ∀ e ∈ es, e.near) :
    Calls Try.prog 11 #[.slice AL N C, .slice A n c] w fun e w' => e = .returned (.bool true) ∧ Pure w w' := by
  have hNI : (N : Int) ≤ 35184372087808 := by omega
  have hnI : (n : Int) ≤ 35184372087808 := by omega
  have HEN := hid hE.1
  refine calls_of_wp_marks Try.func11 rfl ?_
  simp only [Try.ntmps11, List.size_toArray, List.length_cons, List.length_nil, Nat.reduceAdd, Nat.reduceSub, Array.replicate_succ, Array.replicate_zero, List.push_toArray, List.append_toArray, List.nil_append, List.cons_append]
  go_wp2_with (first
    | (go_at_call 40; refine (unew_any w).mono ?_; rintro e w1 h; obtain ⟨g, rfl, hg0, hU1, ho1⟩ := h)
    | (go_at_call 34; refine (begun_any (w1.alloc (.cells #[.slice none 0 0, .int .i64 0, .slice none 0 0] 77))).mono ?_; rintro e w2 ⟨rfl, hp2⟩))
  obtain ⟨g2, hg2⟩ : ∃ g2, g2 = w1.heap.size := ⟨_, rfl⟩
  rw [← hg2]
  have hPr0 : Pr w g g2 [] [] 0 [] [] 0 (fun _ => False) (fun _ => False) w2 := by
    have hp1 : Pure w1 (w1.alloc (.cells #[.slice none 0 0, .int .i64 0, .slice none 0 0] 77)) := (Only.refl _ w1).alloc _
    have hgl := hU1.lt
    have hs1 := ho1.size
    have hb : Blk w2 g2 77 #[.slice none 0 0, .int .i64 0, .slice none 0 0] := by rw [hg2]; exact (Blk.new w1 _ _).pure_ hp2
    refine ⟨(hU1.pure_ hp1).pure_ hp2, ⟨fun x => x, none, 0, 0, none, 0, 0, fun _ => False, fun _ => False, hb, OwnK.nil _ _, OwnK.nil _ _, fun b hb => ?_, fun b hb => ?_, fun b hb => ?_, by simp [tot], by simp, by simp, by simp⟩, fun _ h => h.elim, fun _ h => h.elim, by omega, hg0, by omega, (ho1.trans hp1).trans hp2⟩
    · rcases hb with hb | hb | hb | hb
      · exact hb
      · exact hb
      · simp [Value.ownBlock] at hb
      · simp [Value.ownBlock] at hb
    · simp [Value.ownBlock] at hb
    · simp [Value.ownBlock] at hb
  clear hg2 hp2 hU1 ho1 hg0
  go_loopw [33] (fun i wr => ∃ (k : Nat) (gs : List (List Ed)) (nw : List Ed) (S S2 : Nat → Prop), k ≤ n ∧ i = .int .i64 k ∧ Pr w g g2 gs nw 0 gs nw 0 S S2 wr) (fun i _ => n - (intOf i).toNat)
  case atStart => exact ⟨0, [], [], _, _, Nat.zero_le _, rfl, hPr0⟩
  case round =>
    clear hPr0
    obtain ⟨k, gs, nw, S, S2, hk, rfl, hPr⟩ := hrel
    by_cases hlt : k < n
    · have hpw : Pure w wr := hPr.2.2.2.2.2.2.2
      obtain ⟨gx, ox, a, m, d, a', m', d', rfl, hgx, _, hw0, hw1, hw2, hx, hy⟩ := RdE.at_ hE hlt
      have hkI : (k : Int) < n := by omega
      have hnear : (es[k]?.getD Ed.none).near := by
        rw [List.getElem?_eq_getElem (by rw [HEN.out]; exact hlt)]
        exact hf _ (List.getElem_mem _)
      obtain ⟨ek, hek⟩ : ∃ v, v = es[k]?.getD Ed.none := ⟨_, rfl⟩
      rw [← hek] at hw0 hx hy hnear
      obtain ⟨at0, del, ins⟩ := ek
      simp only at hw0 hx hy
      have hc0 := (hpw.cell (p := ⟨gx, ox + k * 3, none⟩) hgx (fun x => x)).trans hw0
      have hc1 := (hpw.cell (p := ⟨gx, ox + k * 3 + 1, none⟩) hgx (fun x => x)).trans hw1
      have hc2 := (hpw.cell (p := ⟨gx, ox + k * 3 + 2, none⟩) hgx (fun x => x)).trans hw2
      have hmm := hx.len
      have hmm' := hy.len
      have hn1 : m ≤ 35184372087808 := by rw [← hmm]; exact hnear.2.1
      have hn2 : m' ≤ 35184372087808 := by rw [← hmm']; exact hnear.2.2
      have sm : small m := by unfold small; omega
      have sm' : small m' := by unfold small; omega
      have HMM := hid hmm
      have HMM' := hid hmm'
      clear hek hnear hmm hmm' hw0 hw1 hw2
      go_wp2_with fail
      obtain ⟨W1, hW1⟩ : ∃ W1, W1 = wr.alloc (.cells #[.int .i64 at0, .slice a m d, .slice a' m' d'] 60) := ⟨_, rfl⟩
      rw [← hW1]
      have hp1 : Pure wr W1 := by rw [hW1]; exact (Only.refl _ wr).alloc _
      have hb8 : Blk W1 wr.heap.size 60 #[.int .i64 at0, .slice a m d, .slice a' m' d'] := by rw [hW1]; exact Blk.new _ _ _
      have hs1 : W1.heap.size = wr.heap.size + 1 := by rw [hW1]; simp
      clear hW1
      refine (rclone_edit_o at0 a m d del a' m' d' ins (Old w) (Old w) W1 (hx.pure_ (hpw.trans hp1)) (hy.pure_ (hpw.trans hp1)) sm sm').mono ?_
      rintro e W2 ⟨A3, n3, c3, A4, n4, c4, rfl, hO3, hO4, hp2⟩
      simp only at hO3 hO4 ⊢
      go_wp2_with fail
      obtain ⟨W3, hW3⟩ : ∃ W3, W3 = W2.alloc (.cells #[.int .i64 at0, .slice A3 n3 c3, .slice A4 n4 c4] 60) := ⟨_, rfl⟩
      rw [← hW3]
      have hp3 : Pure W2 W3 := by rw [hW3]; exact (Only.refl _ W2).alloc _
      have hb9 : Blk W3 W2.heap.size 60 #[.int .i64 at0, .slice A3 n3 c3, .slice A4 n4 c4] := by rw [hW3]; exact Blk.new _ _ _
      have hs3 : W3.heap.size = W2.heap.size + 1 := by rw [hW3]; simp
      have hs2 := hp2.size
      clear hW3
      obtain ⟨Z3, hZ3⟩ : ∃ Z3 : Nat → Prop, Z3 = fun b => W1.heap.size ≤ b ∧ b < W2.heap.size := ⟨_, rfl⟩
      have hR3 : RdI W3 Z3 A3 n3 c3 del := RdI.pure_ (by rw [hZ3]; exact Rd.of_own hO3 fun b hb => hO3.lt b hb) hp3
      have hR4 : RdI W3 Z3 A4 n4 c4 ins := RdI.pure_ (by rw [hZ3]; exact Rd.of_own hO4 fun b hb => hO4.lt b hb) hp3
      have hV3 : Wr Z3 W3 A3 n3 := Wr.pure_ (by rw [hZ3]; exact Wr.of_own hO3 fun b h1 h2 => ⟨h1, h2⟩) hp3
      have hV4 : Wr Z3 W3 A4 n4 := Wr.pure_ (by rw [hZ3]; exact Wr.of_own hO4 fun b h1 h2 => ⟨h1, h2⟩) hp3
      have hn3 : n3 = m := by rw [← HMM.out, hR3.len]
      have hn4 : n4 = m' := by rw [← HMM'.out, hR4.len]
      have sn3 : small n3 := by unfold small; omega
      have sn4 : small n4 := by unfold small; omega
      have hn3I : (n3 : Int) ≤ 35184372087808 := by omega
      have hn4I : (n4 : Int) ≤ 35184372087808 := by omega
      have HN3 := hid hn3
      have HN4 := hid hn4
      have hp03 := (hp1.trans hp2).trans hp3
      have hPr3 := hPr.pure_ hp03
      have hb83 := (hb8.pure_ hp2).pure_ hp3
      have hgl : g < wr.heap.size := hPr.1.lt
      have hg2l : g2 < wr.heap.size := hPr.2.1.lt
      have hSl : ∀ b, S b → b < wr.heap.size := fun b hb => (hPr.2.2.1 b hb).2.1
      have hS2l : ∀ b, S2 b → b < wr.heap.size := fun b hb => (hPr.2.2.2.1 b hb).2.1
      have hwl := hpw.size
      have hZl : ∀ b, Z3 b → wr.heap.size < b ∧ b < W2.heap.size := fun b hb => by rw [hZ3] at hb; omega
      clear hO3 hO4 hPr hb8 hn3 hn4 hp1 hp2 hp3 hZ3
      refine (uadd_any g S gs nw 0 at0 A3 n3 c3 del A4 n4 c4 ins Z3 Z3 W3 hPr3.1 hR3 hR4 sn3 sn4 (fun h => by have := hZl g h; omega) (fun h => by have := hZl g h; omega)).mono ?_
      rintro e W4 h
      obtain ⟨rfl, hU4, ho4⟩ := h.any
      have hPr4 := hPr3.turnU hU4 ho4
      have hs4 := ho4.size
      have fr4 : ∀ b, (S b ∨ b = g) → b < wr.heap.size := fun b hb => by
        rcases hb with hb | hb
        · exact hSl b hb
        · omega
      have hb84 := hb83.only ho4 (fun h => by have := fr4 _ h; omega)
      have hb94 := hb9.only ho4 (fun h => by have := fr4 _ h; omega)
      clear h hU4
      have hb84' := hb84
      have p0 : W4.cell? ⟨wr.heap.size, 0, none⟩ = some (.int .i64 at0) := hb84.cell 0
      have p1 : W4.cell? ⟨wr.heap.size, 1, none⟩ = some (.slice a m d) := hb84.cell 1
      have p2 : W4.cell? ⟨wr.heap.size, 2, none⟩ = some (.slice a' m' d') := hb84.cell 2
      have hpw4 := hPr4.2.2.2.2.2.2.2
      go_wp2_with fail
      refine (radd_any g2 S2 gs nw 0 at0 a m d del a' m' d' ins (Old w) (Old w) W4 hPr4.2.1 (hx.pure_ hpw4) (hy.pure_ hpw4) sm sm').mono ?_
      rintro e W5 h
      obtain ⟨rfl, hU5, ho5⟩ := h.any
      have hPr5 := hPr4.turnR hU5 ho5
      have hs5 := ho5.size
      have fr5 : ∀ b, (S2 b ∨ b = g2) → b < wr.heap.size := fun b hb => by
        rcases hb with hb | hb
        · exact hS2l b hb
        · omega
      have hb85 := hb84.only ho5 (fun h => by have := fr5 _ h; omega)
      have hb95 := hb94.only ho5 (fun h => by have := fr5 _ h; omega)
      have hZ4 : ∀ b, Z3 b → ¬ (S b ∨ b = g) := fun b hb h => by have := fr4 _ h; have := hZl b hb; omega
      have hZ5 : ∀ b, Z3 b → ¬ (S2 b ∨ b = g2) := fun b hb h => by have := fr5 _ h; have := hZl b hb; omega
      obtain ⟨B, hB⟩ : ∃ B, B = W5.heap.size := ⟨_, rfl⟩
      obtain ⟨b8, hb8e⟩ : ∃ b8, b8 = wr.heap.size := ⟨_, rfl⟩
      obtain ⟨b9, hb9e⟩ : ∃ b9, b9 = W2.heap.size := ⟨_, rfl⟩
      rw [← hb8e] at hb85
      rw [← hb9e] at hb95
      have hOA5 : OwnAt w g g2 (gsA gs nw 0 ⟨at0, del, ins⟩) (nwA gs nw 0 ⟨at0, del, ins⟩) (fun b => Plus S W3.heap.size b ∧ b < W4.heap.size) (fun b => Plus S2 W4.heap.size b ∧ b < W5.heap.size) B b8 b9 at0 a m d a' m' d' A3 n3 c3 A4 n4 c4 del ins Z3 W5 := by
        refine ⟨hPr5, hb85, hb95, ⟨(hR3.only ho4 fun b hb _ => hZ4 b hb).only ho5 fun b hb _ => hZ5 b hb, (hR4.only ho4 fun b hb _ => hZ4 b hb).only ho5 fun b hb _ => hZ5 b hb, (hV3.only ho4 hZ4).only ho5 hZ5, (hV4.only ho4 hZ4).only ho5 hZ5⟩, fun b hb => ?_, fun h => ?_, fun h => ?_, by omega, by omega, fun b hb => ?_, by omega⟩
        · have h1 := hZl b hb
          refine ⟨by omega, by omega, fun h => ?_, fun h => ?_, by omega, by omega⟩
          · rcases h.1 with h | h
            · have := hSl b h; omega
            · omega
          · rcases h.1 with h | h
            · have := hS2l b h; omega
            · omega
        · have := hZl _ h; omega
        · have := hZl _ h; omega
        · rcases hb with hb | hb | hb | hb
          · have := hb.2; omega
          · have := hb.2; omega
          · omega
          · omega
      have hwB : w.heap.size ≤ B := by omega
      clear h hU5 hb84' p0 p1 p2 hb84 hb94 hb95 hb85 hR3 hR4 hV3 hV4 hZ4 hZ5 hPr3 hPr4 hPr5 hpw4 ho4 ho5 fr4 fr5 hSl hS2l hgl hg2l hZl hb9 hb83
      generalize gsA gs nw 0 ⟨at0, del, ins⟩ = gs' at hOA5
      generalize nwA gs nw 0 ⟨at0, del, ins⟩ = nw' at hOA5
      go_wp2_with (at_builtin; refine halt_ ?_)
      intro _
      rw [← hb8e, ← hb9e]
      have hpw5 := hOA5.1.2.2.2.2.2.2.2
      refine appendI (.const (.slice none 0 0)) (.tmp 45) rfl rfl W5.heap.size (.slice none 0 0) 0 [] rfl (World.ownsRow_nil _ _ _ _) (Old w) AL N C _ rfl (hL.pure_ hpw5) (oneI line) (by unfold maxLen; omega) (by omega) (Nat.le_refl _) ?_
      intro A6 c6 W6 ho6 hp6 hat6
      simp only [Nat.zero_add, List.nil_append] at ho6 hp6 ⊢
      have hp6' : Pure W5 W6 := hp6.mono fun b _ e => by simp [Value.ownBlock] at e
      have hOA6 := hOA5.pure_ hp6'
      have hBuf : RdI W6 (fun b => b < W6.heap.size) A6 N c6 line := Rd.of_own ho6 fun b hb => (ho6.lt b hb).2
      have hs6 := hp6'.size
      clear ho6 hp6 hat6 hp6' hpw5 hOA5 hs1 hs2 hs3 hs4 hs5 hwl hb8e hb9e
      have hb9x := hOA6.2.2.1
      have q0 : W6.cell? ⟨b9, 0, none⟩ = some (.int .i64 at0) := hb9x.cell 0
      have q1 : W6.cell? ⟨b9, 1, none⟩ = some (.slice A3 n3 c3) := hb9x.cell 1
      have q2 : W6.cell? ⟨b9, 2, none⟩ = some (.slice A4 n4 c4) := hb9x.cell 2
      clear hb9x
      go_wp2_with fail
      refine (apply_own A6 N c6 line _ at0 A3 n3 c3 del Z3 A4 n4 c4 ins Z3 W6 hBuf hOA6.2.2.2.1.1 hOA6.2.2.2.1.2.1 (by unfold small; omega) sn3 sn4).mono ?_
      rintro e W7 ⟨A7, n7, c7, rfl, hO7, hp7⟩
      have hOA7 := hOA6.pure_ hp7
      have hBuf7 := hBuf.pure_ hp7
      have hs7 := hp7.size
      obtain ⟨cd, hcdE⟩ : ∃ cd, cd = appCode line ⟨at0, del, ins⟩ := ⟨_, rfl⟩
      rw [← hcdE]
      clear hcdE
      obtain ⟨Z7, hZ7e⟩ : ∃ Z7 : Nat → Prop, Z7 = fun b => W6.heap.size ≤ b := ⟨_, rfl⟩
      have hV7 : Wr Z7 W7 A7 n7 := by rw [hZ7e]; exact Wr.of_own hO7 fun b h1 _ => h1
      have hZ7 : ∀ b, Z7 b → W6.heap.size ≤ b := fun b hb => by rw [hZ7e] at hb; exact hb
      have hn7I : (n7 : Int) ≤ 9223372036854775807 := by have h9 := hV7.1; unfold maxLen at h9; omega
      clear hZ7e hO7 hp7 q0 q1 q2 hBuf hOA6
      go_wp2
      go_loopw [55] (fun i W => ∃ q : Nat, q ≤ n7 ∧ i = .int .i64 q ∧ Only Z7 W7 W ∧ Wr Z7 W A7 n7) (fun i _ => n7 - (intOf i).toNat)
      case atStart => exact ⟨0, Nat.zero_le _, rfl, Only.refl _ _, hV7⟩
      case round =>
        clear hV7
        obtain ⟨q, hq, rfl, hO, hWr⟩ := hrel
        by_cases hlq : q < n7
        · obtain ⟨b, u, hbe, hbZ, hcu, hfu, cur, hBc⟩ := hWr.at_ hlq
          subst hbe
          have hqI : (q : Int) < n7 := by omega
          skip
          go_wp2
          go_roundw
          case rel => exact ⟨q + 1, by omega, by go_num, hO.put hbZ _ _, hWr.set _ _ _⟩
          case measure => simp [intOf] <;> omega
        · obtain rfl : n7 = q := by omega
          clear hlq hq
          skip
          have hOA8w := hOA7.far hO fun b hb => by have := hZ7 b hb; omega
          have hpw8 := hOA8w.1.2.2.2.2.2.2.2
          have hBf8 := hBuf7.only hO fun b hb _ e => by have := hZ7 b e; omega
          have hs78 := hO.size
          clear hO hWr hBuf7 hOA7
          by_cases hcd : cd = 0
          · subst hcd
            go_wp2_with fail
            refine (runes_any A6 N c6 line _ AL N C line (Old w) wr hBf8 (hL.pure_ hpw8) (by unfold small; omega)).mono ?_
            rintro e w' ⟨rfl, q8, rfl⟩
            rw [show eqL line line = true by unfold eqL; simp]
            obtain ⟨W8, hW8⟩ : ∃ W8, W8 = wr.drewN q8 := ⟨_, rfl⟩
            rw [← hW8]
            have hOA8 := hOA8w.pure_ ((Only.refl (fun _ => False) wr).drewN q8)
            rw [← hW8] at hOA8
            have hs8 : B ≤ W8.heap.size := by rw [hW8]; simp; omega
            clear hOA8w hBf8 hpw8 hW8
            have hb9x := hOA8.2.2.1
            have q0 : W8.cell? ⟨b9, 0, none⟩ = some (.int .i64 at0) := hb9x.cell 0
            have q1 : W8.cell? ⟨b9, 1, none⟩ = some (.slice A3 n3 c3) := hb9x.cell 1
            have q2 : W8.cell? ⟨b9, 2, none⟩ = some (.slice A4 n4 c4) := hb9x.cell 2
            clear hb9x
            go_wp2_with fail
            refine (inv_edit_o at0 A3 n3 c3 del A4 n4 c4 ins Z3 Z3 W8 hOA8.2.2.2.1.1 hOA8.2.2.2.1.2.1 sn3 sn4).mono ?_
            rintro e W9 ⟨A9, n9, c9, A10, n10, c10, rfl, hO9, hO10, hp9⟩
            simp only at hO9 hO10 ⊢
            have hs9 := hp9.size
            have hV9 : Wr (fun b => W8.heap.size ≤ b ∧ b < W9.heap.size) (W9.alloc (.cells #[.int .i64 at0, .slice A9 n9 c9, .slice A10 n10 c10] 60)) A9 n9 := Wr.pure_ (Wr.of_own hO9 fun b h1 h2 => ⟨h1, h2⟩) ((Only.refl _ W9).alloc _)
            have hV10 : Wr (fun b => W8.heap.size ≤ b ∧ b < W9.heap.size) (W9.alloc (.cells #[.int .i64 at0, .slice A9 n9 c9, .slice A10 n10 c10] 60)) A10 n10 := Wr.pure_ (Wr.of_own hO10 fun b h1 h2 => ⟨h1, h2⟩) ((Only.refl _ W9).alloc _)
            have hBk : Blk (W9.alloc (.cells #[.int .i64 at0, .slice A9 n9 c9, .slice A10 n10 c10] 60)) W9.heap.size 60 #[.int .i64 at0, .slice A9 n9 c9, .slice A10 n10 c10] := Blk.new _ _ _
            have hn9I : (n9 : Int) ≤ 9223372036854775807 := by have h9 := hV9.1; unfold maxLen at h9; omega
            have hn10I : (n10 : Int) ≤ 9223372036854775807 := by have h9 := hV10.1; unfold maxLen at h9; omega
            obtain ⟨Z9, hZ9⟩ : ∃ Z9 : Nat → Prop, Z9 = fun b => W8.heap.size ≤ b ∧ b < W9.heap.size := ⟨_, rfl⟩
            rw [← hZ9] at hV9 hV10
            obtain ⟨b14, hb14⟩ : ∃ b14, b14 = W9.heap.size := ⟨_, rfl⟩
            rw [← hb14] at hBk
            have hZ9b : ∀ b, Z9 b → W8.heap.size ≤ b ∧ b < b14 := fun b hb => by rw [hZ9] at hb; omega
            have hbx := hBk.cell 1
            clear hO9 hO10 q0 q1 q2 hZ9
            go_wp2_with fail
            rw [← hb14]
            clear hb14
            go_loopw [75] (fun i W => ∃ q : Nat, q ≤ n9 ∧ i = .int .i64 q ∧ Only Z9 W9 W ∧ Blk W b14 60 #[.int .i64 at0, .slice A9 n9 c9, .slice A10 n10 c10] ∧ Wr Z9 W A9 n9 ∧ Wr Z9 W A10 n10) (fun i _ => n9 - (intOf i).toNat)
            case atStart => exact ⟨0, Nat.zero_le _, rfl, (Only.refl _ W9).alloc _, hBk, hV9, hV10⟩
            case round =>
              clear hBk hV9 hV10 hbx
              obtain ⟨q, hq, rfl, hO, hBk, hWr, hV10⟩ := hrel
              by_cases hlq : q < n9
              · obtain ⟨b, u, hbe, hbZ, hcu, hfu, cur, hBc⟩ := hWr.at_ hlq
                subst hbe
                have hqI : (q : Int) < n9 := by omega
                have hbx := hBk.cell 1
                go_wp2
                go_roundw
                case rel => exact ⟨q + 1, by omega, by go_num, hO.put hbZ _ _, hBk.far (p := ⟨b, q, none⟩) (by have := hZ9b b hbZ; show ¬ b14 = b; omega) _, hWr.set _ _ _, hV10.set _ _ _⟩
                case measure => simp [intOf] <;> omega
              · obtain rfl : n9 = q := by omega
                clear hlq hq
                have hbx := hBk.cell 1
                have hO4 := hO
                have hBk4 := hBk
                clear hO hBk hWr hbx
                have hbx := hBk4.cell 2
                go_wp2
                go_loopw [86] (fun i W => ∃ q : Nat, q ≤ n10 ∧ i = .int .i64 q ∧ Only Z9 W9 W ∧ Blk W b14 60 #[.int .i64 at0, .slice A9 n9 c9, .slice A10 n10 c10] ∧ Wr Z9 W A10 n10) (fun i _ => n10 - (intOf i).toNat)
                case atStart => exact ⟨0, Nat.zero_le _, rfl, hO4, hBk4, hV10⟩
                case round =>
                  clear hO4 hBk4 hV10 hbx
                  obtain ⟨q, hq, rfl, hO, hBk, hWr⟩ := hrel
                  by_cases hlq : q < n10
                  · obtain ⟨b, u, hbe, hbZ, hcu, hfu, cur, hBc⟩ := hWr.at_ hlq
                    subst hbe
                    have hqI : (q : Int) < n10 := by omega
                    have hbx := hBk.cell 2
                    go_wp2
                    go_roundw
                    case rel => exact ⟨q + 1, by omega, by go_num, hO.put hbZ _ _, hBk.far (p := ⟨b, q, none⟩) (by have := hZ9b b hbZ; show ¬ b14 = b; omega) _, hWr.set _ _ _⟩
                    case measure => simp [intOf] <;> omega
                  · obtain rfl : n10 = q := by omega
                    clear hlq hq
                    have hbx := hBk.cell 2
                    have hOA12 := (hOA8.pure_ hp9).far hO fun b hb => by have := hZ9b b hb; omega
                    have hb8x := hOA12.2.1
                    have hb9x := hOA12.2.2.1
                    have p0 : wr.cell? ⟨b8, 0, none⟩ = some (.int .i64 at0) := hb8x.cell 0
                    have p1 : wr.cell? ⟨b8, 1, none⟩ = some (.slice a m d) := hb8x.cell 1
                    have p2 : wr.cell? ⟨b8, 2, none⟩ = some (.slice a' m' d') := hb8x.cell 2
                    have q0 : wr.cell? ⟨b9, 0, none⟩ = some (.int .i64 at0) := hb9x.cell 0
                    have q1 : wr.cell? ⟨b9, 1, none⟩ = some (.slice A3 n3 c3) := hb9x.cell 1
                    have q2 : wr.cell? ⟨b9, 2, none⟩ = some (.slice A4 n4 c4) := hb9x.cell 2
                    have hpw12 := hOA12.1.2.2.2.2.2.2.2
                    clear hb8x hb9x hWr hBk hO hp9
                    go_wp2_with fail
                    refine (same_edit at0 A3 n3 c3 del A4 n4 c4 ins Z3 Z3 at0 a m d del a' m' d' ins (Old w) (Old w) wr hOA12.2.2.2.1.1 hOA12.2.2.2.1.2.1 sn3 sn4 (hx.pure_ hpw12) (hy.pure_ hpw12)).mono ?_
                    rintro e W13 ⟨rfl, hp13⟩
                    rw [show sameE ⟨at0, del, ins⟩ ⟨at0, del, ins⟩ = true from sameE_refl _]
                    have hOA13 := hOA12.pure_ hp13
                    have hbx := hOA13.2.2.1.cell 1
                    clear p0 p1 p2 q0 q1 q2 hpw12 hOA12 hp13
                    go_wp2
                    go_loopw [101] (fun i W => ∃ q : Nat, q ≤ n3 ∧ i = .int .i64 q ∧ Only Z3 W13 W ∧ Wr Z3 W A3 n3 ∧ Wr Z3 W A4 n4) (fun i _ => n3 - (intOf i).toNat)
                    case atStart => exact ⟨0, Nat.zero_le _, rfl, Only.refl _ _, hOA13.2.2.2.1.2.2.1, hOA13.2.2.2.1.2.2.2⟩
                    case round =>
                      clear hbx
                      obtain ⟨q, hq, rfl, hO, hWr, hV4⟩ := hrel
                      by_cases hlq : q < n3
                      · obtain ⟨b, u, hbe, hbZ, hcu, hfu, cur, hBc⟩ := hWr.at_ hlq
                        subst hbe
                        have hqI : (q : Int) < n3 := by omega
                        have hbx := (hOA13.box hO).cell 1
                        go_wp2
                        go_roundw
                        case rel => exact ⟨q + 1, by omega, by go_num, hO.put hbZ _ _, hWr.set _ _ _, hV4.set _ _ _⟩
                        case measure => simp [intOf] <;> omega
                      · obtain rfl : n3 = q := by omega
                        clear hlq hq
                        have hbx := (hOA13.box hO).cell 1
                        have hO5 := hO
                        clear hO hWr
                        have hbx := (hOA13.box hO5).cell 2
                        go_wp2
                        go_loopw [112] (fun i W => ∃ q : Nat, q ≤ n4 ∧ i = .int .i64 q ∧ Only Z3 W13 W ∧ Wr Z3 W A4 n4) (fun i _ => n4 - (intOf i).toNat)
                        case atStart => exact ⟨0, Nat.zero_le _, rfl, hO5, hV4⟩
                        case round =>
                          clear hO5 hV4 hbx
                          obtain ⟨q, hq, rfl, hO, hWr⟩ := hrel
                          by_cases hlq : q < n4
                          · obtain ⟨b, u, hbe, hbZ, hcu, hfu, cur, hBc⟩ := hWr.at_ hlq
                            subst hbe
                            have hqI : (q : Int) < n4 := by omega
                            have hbx := (hOA13.box hO).cell 2
                            go_wp2
                            go_roundw
                            case rel => exact ⟨q + 1, by omega, by go_num, hO.put hbZ _ _, hWr.set _ _ _⟩
                            case measure => simp [intOf] <;> omega
                          · obtain rfl : n4 = q := by omega
                            clear hlq hq
                            have hbx := (hOA13.box hO).cell 2
                            go_wp2
                            go_roundw
                            case rel => exact ⟨k + 1, _, _, _, _, by omega, by go_num, hOA13.pr hO⟩
                            case measure => simp [intOf] <;> omega
          · have hcd' : (cd == 0) = false := by simpa using hcd
            obtain ⟨W8, hW8⟩ : ∃ W8, W8 = wr := ⟨_, rfl⟩
            rw [← hW8]
            rw [← hW8] at hOA8w
            have hOA8 := hOA8w
            have hs8 : B ≤ W8.heap.size := by rw [hW8]; omega
            clear hOA8w hBf8 hpw8 hW8 hcd
            have hb9x := hOA8.2.2.1
            have q0 : W8.cell? ⟨b9, 0, none⟩ = some (.int .i64 at0) := hb9x.cell 0
            have q1 : W8.cell? ⟨b9, 1, none⟩ = some (.slice A3 n3 c3) := hb9x.cell 1
            have q2 : W8.cell? ⟨b9, 2, none⟩ = some (.slice A4 n4 c4) := hb9x.cell 2
            clear hb9x
            go_wp2_with fail
            refine (inv_edit_o at0 A3 n3 c3 del A4 n4 c4 ins Z3 Z3 W8 hOA8.2.2.2.1.1 hOA8.2.2.2.1.2.1 sn3 sn4).mono ?_
            rintro e W9 ⟨A9, n9, c9, A10, n10, c10, rfl, hO9, hO10, hp9⟩
            simp only at hO9 hO10 ⊢
            have hs9 := hp9.size
            have hV9 : Wr (fun b => W8.heap.size ≤ b ∧ b < W9.heap.size) (W9.alloc (.cells #[.int .i64 at0, .slice A9 n9 c9, .slice A10 n10 c10] 60)) A9 n9 := Wr.pure_ (Wr.of_own hO9 fun b h1 h2 => ⟨h1, h2⟩) ((Only.refl _ W9).alloc _)
            have hV10 : Wr (fun b => W8.heap.size ≤ b ∧ b < W9.heap.size) (W9.alloc (.cells #[.int .i64 at0, .slice A9 n9 c9, .slice A10 n10 c10] 60)) A10 n10 := Wr.pure_ (Wr.of_own hO10 fun b h1 h2 => ⟨h1, h2⟩) ((Only.refl _ W9).alloc _)
            have hBk : Blk (W9.alloc (.cells #[.int .i64 at0, .slice A9 n9 c9, .slice A10 n10 c10] 60)) W9.heap.size 60 #[.int .i64 at0, .slice A9 n9 c9, .slice A10 n10 c10] := Blk.new _ _ _
            have hn9I : (n9 : Int) ≤ 9223372036854775807 := by have h9 := hV9.1; unfold maxLen at h9; omega
            have hn10I : (n10 : Int) ≤ 9223372036854775807 := by have h9 := hV10.1; unfold maxLen at h9; omega
            obtain ⟨Z9, hZ9⟩ : ∃ Z9 : Nat → Prop, Z9 = fun b => W8.heap.size ≤ b ∧ b < W9.heap.size := ⟨_, rfl⟩
            rw [← hZ9] at hV9 hV10
            obtain ⟨b14, hb14⟩ : ∃ b14, b14 = W9.heap.size := ⟨_, rfl⟩
            rw [← hb14] at hBk
            have hZ9b : ∀ b, Z9 b → W8.heap.size ≤ b ∧ b < b14 := fun b hb => by rw [hZ9] at hb; omega
            have hbx := hBk.cell 1
            clear hO9 hO10 q0 q1 q2 hZ9
            go_wp2_with fail
            rw [← hb14]
            clear hb14
            go_loopw [75] (fun i W => ∃ q : Nat, q ≤ n9 ∧ i = .int .i64 q ∧ Only Z9 W9 W ∧ Blk W b14 60 #[.int .i64 at0, .slice A9 n9 c9, .slice A10 n10 c10] ∧ Wr Z9 W A9 n9 ∧ Wr Z9 W A10 n10) (fun i _ => n9 - (intOf i).toNat)
            case atStart => exact ⟨0, Nat.zero_le _, rfl, (Only.refl _ W9).alloc _, hBk, hV9, hV10⟩
            case round =>
              clear hBk hV9 hV10 hbx
              obtain ⟨q, hq, rfl, hO, hBk, hWr, hV10⟩ := hrel
              by_cases hlq : q < n9
              · obtain ⟨b, u, hbe, hbZ, hcu, hfu, cur, hBc⟩ := hWr.at_ hlq
                subst hbe
                have hqI : (q : Int) < n9 := by omega
                have hbx := hBk.cell 1
                go_wp2
                go_roundw
                case rel => exact ⟨q + 1, by omega, by go_num, hO.put hbZ _ _, hBk.far (p := ⟨b, q, none⟩) (by have := hZ9b b hbZ; show ¬ b14 = b; omega) _, hWr.set _ _ _, hV10.set _ _ _⟩
                case measure => simp [intOf] <;> omega
              · obtain rfl : n9 = q := by omega
                clear hlq hq
                have hbx := hBk.cell 1
                have hO4 := hO
                have hBk4 := hBk
                clear hO hBk hWr hbx
                have hbx := hBk4.cell 2
                go_wp2
                go_loopw [86] (fun i W => ∃ q : Nat, q ≤ n10 ∧ i = .int .i64 q ∧ Only Z9 W9 W ∧ Blk W b14 60 #[.int .i64 at0, .slice A9 n9 c9, .slice A10 n10 c10] ∧ Wr Z9 W A10 n10) (fun i _ => n10 - (intOf i).toNat)
                case atStart => exact ⟨0, Nat.zero_le _, rfl, hO4, hBk4, hV10⟩
                case round =>
                  clear hO4 hBk4 hV10 hbx
                  obtain ⟨q, hq, rfl, hO, hBk, hWr⟩ := hrel
                  by_cases hlq : q < n10
                  · obtain ⟨b, u, hbe, hbZ, hcu, hfu, cur, hBc⟩ := hWr.at_ hlq
                    subst hbe
                    have hqI : (q : Int) < n10 := by omega
                    have hbx := hBk.cell 2
                    go_wp2
                    go_roundw
                    case rel => exact ⟨q + 1, by omega, by go_num, hO.put hbZ _ _, hBk.far (p := ⟨b, q, none⟩) (by have := hZ9b b hbZ; show ¬ b14 = b; omega) _, hWr.set _ _ _⟩
                    case measure => simp [intOf] <;> omega
                  · obtain rfl : n10 = q := by omega
                    clear hlq hq
                    have hbx := hBk.cell 2
                    have hOA12 := (hOA8.pure_ hp9).far hO fun b hb => by have := hZ9b b hb; omega
                    have hb8x := hOA12.2.1
                    have hb9x := hOA12.2.2.1
                    have p0 : wr.cell? ⟨b8, 0, none⟩ = some (.int .i64 at0) := hb8x.cell 0
                    have p1 : wr.cell? ⟨b8, 1, none⟩ = some (.slice a m d) := hb8x.cell 1
                    have p2 : wr.cell? ⟨b8, 2, none⟩ = some (.slice a' m' d') := hb8x.cell 2
                    have q0 : wr.cell? ⟨b9, 0, none⟩ = some (.int .i64 at0) := hb9x.cell 0
                    have q1 : wr.cell? ⟨b9, 1, none⟩ = some (.slice A3 n3 c3) := hb9x.cell 1
                    have q2 : wr.cell? ⟨b9, 2, none⟩ = some (.slice A4 n4 c4) := hb9x.cell 2
                    have hpw12 := hOA12.1.2.2.2.2.2.2.2
                    clear hb8x hb9x hWr hBk hO hp9
                    go_wp2_with fail
                    refine (same_edit at0 A3 n3 c3 del A4 n4 c4 ins Z3 Z3 at0 a m d del a' m' d' ins (Old w) (Old w) wr hOA12.2.2.2.1.1 hOA12.2.2.2.1.2.1 sn3 sn4 (hx.pure_ hpw12) (hy.pure_ hpw12)).mono ?_
                    rintro e W13 ⟨rfl, hp13⟩
                    rw [show sameE ⟨at0, del, ins⟩ ⟨at0, del, ins⟩ = true from sameE_refl _]
                    have hOA13 := hOA12.pure_ hp13
                    have hbx := hOA13.2.2.1.cell 1
                    clear p0 p1 p2 q0 q1 q2 hpw12 hOA12 hp13
                    go_wp2
                    go_loopw [101] (fun i W => ∃ q : Nat, q ≤ n3 ∧ i = .int .i64 q ∧ Only Z3 W13 W ∧ Wr Z3 W A3 n3 ∧ Wr Z3 W A4 n4) (fun i _ => n3 - (intOf i).toNat)
                    case atStart => exact ⟨0, Nat.zero_le _, rfl, Only.refl _ _, hOA13.2.2.2.1.2.2.1, hOA13.2.2.2.1.2.2.2⟩
                    case round =>
                      clear hbx
                      obtain ⟨q, hq, rfl, hO, hWr, hV4⟩ := hrel
                      by_cases hlq : q < n3
                      · obtain ⟨b, u, hbe, hbZ, hcu, hfu, cur, hBc⟩ := hWr.at_ hlq
                        subst hbe
                        have hqI : (q : Int) < n3 := by omega
                        have hbx := (hOA13.box hO).cell 1
                        go_wp2
                        go_roundw
                        case rel => exact ⟨q + 1, by omega, by go_num, hO.put hbZ _ _, hWr.set _ _ _, hV4.set _ _ _⟩
                        case measure => simp [intOf] <;> omega
                      · obtain rfl : n3 = q := by omega
                        clear hlq hq
                        have hbx := (hOA13.box hO).cell 1
                        have hO5 := hO
                        clear hO hWr
                        have hbx := (hOA13.box hO5).cell 2
                        go_wp2
                        go_loopw [112] (fun i W => ∃ q : Nat, q ≤ n4 ∧ i = .int .i64 q ∧ Only Z3 W13 W ∧ Wr Z3 W A4 n4) (fun i _ => n4 - (intOf i).toNat)
                        case atStart => exact ⟨0, Nat.zero_le _, rfl, hO5, hV4⟩
                        case round =>
                          clear hO5 hV4 hbx
                          obtain ⟨q, hq, rfl, hO, hWr⟩ := hrel
                          by_cases hlq : q < n4
                          · obtain ⟨b, u, hbe, hbZ, hcu, hfu, cur, hBc⟩ := hWr.at_ hlq
                            subst hbe
                            have hqI : (q : Int) < n4 := by omega
                            have hbx := (hOA13.box hO).cell 2
                            go_wp2
                            go_roundw
                            case rel => exact ⟨q + 1, by omega, by go_num, hO.put hbZ _ _, hWr.set _ _ _⟩
                            case measure => simp [intOf] <;> omega
                          · obtain rfl : n4 = q := by omega
                            clear hlq hq
                            have hbx := (hOA13.box hO).cell 2
                            go_wp2
                            go_roundw
                            case rel => exact ⟨k + 1, _, _, _, _, by omega, by go_num, hOA13.pr hO⟩
                            case measure => simp [intOf] <;> omega
    · obtain rfl : k = n := by omega
      have hPrn := hPr
      clear hPr
      go_wp2_with (go_at_call 44; refine (groups_any g S gs nw 0 wr hPrn.1).mono ?_; rintro e w9 ⟨Bn, Aa, ca, rfl, hBn, hBa, hLa, hpa⟩)
      have hPr9 := hPrn.pure_ hpa
      obtain ⟨hfitL, hlenL⟩ := hPrn.1.all
      have hGw9 : w.heap.size ≤ w9.heap.size := hPr9.2.2.2.2.2.2.2.size
      have hLt : RdG w9 (fun b => b < w9.heap.size) Aa (allG gs nw).length ca (allG gs nw) := RdK'.mono hLa fun b hb _ => hb
      have hBlt := hBa.lt
      have hfree : ∀ b, w9.heap.size ≤ b → ¬ S b ∧ ¬ S2 b ∧ b ≠ g ∧ b ≠ g2 ∧ w.heap.size ≤ b := fun b hb => ⟨fun h => by have := (hPr9.2.2.1 b h).2.1; omega, fun h => by have := (hPr9.2.2.2.1 b h).2.1; omega, by have := hPr9.1.lt; omega, by have := hPr9.2.1.lt; omega, by omega⟩
      obtain ⟨L, hLL⟩ : ∃ L, L = allG gs nw := ⟨_, rfl⟩
      rw [← hLL] at hBa hLt hfitL hlenL
      obtain ⟨M, hM⟩ : ∃ M, M = L.length := ⟨_, rfl⟩
      rw [← hM] at hBa hLt hlenL
      have HLL := hid hLL
      have HM := hid hM
      clear hPrn hLa hpa hBn hLL hM
      refine wp_range 3 (gf := 81) (lb := #[.pointer (some ⟨Bn, 0, none⟩)]) rfl (enters_of Try.func81 (by kernel_rfl) rfl) M (EntC L w9.heap.size)
        (fun _ X => Blk X Bn 75 #[.slice Aa M ca] ∧ RdG X (fun b => b < w9.heap.size) Aa M ca L ∧ w9.heap.size ≤ X.heap.size ∧ Pr w g g2 gs nw 0 gs nw 0 S S2 X)
        (fun _ _ => False)
        ?hI ?hIx ?hG ?hps (groups_iter 3 Bn Aa M ca L (fun b => b < w9.heap.size) w9.heap.size _ hlenL hfitL ?hit) ⟨hBa, hLt, Nat.le_refl _, hPr9⟩ ?round ?done ?stop
      case hI => exact fun j X Y h kb => ⟨h.1.keptB kb, RdG.keptB h.2.1 kb, Nat.le_trans h.2.2.1 kb.size, h.2.2.2.keptB kb hGw9⟩
      case hIx => exact fun _ _ _ h _ => h
      case hG => exact fun j args X Y ⟨a, m, d, Se, e, h, hs⟩ kb => ⟨a, m, d, Se, e, ownO_kept h kb, hs⟩
      case hps => rintro j args X ⟨a, m, d, Se, rfl, h⟩; rfl
      case hit => exact fun j X h => ⟨h.1, h.2.1, h.2.2.1⟩
      case round =>
        intro l j args X K hj hC hE hK
        obtain ⟨a, m, d, Se, rfl, hx, _⟩ := hE
        clear hx hC
        simp only [Array.zip, Array.foldl]
        gi_wp2
        rintro X2 hC2 ⟨a', m', d', Se', e, hx, _⟩
        simp only [Array.mk.injEq, List.cons.injEq, Value.slice.injEq, and_true] at e
        obtain ⟨rfl, rfl, rfl⟩ := e
        have hm4 : m ≤ 16384 := by
          have h1 := hx.1
          have h2 := (hfitL (L[j]?.getD []) (by rw [List.getElem?_eq_getElem (by rw [← HM.out]; exact hj)]; exact List.getElem_mem _)).1
          omega
        have hWE : WrE (fun b => w9.heap.size ≤ b) X2 a m := WrE.of hx (fun b hb => hb) (by unfold maxLen; omega)
        have hmI : (m : Int) ≤ 16384 := by omega
        clear hx
        gi_wp2
        gi_loopw [126] (fun i W => ∃ q : Nat, q ≤ m ∧ i = .int .i64 q ∧ KeepsOthers X2 W ∧ Blk W Bn 75 #[.slice Aa M ca] ∧ RdG W (fun b => b < w9.heap.size) Aa M ca L ∧ w9.heap.size ≤ W.heap.size ∧ Pr w g g2 gs nw 0 gs nw 0 S S2 W ∧ WrE (fun b => w9.heap.size ≤ b) W a m) (fun i _ => m - (intOf i).toNat)
        case atStart => exact ⟨0, Nat.zero_le _, rfl, keeps_refl X2, hC2.1, hC2.2.1, hC2.2.2.1, hC2.2.2.2, hWE⟩
        case round =>
          clear hC2 hWE
          obtain ⟨q, hq, rfl, hKO, hI1, hI2, hI3, hI4, hW⟩ := hrel
          by_cases hlq : q < m
          · obtain ⟨b, u, x, y, z, hbe, hbZ, ⟨cur, hBc⟩, hcu, hfu, hci, hWr⟩ := hW.at_ hlq
            subst hbe
            have hqI : (q : Int) < m := by omega
            have hbZ' : w9.heap.size ≤ b := hbZ
            have hO1 : Only (fun x => x = b) wr (wr.setCell ⟨b, q * 3, none⟩ (.int .i64 (-9))) := (Only.refl _ wr).set (q * 3) _
            have hci' : (wr.setCell ⟨b, q * 3, none⟩ (.int .i64 (-9))).cell? ⟨b, q * 3 + 2, none⟩ = some (.slice x y z) := by
              rw [(hBc.set_ (q * 3) (.int .i64 (-9))).cell, Array.getElem?_setIfInBounds_ne (by omega), ← hBc.cell]; exact hci
            have hyI : (y : Int) ≤ 9223372036854775807 := by have h9 := hWr.1; unfold maxLen at h9; omega
            gi_wp2
            gi_loopw [139] (fun i W => ∃ r : Nat, r ≤ y ∧ i = .int .i64 r ∧ KeepsOthers X2 W ∧ Blk W Bn 75 #[.slice Aa M ca] ∧ RdG W (fun b => b < w9.heap.size) Aa M ca L ∧ w9.heap.size ≤ W.heap.size ∧ Pr w g g2 gs nw 0 gs nw 0 S S2 W ∧ WrE (fun b => w9.heap.size ≤ b) W (some ⟨b, 0, none⟩) m ∧ W.cell? ⟨b, q * 3 + 2, none⟩ = some (.slice x y z) ∧ (∃ cur, Blk W b 60 cur) ∧ Wr (fun b => w9.heap.size ≤ b) W x y) (fun i _ => y - (intOf i).toNat)
            case atStart => exact ⟨0, Nat.zero_le _, rfl, keeps_trans hKO (keeps_only hO1 fun x e _ => ⟨cur, 60, (0, 0), e ▸ hBc⟩), hI1.only hO1 (by omega), RdK'.only hI2 hO1 (fun x hx _ e => by have h1 : x < w9.heap.size := hx; have h2 : x = b := e; omega), (by simpa using hI3), hI4.only hO1 (fun x e => by have h2 : x = b := e; subst h2; exact hfree _ hbZ'), hW.setAt q _, hci', ⟨_, hBc.set_ _ _⟩, hWr.set _ _ _⟩
            case round =>
              clear hKO hI1 hI2 hI3 hI4 hW hci' hBc hcu hfu hci hWr hO1
              obtain ⟨r, hr, rfl, hKO, hI1, hI2, hI3, hI4, hW, hci, ⟨cur2, hBc⟩, hWr⟩ := hrel
              by_cases hlr : r < y
              · obtain ⟨b', u', hbe', hbZ2, hcu', hfu', cur', hBc'⟩ := hWr.at_ hlr
                subst hbe'
                have hrI : (r : Int) < y := by omega
                have hbZ2' : w9.heap.size ≤ b' := hbZ2
                have hbb : b ≠ b' := fun e' => by subst e'; exact absurd (hBc.types hBc') (by decide)
                have hO2 : Only (fun x => x = b') wr (wr.setCell ⟨b', r, none⟩ (.int .i32 (-9))) := (Only.refl _ wr).set r _
                gi_wp2
                go_roundw
                case rel => exact ⟨r + 1, by omega, by go_num, keeps_trans hKO (keeps_only hO2 fun x e _ => ⟨cur', 21, (0, 0), e ▸ hBc'⟩), hI1.only hO2 (by omega), RdK'.only hI2 hO2 (fun x hx _ e => by have h1 : x < w9.heap.size := hx; have h2 : x = b' := e; omega), (by simpa using hI3), hI4.only hO2 (fun x e => by have h2 : x = b' := e; subst h2; exact hfree _ hbZ2'), hW.setRune hBc' _ _, by rw [(hBc.far (p := ⟨b', r, none⟩) hbb _).cell, ← hBc.cell]; exact hci, ⟨_, hBc.far (p := ⟨b', r, none⟩) hbb _⟩, hWr.set _ _ _⟩
                case measure => simp [intOf] <;> omega
              · obtain rfl : y = r := by omega
                gi_wp2
                go_roundw
                case rel => exact ⟨q + 1, by omega, by go_num, hKO, hI1, hI2, hI3, hI4, hW⟩
                case measure => simp [intOf] <;> omega
          · obtain rfl : m = q := by omega
            gi_wp2
            exact ⟨hKO, hI1, hI2, hI3, hI4⟩
      case done =>
        intro D X hD hC hk
        simp only [Exit.inBlock, Exit.then]
        obtain ⟨hI1, hI2, hI3, hPX⟩ := hC
        clear hI1 hI2 hI3
        go_wp2_with (first
          | (go_at_call 46; refine (rall_any g2 S2 gs nw 0 X hPX.2.1).mono ?_; rintro e w10 ⟨Ar, cr, rfl, hLr, hp10⟩)
          | (go_at_call 45; refine (told_groups g S gs nw 0 w10 (hPX.1.pure_ hp10) Ar cr _ hLr).mono ?_; rintro e w11 ⟨rfl, hp11⟩))
        refine leave_marks (B := w.heap.size) [D] _ ⟨by simp, fun D' hD' => ?_⟩ fun W' hk' => ⟨_, results_tmp rfl _ _ _, rfl, ?_⟩
        · obtain rfl : D' = D := by simpa using hD'
          exact ⟨Nat.le_trans hGw9 hD, (keeps_pure (hp10.trans hp11)).same _ _ hk rfl⟩
        · exact (hPX.2.2.2.2.2.2.2.trans (hp10.trans hp11)).keptB hk' (Nat.le_refl _)
      case stop => exact fun D c' X _ h _ => h.elim

end Go.Proofs.Ytinlpmgchcbjpaa
