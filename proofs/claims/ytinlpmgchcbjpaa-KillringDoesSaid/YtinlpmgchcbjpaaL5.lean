/- The law KillringDoes, walked. -/
import Derived.Test.YtinlpmgchcbjpaaR3
import Derived.Test.YtinlpmgchcbjpaaK8
import Derived.Test.YtinlpmgchcbjpaaK9
import Derived.Test.YtinlpmgchcbjpaaRs
namespace Go.Proofs.Ytinlpmgchcbjpaa
open Go Go.RowKit
set_option maxHeartbeats 1000000
set_option maxRecDepth 100000

/-- Two rings that tell the same: the program's, the reference's. -/
def Pair (w : World) (g g2 : Nat) (es : List (List Int)) (pl : Nat) (W : World) : Prop :=
  ∃ S1 S2 : Nat → Prop, Ring W S1 g es pl ∧ RefRing W S2 g2 es pl ∧ ¬ S1 g2 ∧ ¬ S2 g ∧ g ≠ g2 ∧ w.heap.size ≤ g ∧ w.heap.size ≤ g2 ∧ Pure w W

theorem rotTxt_small {W : World} {S : Nat → Prop} {g pl : Nat} {es : List (List Int)} (h : Ring W S g es pl) (n : Int) : (rotTxt n es pl).length ≤ 1024 := by
  unfold rotTxt
  split
  · simp
  · exact h.smalls _
theorem RefRing.tight {w : World} {S : Nat → Prop} {g place : Nat} {es : List (List Int)} (h : RefRing w S g es place) : RefRing w (fun b => S b ∧ b < w.heap.size) g es place :=
  h.mono (fun _ hb hS => ⟨hS, hb⟩) (fun hb => h.1 hb.1)

set_option maxHeartbeats 4000000 in
set_option maxHeartbeats 4000000 in
set_option maxHeartbeats 4000000 in
set_option maxHeartbeats 4000000 in
set_option maxHeartbeats 1000000 in
set_option maxHeartbeats 1000000 in
set_option maxHeartbeats 4000000 in
theorem klaw_does (A : Option Addr) (N c : Nat) (ops : List KOp) (w : World) (hL : RdK w (Old w) A N c ops) (hN : N ≤ 140737488351232) :
    Calls Try.prog 5 #[.slice A N c] w fun e w' => e = .returned (.bool true) ∧ Pure w w' := by
  have hNI : (N : Int) ≤ 140737488351232 := by omega
  go_enter Try.func5, Try.ntmps5
  go_wp2_with (first
    | (go_at_call 15; refine (new_ring w).mono ?_; rintro e w1 ⟨g, rfl, hg, hR, ho1⟩)
    | (go_at_call 16; refine (live_any _).mono ?_; rintro e w2 ⟨rfl, ho2⟩))
  have hg1 := hR.lt
  have s1 := ho1.size
  have hP : Pair w g w1.heap.size [] 0 w2 := by
    refine ⟨fun _ => False, fun _ => False, (hR.pure_ ((Only.refl _ w1).alloc _)).pure_ ho2, RefRing.pure_ ⟨fun x => x, none, 0, 0, Blk.new w1 48 #[.slice none 0 0, .int .i64 0], ⟨rfl, [], Rd.nil _ _ _ _ _ (Nat.zero_le _), fun k hk => absurd hk (by omega)⟩, by simp, by simp, .inr rfl⟩ ho2, fun x => x, fun x => x, by omega, hg, s1, (ho1.alloc _).trans ho2⟩
  obtain ⟨g2, hg2⟩ : ∃ g2, g2 = w1.heap.size := ⟨_, rfl⟩
  rw [← hg2] at hP ⊢
  clear hg2 hR ho1 ho2 hg hg1 s1
  go_loopw [3, 23] (fun kp i W => ∃ (k : Nat) (es : List (List Int)) (pl g : Nat), k ≤ N ∧ i = .int .i64 k ∧ kp = .pointer (some ⟨g, 0, none⟩) ∧ Pair w g g2 es pl W) (fun _ i _ => N - (intOf i).toNat)
  case atStart => exact ⟨0, [], 0, g, Nat.zero_le _, rfl, rfl, hP⟩
  case round =>
    clear hP
    obtain ⟨k, es, pl, gk, hk, rfl, rfl, hP⟩ := hrel
    by_cases hlt : k < N
    · have hkI : (k : Int) < N := by omega
      obtain ⟨S1, S2a, hR1, hR2a, hS1, hS2a, hgg, hwg, hwg2, hp⟩ := hP
      have hgk := hR1.lt
      have hgr := hR2a.lt
      have hR2 := hR2a.tight
      have hS2 : ¬ (S2a gk ∧ gk < wr.heap.size) := fun h => hS2a h.1
      obtain ⟨S2, hS2e⟩ : ∃ S2 : Nat → Prop, S2 = fun b => S2a b ∧ b < wr.heap.size := ⟨_, rfl⟩
      have hS2lt : ∀ b, S2 b → b < wr.heap.size := fun b hb => by rw [hS2e] at hb; exact hb.2
      have hS2' : ¬ S2 gk := by rw [hS2e]; exact hS2
      rw [← hS2e] at hR2
      clear hS2e hS2 hS2a hR2a
      obtain ⟨gx, ox, a, m, d, rfl, hgx, c0, c1, c2, c3, c4, hx⟩ := (hL.pure_ hp).at_ hlt
      obtain ⟨o, hoe⟩ : ∃ o : KOp, o = ops[k]?.getD KOp.none := ⟨_, rfl⟩
      rw [← hoe] at c0 c1 c3 c4 hx
      obtain ⟨kd, wy, tx, nn, sp⟩ := o
      simp only at c0 c1 c3 c4 hx
      clear hoe
      obtain ⟨w0, hw0⟩ : ∃ w0, w0 = wr.alloc (.cells #[.int .i64 kd, .int .i64 wy, .slice a m d, .int .i64 nn, .int .i64 sp] 35) := ⟨_, rfl⟩
      have hp0 : Pure wr w0 := by rw [hw0]; exact (Only.refl _ wr).alloc _
      have hb6 : Blk w0 wr.heap.size 35 #[.int .i64 kd, .int .i64 wy, .slice a m d, .int .i64 nn, .int .i64 sp] := by rw [hw0]; exact Blk.new _ _ _
      have hsz0 : w0.heap.size = wr.heap.size + 1 := by rw [hw0]; simp
      have hR1' := hR1.pure_ hp0
      have hR2' := hR2.pure_ hp0
      have hx' := hx.pure_ hp0
      have hgo : ¬ Old w gk := fun h => by have h1 : gk < w.heap.size := h; omega
      have hgo2 : ¬ Old w g2 := fun h => by have h1 : g2 < w.heap.size := h; omega
      have d1 : w0.cell? ⟨wr.heap.size, 1, none⟩ = some (.int .i64 wy) := hb6.cell 1
      have d2 : w0.cell? ⟨wr.heap.size, 2, none⟩ = some (.slice a m d) := hb6.cell 2
      have d3 : w0.cell? ⟨wr.heap.size, 3, none⟩ = some (.int .i64 nn) := hb6.cell 3
      have hpw := hp.trans hp0
      clear hR1 hR2 hx hp hp0
      have HW := hid hw0
      have HSZ := hid hsz0
      clear hw0 hsz0
      by_cases k0 : kd = 0
      · subst k0
        go_wp2_with fail
        rw [← HW.out]
        go_region_held3 (fun X => X.cell? ⟨wr.heap.size, 1, none⟩ = some (.int .i64 wy) ∧ X.cell? ⟨wr.heap.size, 2, none⟩ = some (.slice a m d))
          (first | go_keep | exact ⟨d1, d2⟩ | exact ⟨e1, e2⟩ | exact ⟨f1, f2⟩)
          (first
            | (go_at_call 17; refine (kill_any gk S1 (Old w) es pl wy a m d tx w0.drew hR1' hx' hgo).mono ?_; rintro e w4 h; obtain ⟨rfl, hR4, ho4d⟩ := h.of_push; have ho4 := ho4d.ofDrew; have hb4 := hb6.only ho4 (by omega); have e1 : w4.cell? ⟨wr.heap.size, 1, none⟩ = some (.int .i64 wy) := hb4.cell 1; have e2 : w4.cell? ⟨wr.heap.size, 2, none⟩ = some (.slice a m d) := hb4.cell 2; have hQ4 := hR2'.only ho4 (fun b hb _ e => hS2' (e ▸ hb)) (fun e => hgg e.symm); have hx4 := hx'.only ho4 (fun b hb _ e => hgo (e ▸ hb)))
            | (go_at_call 24; refine (ref_kill_any g2 S2 (Old w) es pl wy a m d tx w4 hQ4 hx4).mono ?_; rintro e w5 ⟨rfl, hQ5, ho5⟩; have hb5 := hb4.only ho5 (by omega); have f1 : w5.cell? ⟨wr.heap.size, 1, none⟩ = some (.int .i64 wy) := hb5.cell 1; have f2 : w5.cell? ⟨wr.heap.size, 2, none⟩ = some (.slice a m d) := hb5.cell 2))
        go_wp2_with fail
        have hS1f : ¬ Plus S1 w0.drew.heap.size g2 := by
          have e9 := HSZ.out
          rintro (h | h)
          · exact hS1 h
          · have h' : w0.heap.size ≤ g2 := h
            omega
        have s4 := ho4.size
        have hS2f : ¬ Plus S2 w4.heap.size gk := by
          have e9 := HSZ.out
          rintro (h | h)
          · exact hS2' h
          · omega
        have hR5 := hR4.only ho5 (fun b hb _ e => hS1f (e ▸ hb)) (fun e => hgg e)
        have heq : eqL [] [] = true := by decide
        have hggf := hgg
        have hwgf := hwg
        have hp5 : Pure w w5 := (hpw.then_ ho4 fun i hi e => by omega).then_ ho5 fun i hi e => by omega

        have hQk := hQ5
        obtain ⟨hQ1, A9, N9, c9, hB9, hL9, hQr⟩ := hQ5
        have i0 : w5.cell? ⟨g2, 0, none⟩ = some (.slice A9 N9 c9) := hB9.cell 0
        have i4 : w5.cell? ⟨wr.heap.size, 4, none⟩ = some (.int .i64 sp) := hb5.cell 4
        clear d1 d2 d3 e1 e2 f1 f2
        have hlt0 := hB9.lt
        have hlt4 := hb5.lt
        clear hQr hB9
        go_region_held3 (fun X => X.cell? ⟨g2, 0, none⟩ = some (.slice A9 N9 c9) ∧ X.cell? ⟨wr.heap.size, 4, none⟩ = some (.int .i64 sp))
          (first | go_keep | exact ⟨i0, i4⟩ | exact ⟨k0, k4⟩)
          (first
          | (go_at_call 27; refine (told_any gk (Plus S1 w0.drew.heap.size) (Plus S2 w4.heap.size) (killEs wy tx es) (killPl wy tx es pl) A9 N9 c9 sp (w5.drewN (1 + q5)) (hR5.pure_ ((Only.refl _ w5).drewN _)) (hL9.pure_ ((Only.refl _ w5).drewN _))).mono ?_; rintro e w8 ⟨rfl, hp8⟩; have hp9 := hp8.ofDrewN; have k0 := (hp9.cell (p := ⟨g2, 0, none⟩) hlt0 (fun x => x)).trans i0; have k4 := (hp9.cell (p := ⟨wr.heap.size, 4, none⟩) hlt4 (fun x => x)).trans i4)
          | (go_at_call 19; refine (equal_any none 0 0 [] (fun _ => False) none 0 0 [] (fun _ => False) w5.drew (RdI.nil _ _ _ _ (Nat.zero_le _)) (RdI.nil _ _ _ _ (Nat.zero_le _)) (by simp [small])).mono ?_; rintro e w7 ⟨rfl, q5, rfl⟩; rw [heq]))
        all_goals
          go_wp2
          go_roundw
          case rel => exact ⟨k + 1, killEs wy tx es, killPl wy tx es pl, gk, by omega, by go_num, rfl, Plus S1 w0.drew.heap.size, Plus S2 w4.heap.size, hR5.pure_ hp9, hQk.pure_ hp9, hS1f, hS2f, hggf, hwgf, hwg2, hp5.trans hp9⟩
          case measure => simp [intOf]; omega
      · have kb0 : (kd == 0) = false := by rw [beq_eq_false_iff_ne]; exact k0
        by_cases k1 : kd = 1
        · subst k1
          clear k0
          go_wp2_with fail
          rw [← HW.out]
          refine (yank_any gk S1 es pl w0 hR1').mono ?_
          rintro e w4 ⟨A3, m3, c3, rfl, hr3, hR4, ho4⟩
          have hQ4 := hR2'.only ho4 (fun b hb _ e => hS2' (e ▸ hb)) (fun e => hgg e.symm)
          have hb4 := hb6.only ho4 (by omega)
          have e3 : w4.cell? ⟨wr.heap.size, 3, none⟩ = some (.int .i64 nn) := hb4.cell 3
          go_wp2_with ((go_at_call 25; refine (ref_yank_any g2 S2 es pl w4 hQ4).mono ?_; rintro e w5 ⟨A4, m4, c4, rfl, hr4, hQ5, ho5⟩))
          have hb5 := hb4.only ho5 (by omega)
          have s4 := ho4.size
          have hr35 := hr3.only ho5 (fun b hb _ e => by have e9 := HSZ.out; omega)
          have hS1f := hS1
          have hS2f := hS2'
          have hR5 := hR4.only ho5 (fun b hb _ e => hS1f (e ▸ hb)) (fun e => hgg e)
          obtain ⟨x, hxe⟩ : ∃ x, x = rotTxt (0) es pl := ⟨_, rfl⟩
          have hxs : x.length ≤ 1024 := by rw [hxe]; exact rotTxt_small hR1' _
          rw [← hxe] at hr35 hr4
          have hm3 := hr35.len
          have hsm : small m3 := by unfold small; omega
          have heq : eqL x x = true := by unfold eqL; simp
          have hggf := hgg
          have hwgf := hwg
          have hp5 : Pure w w5 := (hpw.then_ ho4 fun i hi e => by omega).then_ ho5 fun i hi e => by omega

          have hQk := hQ5
          obtain ⟨hQ1, A9, N9, c9, hB9, hL9, hQr⟩ := hQ5
          have i0 : w5.cell? ⟨g2, 0, none⟩ = some (.slice A9 N9 c9) := hB9.cell 0
          have i4 : w5.cell? ⟨wr.heap.size, 4, none⟩ = some (.int .i64 sp) := hb5.cell 4
          clear d1 d2 d3 e3 hxe hm3
          have hlt0 := hB9.lt
          have hlt4 := hb5.lt
          clear hQr hB9
          go_region_held3 (fun X => X.cell? ⟨g2, 0, none⟩ = some (.slice A9 N9 c9) ∧ X.cell? ⟨wr.heap.size, 4, none⟩ = some (.int .i64 sp))
            (first | go_keep | exact ⟨i0, i4⟩ | exact ⟨k0, k4⟩)
            (first
            | (go_at_call 27; refine (told_any gk (S1) (S2) (es) (rotNew (0) es pl) A9 N9 c9 sp (w5.drewN (1 + q5)) (hR5.pure_ ((Only.refl _ w5).drewN _)) (hL9.pure_ ((Only.refl _ w5).drewN _))).mono ?_; rintro e w8 ⟨rfl, hp8⟩; have hp9 := hp8.ofDrewN; have k0 := (hp9.cell (p := ⟨g2, 0, none⟩) hlt0 (fun x => x)).trans i0; have k4 := (hp9.cell (p := ⟨wr.heap.size, 4, none⟩) hlt4 (fun x => x)).trans i4)
            | (go_at_call 19; refine (equal_any A3 m3 c3 x _ A4 m4 c4 x _ w5.drew hr35 hr4 hsm).mono ?_; rintro e w7 ⟨rfl, q5, rfl⟩; rw [heq]))
          all_goals
            go_wp2
            go_roundw
            case rel => exact ⟨k + 1, es, rotNew (0) es pl, gk, by omega, by go_num, rfl, S1, S2, hR5.pure_ hp9, hQk.pure_ hp9, hS1f, hS2f, hggf, hwgf, hwg2, hp5.trans hp9⟩
            case measure => simp [intOf]; omega
        · have kb1 : (kd == 1) = false := by rw [beq_eq_false_iff_ne]; exact k1
          by_cases k2 : kd = 2
          · subst k2
            clear k0 k1
            go_wp2_with fail
            rw [← HW.out]
            refine (rot_any gk S1 es pl nn w0 hR1').mono ?_
            rintro e w4 ⟨A3, m3, c3, rfl, hr3, hR4, ho4⟩
            have hQ4 := hR2'.only ho4 (fun b hb _ e => hS2' (e ▸ hb)) (fun e => hgg e.symm)
            have hb4 := hb6.only ho4 (by omega)
            have e3 : w4.cell? ⟨wr.heap.size, 3, none⟩ = some (.int .i64 nn) := hb4.cell 3
            go_wp2_with ((go_at_call 26; refine (ref_rot_any g2 S2 es pl nn w4 hQ4).mono ?_; rintro e w5 ⟨A4, m4, c4, rfl, hr4, hQ5, ho5⟩))
            have hb5 := hb4.only ho5 (by omega)
            have s4 := ho4.size
            have hr35 := hr3.only ho5 (fun b hb _ e => by have e9 := HSZ.out; omega)
            have hS1f := hS1
            have hS2f := hS2'
            have hR5 := hR4.only ho5 (fun b hb _ e => hS1f (e ▸ hb)) (fun e => hgg e)
            obtain ⟨x, hxe⟩ : ∃ x, x = rotTxt (nn) es pl := ⟨_, rfl⟩
            have hxs : x.length ≤ 1024 := by rw [hxe]; exact rotTxt_small hR1' _
            rw [← hxe] at hr35 hr4
            have hm3 := hr35.len
            have hsm : small m3 := by unfold small; omega
            have heq : eqL x x = true := by unfold eqL; simp
            have hggf := hgg
            have hwgf := hwg
            have hp5 : Pure w w5 := (hpw.then_ ho4 fun i hi e => by omega).then_ ho5 fun i hi e => by omega

            have hQk := hQ5
            obtain ⟨hQ1, A9, N9, c9, hB9, hL9, hQr⟩ := hQ5
            have i0 : w5.cell? ⟨g2, 0, none⟩ = some (.slice A9 N9 c9) := hB9.cell 0
            have i4 : w5.cell? ⟨wr.heap.size, 4, none⟩ = some (.int .i64 sp) := hb5.cell 4
            clear d1 d2 d3 e3 hxe hm3
            have hlt0 := hB9.lt
            have hlt4 := hb5.lt
            clear hQr hB9
            go_region_held3 (fun X => X.cell? ⟨g2, 0, none⟩ = some (.slice A9 N9 c9) ∧ X.cell? ⟨wr.heap.size, 4, none⟩ = some (.int .i64 sp))
              (first | go_keep | exact ⟨i0, i4⟩ | exact ⟨k0, k4⟩)
              (first
              | (go_at_call 27; refine (told_any gk (S1) (S2) (es) (rotNew (nn) es pl) A9 N9 c9 sp (w5.drewN (1 + q5)) (hR5.pure_ ((Only.refl _ w5).drewN _)) (hL9.pure_ ((Only.refl _ w5).drewN _))).mono ?_; rintro e w8 ⟨rfl, hp8⟩; have hp9 := hp8.ofDrewN; have k0 := (hp9.cell (p := ⟨g2, 0, none⟩) hlt0 (fun x => x)).trans i0; have k4 := (hp9.cell (p := ⟨wr.heap.size, 4, none⟩) hlt4 (fun x => x)).trans i4)
              | (go_at_call 19; refine (equal_any A3 m3 c3 x _ A4 m4 c4 x _ w5.drew hr35 hr4 hsm).mono ?_; rintro e w7 ⟨rfl, q5, rfl⟩; rw [heq]))
            all_goals
              go_wp2
              go_roundw
              case rel => exact ⟨k + 1, es, rotNew (nn) es pl, gk, by omega, by go_num, rfl, S1, S2, hR5.pure_ hp9, hQk.pure_ hp9, hS1f, hS2f, hggf, hwgf, hwg2, hp5.trans hp9⟩
              case measure => simp [intOf]; omega
          · have kb2 : (kd == 2) = false := by rw [beq_eq_false_iff_ne]; exact k2
            clear k0 k1 k2
            go_wp2_with fail
            rw [← HW.out]
            refine (clone_ring gk S1 es pl w0 hR1').mono ?_
            rintro e w4 ⟨gc, rfl, hgc, hRc, hp4⟩
            have hb4 := hb6.pure_ hp4
            have e1 : w4.cell? ⟨wr.heap.size, 1, none⟩ = some (.int .i64 wy) := hb4.cell 1
            have e2 : w4.cell? ⟨wr.heap.size, 2, none⟩ = some (.slice a m d) := hb4.cell 2
            have hR4 := hR1'.pure_ hp4
            have hx4 := hx'.pure_ hp4
            go_wp2_with (first
              | (go_at_call 17; refine (kill_any gk S1 (Old w) es pl wy a m d tx w4 hR4 hx4 hgo).mono ?_; rintro e w5 h; obtain ⟨rfl, hR5, ho5⟩ := h.of_push)
              | (go_at_call 21; refine (rot_any gk _ (killEs wy tx es) (killPl wy tx es pl) 1 w5 hR5).mono ?_; rintro e w6 ⟨A3, m3, c3, rfl, hr3, hR6, ho6⟩))
            have e9 := HSZ.out
            have ho : Only (fun b => b = gk) w0 w6 := ((Only.of_pure hp4).trans ho5).trans ho6
            have hb6' := hb6.only ho (by omega)
            have hgcs : ¬ gc = gk := by omega
            have ho46 := ho5.trans ho6
            have hRf := hRc.only ho46 (fun b hb _ e => hR1'.1 (e ▸ hb.1)) hgcs
            have hQf := hR2'.only ho (fun b hb _ e => hS2' (e ▸ hb)) (fun e => hgg e.symm)
            have hS1f : ¬ (S1 g2 ∧ g2 < w0.heap.size) := fun h => hS1 h.1
            have hS2f : ¬ S2 gc := fun h => by have := hS2lt _ h; omega
            have hggf : gc ≠ g2 := by omega
            have hwgf : w.heap.size ≤ gc := by omega
            have heq : eqL [] [] = true := by decide
            have hp6 : Pure w w6 := hpw.then_ ho fun i hi e => by omega
            clear e9

            have hQk := hQf
            obtain ⟨hQ1, A9, N9, c9, hB9, hL9, hQr⟩ := hQf
            have i0 : w6.cell? ⟨g2, 0, none⟩ = some (.slice A9 N9 c9) := hB9.cell 0
            have i4 : w6.cell? ⟨wr.heap.size, 4, none⟩ = some (.int .i64 sp) := hb6'.cell 4
            clear d1 d2 d3 e1 e2
            have hlt0 := hB9.lt
            have hlt4 := hb6'.lt
            clear hQr hB9
            go_region_held3 (fun X => X.cell? ⟨g2, 0, none⟩ = some (.slice A9 N9 c9) ∧ X.cell? ⟨wr.heap.size, 4, none⟩ = some (.int .i64 sp))
              (first | go_keep | exact ⟨i0, i4⟩ | exact ⟨k0, k4⟩)
              (first
              | (go_at_call 27; refine (told_any gc (fun b => S1 b ∧ b < w0.heap.size) (S2) (es) (pl) A9 N9 c9 sp (w6.drewN (1 + q5)) (hRf.pure_ ((Only.refl _ w6).drewN _)) (hL9.pure_ ((Only.refl _ w6).drewN _))).mono ?_; rintro e w8 ⟨rfl, hp8⟩; have hp9 := hp8.ofDrewN; have k0 := (hp9.cell (p := ⟨g2, 0, none⟩) hlt0 (fun x => x)).trans i0; have k4 := (hp9.cell (p := ⟨wr.heap.size, 4, none⟩) hlt4 (fun x => x)).trans i4)
              | (go_at_call 19; refine (equal_any none 0 0 [] (fun _ => False) none 0 0 [] (fun _ => False) w6.drew (RdI.nil _ _ _ _ (Nat.zero_le _)) (RdI.nil _ _ _ _ (Nat.zero_le _)) (by simp [small])).mono ?_; rintro e w7 ⟨rfl, q5, rfl⟩; rw [heq]))
            all_goals
              go_wp2
              go_roundw
              case rel => exact ⟨k + 1, es, pl, gc, by omega, by go_num, rfl, fun b => S1 b ∧ b < w0.heap.size, S2, hRf.pure_ hp9, hQk.pure_ hp9, hS1f, hS2f, hggf, hwgf, hwg2, hp6.trans hp9⟩
              case measure => simp [intOf]; omega
    · obtain rfl : k = N := by omega
      obtain ⟨S1, S2, hR1, hR2, hS1, hS2, hgg, hwg, hwg2, hp⟩ := hP
      go_wp2
      go_ret
      exact ⟨rfl, hp⟩

end Go.Proofs.Ytinlpmgchcbjpaa
