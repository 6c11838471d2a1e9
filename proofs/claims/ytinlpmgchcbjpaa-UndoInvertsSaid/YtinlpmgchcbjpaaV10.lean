/- The law UndoInverts, walked. -/
import Derived.Test.YtinlpmgchcbjpaaU19
import Derived.Deep.RegionLaw
namespace Go.Proofs.Ytinlpmgchcbjpaa
open Go Go.RowKit
set_option maxHeartbeats 1000000
set_option maxRecDepth 100000
attribute [local go_sem ↓] Go.wp_at_zero Go.wp_at_succ

/-- A step, as it is handed in. -/
structure Sp where
  at_ : Int
  many : Int
  ins : List Int

set_option maxHeartbeats 4000000 in
theorem inverts_any (AL : Option Addr) (N C : Nat) (line : List Int) (SL : Nat → Prop)
    (at0 mn0 : Int) (A : Option Addr) (n c : Nat) (bg0 en0 : Value) (ins0 : List Int) (S : Nat → Prop)
    (at1 mn1 : Int) (B : Option Addr) (m d : Nat) (bg1 en1 : Value) (ins1 : List Int) (T : Nat → Prop) (w : World)
    (hL : RdI w SL AL N C line) (hr : RdI w S A n c ins0) (hq : RdI w T B m d ins1) (hN : N ≤ 35184372087808) (hn : n ≤ 35184372087808) (hm : m ≤ 35184372087808) :
    Calls Try.prog 10 #[.slice AL N C, .agg #[.int .i64 at0, .int .i64 mn0, .slice A n c, bg0, en0], .agg #[.int .i64 at1, .int .i64 mn1, .slice B m d, bg1, en1]] w fun e w' => e = .returned (.bool true) ∧ Pure w w' := by
  have HL := hid hL.len
  have HI := hid hr.len
  have HJ := hid hq.len
  have sN : small N := by unfold small; omega
  have sn : small n := by unfold small; omega
  have sm : small m := by unfold small; omega
  have hNI : (N : Int) ≤ 35184372087808 := by omega
  -- the first step as an edit
  obtain ⟨x, hx⟩ : ∃ x, x = stepEd at0 mn0 line ins0 := ⟨_, rfl⟩
  have hxok : appOk line x := by rw [hx]; exact step_ok _ _ _ _
  have hxi : x.ins = ins0 := by rw [hx]; rfl
  have hxd : x.del.length ≤ N := by rw [← HL.out, hx]; exact step_del_le _ _ _ _
  obtain ⟨k, hk, hkN⟩ : ∃ k : Nat, x.at_ = (k : Int) ∧ k ≤ N := ⟨stepAt at0 line.length, by rw [hx]; rfl, by have := stepAt_le at0 line.length; rw [HL.out] at this ⊢; exact this⟩
  have hkI : (k : Int) ≤ 35184372087808 := by omega
  have hxe : (⟨(k : Int), x.del, ins0⟩ : Ed) = x := by rw [← hk, ← hxi]
  have HX := hid hx
  have HK := hid hk
  have HXE := hid hxe
  have HXI := hid hxi
  clear hx hk hxe hxi
  go_enter Try.func10, Try.ntmps10
  go_wp2_with fail
  obtain ⟨w0, hw0⟩ : ∃ w0, w0 = (w.alloc (.cells #[.int .i64 at0, .int .i64 mn0, .slice A n c, bg0, en0] 68)).alloc (.cells #[.int .i64 at1, .int .i64 mn1, .slice B m d, bg1, en1] 68) := ⟨_, rfl⟩
  rw [← hw0]
  have hp0 : Pure w w0 := by rw [hw0]; exact ((Only.refl _ w).alloc _).alloc _
  have hb0 : Blk w0 w.heap.size 68 #[.int .i64 at0, .int .i64 mn0, .slice A n c, bg0, en0] := by rw [hw0]; exact (Blk.new w _ _).alloc _
  have hb1 : Blk w0 (w.heap.size + 1) 68 #[.int .i64 at1, .int .i64 mn1, .slice B m d, bg1, en1] := by
    rw [hw0]; have := Blk.new (w.alloc (.cells #[.int .i64 at0, .int .i64 mn0, .slice A n c, bg0, en0] 68)) 68 #[.int .i64 at1, .int .i64 mn1, .slice B m d, bg1, en1]; rwa [World.size_alloc] at this
  clear hw0
  refine (begun_any w0).mono ?_
  rintro e w1 ⟨rfl, hp1⟩
  have hp01 := hp0.trans hp1
  have a0 : w1.cell? ⟨w.heap.size, 0, none⟩ = some (.int .i64 at0) := (hb0.pure_ hp1).cell 0
  have a1 : w1.cell? ⟨w.heap.size, 1, none⟩ = some (.int .i64 mn0) := (hb0.pure_ hp1).cell 1
  have a2 : w1.cell? ⟨w.heap.size, 2, none⟩ = some (.slice A n c) := (hb0.pure_ hp1).cell 2
  have a3 : w1.cell? ⟨w.heap.size, 3, none⟩ = some bg0 := (hb0.pure_ hp1).cell 3
  have a4 : w1.cell? ⟨w.heap.size, 4, none⟩ = some en0 := (hb0.pure_ hp1).cell 4
  have hb11 := hb1.pure_ hp1
  clear hb0 hb1
  go_wp2_with fail
  refine (step_any at0 mn0 A n c bg0 en0 ins0 AL N C line SL w1 (hL.pure_ hp01) sN).mono ?_
  rintro e w2 ⟨AX, nx, cx, rfl, hX, hp2⟩
  rw [← HX.out] at hX
  have hks : (stepAt at0 line.length : Nat) = k := by have h1 := HK.out; rw [HX.out] at h1; have h2 : ((stepAt at0 line.length : Nat) : Int) = (k : Int) := h1; omega
  rw [hks]
  clear hks a0 a1 a2 a3 a4
  go_wp2_with fail
  obtain ⟨w3, hw3⟩ : ∃ w3, w3 = w2.alloc (.cells #[.int .i64 (k : Int), .slice AX nx cx, .slice A n c] 60) := ⟨_, rfl⟩
  rw [← hw3]
  have hp23 : Pure w2 w3 := by rw [hw3]; exact (Only.refl _ w2).alloc _
  have hbx3 : Blk w3 w2.heap.size 60 #[.int .i64 (k : Int), .slice AX nx cx, .slice A n c] := by rw [hw3]; exact Blk.new _ _ _
  clear hw3
  have hp03 := (hp01.trans hp2).trans hp23
  have hb13 := (hb11.pure_ hp2).pure_ hp23
  have hX3 := hX.pure_ hp23
  have snx : small nx := by have := hX.len; unfold small; omega
  have HXL := hid hX.len
  refine (apply_any AL N C line SL (k : Int) AX nx cx x.del _ A n c ins0 S w3 (hL.pure_ hp03) hX3 (hr.pure_ hp03) sN snx sn).mono ?_
  rintro e w4 ⟨A1, n1, c1, rfl, hR4, hp4⟩
  rw [HXE.out] at hR4
  rw [HXE.out]
  rcases appCode_ok hxok with hc | hc
  · have hone : (appRun line x).length ≤ 1024 := (appCode_zero.1 hc).2
    have hout : appOut line x = appRun line x := by unfold appOut; rw [if_pos hc]
    rw [hout] at hR4
    rw [hc]
    obtain ⟨one, hoe⟩ : ∃ one, one = appRun line x := ⟨_, rfl⟩
    rw [← hoe] at hR4 hone
    have HOE := hid hoe
    have HC := hid hc
    clear hoe hout hc
    have hp04 := hp03.trans hp4
    have hbx4 := hbx3.pure_ hp4
    have hb14 := hb13.pure_ hp4
    have hX4 := hX3.pure_ hp4
    have hn1 : n1 ≤ 1024 := by rw [← hR4.len]; exact hone
    have d0 : w4.cell? ⟨w2.heap.size, 0, none⟩ = some (.int .i64 (k : Int)) := hbx4.cell 0
    have d1 : w4.cell? ⟨w2.heap.size, 1, none⟩ = some (.slice AX nx cx) := hbx4.cell 1
    have d2 : w4.cell? ⟨w2.heap.size, 2, none⟩ = some (.slice A n c) := hbx4.cell 2
    have hs4 := hp4.size
    have hs04 := hp04.size
    have hinv := app_inv hxok
    rw [← HOE.out] at hinv
    have hix : x.inv = ⟨(k : Int), ins0, x.del⟩ := by unfold Ed.inv; rw [HK.out, HXI.out]
    rw [hix] at hinv
    have HINV := hid hinv
    clear hinv hix
    rcases Nat.lt_or_ge 1024 N with hN1 | hN1
    rotate_left
    have hN1I : (N : Int) ≤ 1024 := by omega
    have hci : appCode one ⟨(k : Int), ins0, x.del⟩ = 0 := appCode_zero.2 ⟨HINV.out.1, by rw [HINV.out.2, HL.out]; exact hN1⟩
    have hco : appOut one ⟨(k : Int), ins0, x.del⟩ = line := by unfold appOut; rw [if_pos hci]; exact HINV.out.2
    have HCI := hid hci
    have HCO := hid hco
    clear hci hco
    go_wp2_with (first
      | (go_at_call 35; refine (runes_any A6 n6 c6 line (fun b => w5.heap.size ≤ b) AL N C line SL w6 hR6 ((hL.pure_ hp04).pure_ (hp5.trans hp6)) (by rw [← hR6.len, HL.out]; exact sN)).mono ?_; rintro e w7 ⟨rfl, q7, rfl⟩; rw [show eqL line line = true from by simp [eqL]])
      | (go_at_call 30; refine (apply_any A1 n1 c1 one _ (k : Int) A5 n5 c5 ins0 _ A5' n5' c5' x.del _ w5 (hR4.pure_ hp5) hR5 hR5' (by unfold small; omega) (by rw [← hR5.len, HI.out]; exact sn) (by rw [← hR5'.len, HXL.out]; exact snx)).mono ?_; rintro e w6 ⟨A6, n6, c6, rfl, hR6, hp6⟩; rw [HCI.out]; rw [HCO.out] at hR6)
      | (go_at_call 37; refine (inv_edit (k : Int) AX nx cx x.del A n c ins0 _ S w4 hX4 (hr.pure_ hp04) snx sn).mono ?_; rintro e w5 ⟨A5, n5, c5, A5', n5', c5', rfl, hR5, hR5', hp5⟩))
    have hpW0 : Pure w4 (w6.drewN q7) := (hp5.trans hp6).drewN q7
    obtain ⟨W, hW⟩ : ∃ W, W = w6.drewN q7 := ⟨_, rfl⟩
    rw [← hW] at hpW0 ⊢
    clear hW hR6 hR5 hR5' hp6 hp5
    rotate_left
    have hN1I : (1024 : Int) < N := by omega
    go_wp2
    have hpW0 : Pure w4 w4 := Only.refl _ _
    obtain ⟨W, hW⟩ : ∃ W, W = w4 := ⟨_, rfl⟩
    rw [← hW]
    rw [← hW] at hpW0
    have hpW0 : Pure w4 W := by rw [hW]; exact Only.refl _ _
    clear hW
    all_goals
      have hbx := hbx4.pure_ hpW0
      have hb1W := hb14.pure_ hpW0
      have hXW := hX4.pure_ hpW0
      have hpW := hp04.trans hpW0
      have hrW := hr.pure_ hpW
      have hR1 := hR4.pure_ hpW0
      have e0 : W.cell? ⟨w2.heap.size, 0, none⟩ = some (.int .i64 (k : Int)) := hbx.cell 0
      have e1 : W.cell? ⟨w2.heap.size, 1, none⟩ = some (.slice AX nx cx) := hbx.cell 1
      have e2 : W.cell? ⟨w2.heap.size, 2, none⟩ = some (.slice A n c) := hbx.cell 2
      clear d0 d1 d2 hbx4 hb14 hX4 hR4
      go_region_held3 (fun X => X.cell? ⟨w2.heap.size, 0, none⟩ = some (.int .i64 (k : Int)) ∧ X.cell? ⟨w2.heap.size, 1, none⟩ = some (.slice AX nx cx) ∧ X.cell? ⟨w2.heap.size, 2, none⟩ = some (.slice A n c))
        (first | go_keep | exact ⟨e0, e1, e2⟩ | exact ⟨f0, f1, f2⟩ | exact ⟨g0, g1, g2⟩ | exact ⟨h0, h1, h2⟩)
        (first
          | (go_at_call 36; refine (same_edit (k : Int) A6 n6 c6 x.del A6' n6' c6' ins0 _ _ (k : Int) AX nx cx x.del A n c ins0 _ S w6 hR6 hR6' (by rw [← RdI.len hR6, HXL.out]; exact snx) (by rw [← RdI.len hR6', HI.out]; exact sn) (hXW.pure_ hq6) (hrW.pure_ hq6)).mono ?_; rintro e w7 ⟨rfl, hp7⟩; rw [same_refl]; have hq7 := hq6.trans hp7; have h0 : w7.cell? ⟨w2.heap.size, 0, none⟩ = some (.int .i64 (k : Int)) := (hbx.pure_ hq7).cell 0; have h1 : w7.cell? ⟨w2.heap.size, 1, none⟩ = some (.slice AX nx cx) := (hbx.pure_ hq7).cell 1; have h2 : w7.cell? ⟨w2.heap.size, 2, none⟩ = some (.slice A n c) := (hbx.pure_ hq7).cell 2)
          | (go_at_call 37; refine (inv_edit (k : Int) A5 n5 c5 ins0 A5' n5' c5' x.del _ _ w5 hR5 hR5' (by rw [← RdI.len hR5, HI.out]; exact sn) (by rw [← RdI.len hR5', HXL.out]; exact snx)).mono ?_; rintro e w6 ⟨A6, n6, c6, A6', n6', c6', rfl, hR6, hR6', hp6⟩; have hq6 := hq5.trans hp6; have g0 : w6.cell? ⟨w2.heap.size, 0, none⟩ = some (.int .i64 (k : Int)) := (hbx.pure_ hq6).cell 0; have g1 : w6.cell? ⟨w2.heap.size, 1, none⟩ = some (.slice AX nx cx) := (hbx.pure_ hq6).cell 1; have g2 : w6.cell? ⟨w2.heap.size, 2, none⟩ = some (.slice A n c) := (hbx.pure_ hq6).cell 2)
          | (go_at_call 37; refine (inv_edit (k : Int) AX nx cx x.del A n c ins0 _ S W.drew (hXW.pure_ (Only.refl _ _).drew) (hrW.pure_ (Only.refl _ _).drew) snx sn).mono ?_; rintro e w5 ⟨A5, n5, c5, A5', n5', c5', rfl, hR5, hR5', hp5⟩; have hq5 := hp5.ofDrew; have f0 : w5.cell? ⟨w2.heap.size, 0, none⟩ = some (.int .i64 (k : Int)) := (hbx.pure_ hq5).cell 0; have f1 : w5.cell? ⟨w2.heap.size, 1, none⟩ = some (.slice AX nx cx) := (hbx.pure_ hq5).cell 1; have f2 : w5.cell? ⟨w2.heap.size, 2, none⟩ = some (.slice A n c) := (hbx.pure_ hq5).cell 2))
      have hpV := hpW.trans hq7
      have hXV := hXW.pure_ hq7
      have hrV := hrW.pure_ hq7
      have hRV := hR1.pure_ hq7
      have hbV := hbx.pure_ hq7
      have hb1V := hb1W.pure_ hq7
      have hqV := hq.pure_ hpV
      have i0 : w7.cell? ⟨w.heap.size + 1, 0, none⟩ = some (.int .i64 at1) := hb1V.cell 0
      have i1 : w7.cell? ⟨w.heap.size + 1, 1, none⟩ = some (.int .i64 mn1) := hb1V.cell 1
      have i2 : w7.cell? ⟨w.heap.size + 1, 2, none⟩ = some (.slice B m d) := hb1V.cell 2
      have i3 : w7.cell? ⟨w.heap.size + 1, 3, none⟩ = some bg1 := hb1V.cell 3
      have i4 : w7.cell? ⟨w.heap.size + 1, 4, none⟩ = some en1 := hb1V.cell 4
      clear e0 e1 e2 f0 f1 f2 g0 g1 g2 h0 h1 h2 hXW hrW hR1 hbx hb1W hR5 hR5' hR6 hR6' hq5 hq6 hp5 hp6 hp7 hq7 hpW0
      obtain ⟨y, hy⟩ : ∃ y, y = stepEd at1 mn1 one ins1 := ⟨_, rfl⟩
      have hyok : appOk one y := by rw [hy]; exact step_ok _ _ _ _
      have hyi : y.ins = ins1 := by rw [hy]; rfl
      have hol := hRV.len
      have hyd : y.del.length ≤ 1024 := by have h9 : y.del.length ≤ one.length := by { rw [hy]; exact step_del_le _ _ _ _ }; omega
      obtain ⟨j, hj, hjN⟩ : ∃ j : Nat, y.at_ = (j : Int) ∧ j ≤ 1024 := ⟨stepAt at1 one.length, by rw [hy]; rfl, by have := stepAt_le at1 one.length; omega⟩
      have hye : (⟨(j : Int), y.del, ins1⟩ : Ed) = y := by rw [← hj, ← hyi]
      have hjI : (j : Int) ≤ 1024 := by omega
      have HY := hid hy
      have HJY := hid hj
      have HYE := hid hye
      have HYI := hid hyi
      clear hy hj hye hyi hol
      go_wp2_with fail
      refine (step_any at1 mn1 B m d bg1 en1 ins1 A1 n1 c1 one _ w7 hRV (by unfold small; omega)).mono ?_
      rintro e w8 ⟨AY, ny, cy, rfl, hY, hp8⟩
      rw [← HY.out] at hY
      have hjs : (stepAt at1 one.length : Nat) = j := by have h1 := HJY.out; rw [HY.out] at h1; have h2 : ((stepAt at1 one.length : Nat) : Int) = (j : Int) := h1; omega
      rw [hjs]
      clear hjs i0 i1 i2 i3 i4
      go_wp2_with fail
      obtain ⟨w9, hw9⟩ : ∃ w9, w9 = w8.alloc (.cells #[.int .i64 (j : Int), .slice AY ny cy, .slice B m d] 60) := ⟨_, rfl⟩
      rw [← hw9]
      have hp89 : Pure w8 w9 := by rw [hw9]; exact (Only.refl _ w8).alloc _
      have hby9 : Blk w9 w8.heap.size 60 #[.int .i64 (j : Int), .slice AY ny cy, .slice B m d] := by rw [hw9]; exact Blk.new _ _ _
      clear hw9
      have hp79 := hp8.trans hp89
      have hY9 := hY.pure_ hp89
      have sny : small ny := by have := hY.len; unfold small; omega
      have HYL := hid hY.len
      refine (apply_any A1 n1 c1 one _ (j : Int) AY ny cy y.del _ B m d ins1 T w9 (hRV.pure_ hp79) hY9 (hqV.pure_ hp79) (by unfold small; omega) sny sm).mono ?_
      rintro e w10 ⟨A2, n2, c2, rfl, hR10, hp10⟩
      rw [HYE.out] at hR10
      rw [HYE.out]
      have hp710 := hp79.trans hp10
      have e0 : w10.cell? ⟨w2.heap.size, 0, none⟩ = some (.int .i64 (k : Int)) := (hbV.pure_ hp710).cell 0
      have e1 : w10.cell? ⟨w2.heap.size, 1, none⟩ = some (.slice AX nx cx) := (hbV.pure_ hp710).cell 1
      have e2 : w10.cell? ⟨w2.heap.size, 2, none⟩ = some (.slice A n c) := (hbV.pure_ hp710).cell 2
      have f0 : w10.cell? ⟨w8.heap.size, 0, none⟩ = some (.int .i64 (j : Int)) := (hby9.pure_ hp10).cell 0
      have f1 : w10.cell? ⟨w8.heap.size, 1, none⟩ = some (.slice AY ny cy) := (hby9.pure_ hp10).cell 1
      have f2 : w10.cell? ⟨w8.heap.size, 2, none⟩ = some (.slice B m d) := (hby9.pure_ hp10).cell 2
      have hlen1 := appRun_len hxok
      rw [← HOE.out, HL.out, HXI.out, HI.out] at hlen1
      have hn1024 : n ≤ 1024 := by omega
      clear hlen1
      go_wp2_with fail
      refine (join_any (k : Int) AX nx cx x.del A n c ins0 _ S (j : Int) AY ny cy y.del B m d ins1 _ T w10 (hXV.pure_ hp710) (hrV.pure_ hp710) snx sn (hY9.pure_ hp10) (hqV.pure_ hp710) sny (by unfold word; omega) (by unfold word; omega) (fun _ => by unfold small; omega) (fun _ => by have h1 := HYL.out; have h2 := HXL.out; unfold small; omega)).mono ?_
      rintro e w11 ⟨A3, n3, c3, A3', n3', c3', rfl, hZ, hZ', hp11⟩
      rw [HXE.out, HYE.out] at hZ hZ'
      rw [HXE.out, HYE.out]
      clear e0 e1 e2 f0 f1 f2
      have hpfin := (hpV.trans hp710).trans hp11
      rcases appCode_ok hyok with hc2 | hc2
      · rw [hc2]
        cases hji : joinIs x y
        · go_wp2
          go_ret
          exact ⟨rfl, hpfin.alloc _⟩
        · obtain ⟨z, hz⟩ : ∃ z, z = joinE x y := ⟨_, rfl⟩
          rw [← hz] at hZ hZ' ⊢
          obtain ⟨hzok, hzrun⟩ : appOk line z ∧ appRun line z = appRun one y := by
            have h9 := app_join hxok (by rw [← HOE.out]; exact hyok) hji
            rw [← hz, ← HOE.out] at h9
            exact h9
          have hylen := (appCode_zero.1 hc2).2
          have hzc : appCode line z = 0 := appCode_zero.2 ⟨hzok, by rw [hzrun]; exact hylen⟩
          have hzo : appOut line z = appRun one y := by unfold appOut; rw [if_pos hzc]; exact hzrun
          have hyo : appOut one y = appRun one y := by unfold appOut; rw [if_pos hc2]
          have hzl := appRun_len hzok
          rw [hzrun] at hzl
          have hzd := hzok.2.1
          have hz0 := hzok.1
          rw [hyo] at hR10
          have hn3 : small n3 := by have h1 := hZ.len; have h2 := HL.out; unfold small; omega
          have hn3' : small n3' := by have h1 := hZ'.len; have h2 := HL.out; unfold small; omega
          have hn2 := hR10.len
          have HZO := hid hzo
          have HZC := hid hzc
          have HYLEN := hid hylen
          have HN2 := hid hn2
          clear hzo hzc hyo hzl hzd hz0 hylen hn2 hzrun hz hji hc2
          go_wp2_with fail
          refine (apply_any AL N C line SL z.at_ A3 n3 c3 z.del _ A3' n3' c3' z.ins _ _ (hL.pure_ (hpfin.alloc _)) (hZ.pure_ ((Only.refl _ _).alloc _)) (hZ'.pure_ ((Only.refl _ _).alloc _)) sN hn3 hn3').mono ?_
          rintro e w13 ⟨A4, n4, c4, rfl, hR13, hp13⟩
          have hze : (⟨z.at_, z.del, z.ins⟩ : Ed) = z := rfl
          rw [hze, HZC.out]
          rw [hze, HZO.out] at hR13
          clear hze
          go_wp2_with (go_at_call 35; refine (runes_any A4 n4 c4 (appRun one y) _ A2 n2 c2 (appRun one y) _ w13 hR13 ((hR10.pure_ hp11).pure_ (((Only.refl _ _).alloc _).trans hp13)) (by have h1 := hR13.len; have h2 := HYLEN.out; unfold small; omega)).mono ?_; rintro e w14 ⟨rfl, q14, rfl⟩; rw [show eqL (appRun one y) (appRun one y) = true from by simp [eqL]])
          go_ret
          exact ⟨rfl, ((hpfin.alloc _).trans hp13).drewN q14⟩
      · rw [hc2]
        go_wp2
        go_ret
        exact ⟨rfl, hpfin.alloc _⟩
  · rw [hc]
    go_wp2
    go_ret
    exact ⟨rfl, hp03.trans hp4⟩

end Go.Proofs.Ytinlpmgchcbjpaa
