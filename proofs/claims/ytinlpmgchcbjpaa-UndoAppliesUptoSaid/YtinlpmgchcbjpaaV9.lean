/- The law UndoApplies, walked, for what is not too long. -/
import Derived.Test.YtinlpmgchcbjpaaU21
import Derived.Test.YtinlpmgchcbjpaaU19
namespace Go.Proofs.Ytinlpmgchcbjpaa
open Go Go.RowKit
set_option maxHeartbeats 1000000
set_option maxRecDepth 100000
attribute [local go_sem ↓] Go.wp_at_zero Go.wp_at_succ

theorem joinE_len (a b : Ed) : (joinE a b).del.length ≤ a.del.length + b.del.length ∧ (joinE a b).ins.length ≤ a.ins.length + b.ins.length := by
  unfold joinE
  split
  · simp
  · split
    · simp; omega
    · simp [Ed.none]
theorem appOut_len {line : List Int} {e : Ed} : (appOut line e).length ≤ 1024 := by
  unfold appOut
  split
  · rename_i h; exact (appCode_zero.1 h).2
  · simp

set_option maxHeartbeats 8000000 in
theorem applies_any (AL : Option Addr) (N C : Nat) (line : List Int) (SL : Nat → Prop) (at0 : Int) (A : Option Addr) (n c : Nat) (del : List Int) (A' : Option Addr) (n' c' : Nat) (ins : List Int) (S S' : Nat → Prop)
    (at1 : Int) (B : Option Addr) (m d : Nat) (del1 : List Int) (B' : Option Addr) (m' d' : Nat) (ins1 : List Int) (T T' : Nat → Prop) (w : World)
    (hL : RdI w SL AL N C line) (hr : RdI w S A n c del) (hr' : RdI w S' A' n' c' ins) (hq : RdI w T B m d del1) (hq' : RdI w T' B' m' d' ins1) (w0 : word at0) (w1 : word at1)
    (hN : small N) (hn : n ≤ 1048576) (hn' : n' ≤ 1048576) (hm : m ≤ 1048576) (hm' : m' ≤ 1048576) :
    Calls Try.prog 9 #[.slice AL N C, .agg #[.int .i64 at0, .slice A n c, .slice A' n' c'], .agg #[.int .i64 at1, .slice B m d, .slice B' m' d']] w fun e w' => e = .returned (.bool true) ∧ Pure w w' := by
  have HD := hid hr.len
  have HI := hid hr'.len
  have HD1 := hid hq.len
  have HI1 := hid hq'.len
  have sn : small n := by unfold small; omega
  have sn' : small n' := by unfold small; omega
  have sm : small m := by unfold small; omega
  obtain ⟨z, hz⟩ : ∃ z, z = joinE ⟨at0, del, ins⟩ ⟨at1, del1, ins1⟩ := ⟨_, rfl⟩
  obtain ⟨zi, hzi⟩ : ∃ zi, zi = joinIs ⟨at0, del, ins⟩ ⟨at1, del1, ins1⟩ := ⟨_, rfl⟩
  obtain ⟨ac, hac⟩ : ∃ ac, ac = appCode line ⟨at0, del, ins⟩ := ⟨_, rfl⟩
  have HZ := hid hz
  have HZI := hid hzi
  have HAC := hid hac
  clear hz hzi hac
  go_enter Try.func9, Try.ntmps9
  go_wp2_with fail
  obtain ⟨W1, hW1⟩ : ∃ W1, W1 = (w.alloc (.cells #[.int .i64 at0, .slice A n c, .slice A' n' c'] 60)).alloc (.cells #[.int .i64 at1, .slice B m d, .slice B' m' d'] 60) := ⟨_, rfl⟩
  rw [← hW1]
  have hp01 : Pure w W1 := by rw [hW1]; exact ((Only.refl _ w).alloc _).alloc _
  have hba1 : Blk W1 w.heap.size 60 #[.int .i64 at0, .slice A n c, .slice A' n' c'] := by rw [hW1]; exact (Blk.new w _ _).alloc _
  have hbb1 : Blk W1 (w.heap.size + 1) 60 #[.int .i64 at1, .slice B m d, .slice B' m' d'] := by
    rw [hW1]; have := Blk.new (w.alloc (.cells #[.int .i64 at0, .slice A n c, .slice A' n' c'] 60)) 60 #[.int .i64 at1, .slice B m d, .slice B' m' d']; rwa [World.size_alloc] at this
  clear hW1
  refine (apply_any AL N C line SL at0 A n c del S A' n' c' ins S' W1 (hL.pure_ hp01) (hr.pure_ hp01) (hr'.pure_ hp01) hN sn sn').mono ?_
  rintro e W2 ⟨L1, l1, k1, rfl, hO1, hp12⟩
  rw [← HAC.out]
  have hp02 := hp01.trans hp12
  have a0 : W2.cell? ⟨w.heap.size, 0, none⟩ = some (.int .i64 at0) := (hba1.pure_ hp12).cell 0
  have a1 : W2.cell? ⟨w.heap.size, 1, none⟩ = some (.slice A n c) := (hba1.pure_ hp12).cell 1
  have a2 : W2.cell? ⟨w.heap.size, 2, none⟩ = some (.slice A' n' c') := (hba1.pure_ hp12).cell 2
  go_wp2_with fail
  refine (rapply_any AL N C line SL at0 A n c del S A' n' c' ins S' W2 (hL.pure_ hp02) (hr.pure_ hp02) (hr'.pure_ hp02) hN sn sn').mono ?_
  rintro e W3 ⟨L2, l2, k2, rfl, hO2, hp23⟩
  rw [← HAC.out]
  have hp03 := hp02.trans hp23
  have hp13 := hp12.trans hp23
  have b0 : W3.cell? ⟨w.heap.size, 0, none⟩ = some (.int .i64 at0) := (hba1.pure_ hp13).cell 0
  have b1 : W3.cell? ⟨w.heap.size, 1, none⟩ = some (.slice A n c) := (hba1.pure_ hp13).cell 1
  have b2 : W3.cell? ⟨w.heap.size, 2, none⟩ = some (.slice A' n' c') := (hba1.pure_ hp13).cell 2
  have c0 : W3.cell? ⟨w.heap.size + 1, 0, none⟩ = some (.int .i64 at1) := (hbb1.pure_ hp13).cell 0
  have c1 : W3.cell? ⟨w.heap.size + 1, 1, none⟩ = some (.slice B m d) := (hbb1.pure_ hp13).cell 1
  have c2 : W3.cell? ⟨w.heap.size + 1, 2, none⟩ = some (.slice B' m' d') := (hbb1.pure_ hp13).cell 2
  clear a0 a1 a2
  go_wp2_with fail
  refine (join_any at0 A n c del A' n' c' ins S S' at1 B m d del1 B' m' d' ins1 T T' W3 (hr.pure_ hp03) (hr'.pure_ hp03) sn sn' (hq.pure_ hp03) (hq'.pure_ hp03) sm w0 w1 (fun _ => by unfold small; omega) (fun _ => by unfold small; omega)).mono ?_
  rintro e W4 ⟨X, nx, cx, X', nx', cx', rfl, hX, hX', hp34⟩
  rw [← HZ.out] at hX hX' ⊢
  rw [← HZI.out]
  clear b0 b1 b2 c0 c1 c2
  have hp04 := hp03.trans hp34
  have hp14 := hp13.trans hp34
  obtain ⟨W5, hW5⟩ : ∃ W5, W5 = W4.alloc (.cells #[.int .i64 z.at_, .slice X nx cx, .slice X' nx' cx'] 60) := ⟨_, rfl⟩
  have hp45 : Pure W4 W5 := by rw [hW5]; exact (Only.refl _ _).alloc _
  have hbx5 : Blk W5 W4.heap.size 60 #[.int .i64 z.at_, .slice X nx cx, .slice X' nx' cx'] := by rw [hW5]; exact Blk.new _ _ _
  have hp15 := hp14.trans hp45
  have hp05 := hp04.trans hp45
  have b0 : W5.cell? ⟨w.heap.size, 0, none⟩ = some (.int .i64 at0) := (hba1.pure_ hp15).cell 0
  have b1 : W5.cell? ⟨w.heap.size, 1, none⟩ = some (.slice A n c) := (hba1.pure_ hp15).cell 1
  have b2 : W5.cell? ⟨w.heap.size, 2, none⟩ = some (.slice A' n' c') := (hba1.pure_ hp15).cell 2
  have c0 : W5.cell? ⟨w.heap.size + 1, 0, none⟩ = some (.int .i64 at1) := (hbb1.pure_ hp15).cell 0
  have c1 : W5.cell? ⟨w.heap.size + 1, 1, none⟩ = some (.slice B m d) := (hbb1.pure_ hp15).cell 1
  have c2 : W5.cell? ⟨w.heap.size + 1, 2, none⟩ = some (.slice B' m' d') := (hbb1.pure_ hp15).cell 2
  rw [hW5] at b0 b1 b2 c0 c1 c2
  go_wp2_with fail
  rw [← hW5]
  clear b0 b1 b2 c0 c1 c2 hW5
  refine (rjoin_any at0 A n c del A' n' c' ins S S' at1 B m d del1 B' m' d' ins1 T T' W5 (hr.pure_ hp05) (hr'.pure_ hp05) (hq.pure_ hp05) (hq'.pure_ hp05) w0 w1 hn hn' hm hm').mono ?_
  rintro e W6 ⟨Y, ny, cy, Y', ny', cy', rfl, hY, hY', hp56⟩
  rw [← HZ.out] at hY hY' ⊢
  rw [← HZI.out]
  have hp06 := hp05.trans hp56
  have hp16 := hp15.trans hp56
  go_wp2
  obtain ⟨W, hW⟩ : ∃ W, W = W6.alloc (.cells #[.int .i64 z.at_, .slice Y ny cy, .slice Y' ny' cy'] 60) := ⟨_, rfl⟩
  rw [← hW]
  have hp6W : Pure W6 W := by rw [hW]; exact (Only.refl _ _).alloc _
  obtain ⟨p1, hp1e⟩ : ∃ p1, p1 = W4.heap.size := ⟨_, rfl⟩
  obtain ⟨p2, hp2e⟩ : ∃ p2, p2 = W6.heap.size := ⟨_, rfl⟩
  rw [← hp1e, ← hp2e]
  have hby : Blk W p2 60 #[.int .i64 z.at_, .slice Y ny cy, .slice Y' ny' cy'] := by rw [hW, hp2e]; exact Blk.new _ _ _
  have hbx : Blk W p1 60 #[.int .i64 z.at_, .slice X nx cx, .slice X' nx' cx'] := by rw [hp1e]; exact (hbx5.pure_ hp56).pure_ hp6W
  have hba := hba1.pure_ (hp16.trans hp6W)
  have hpW := hp06.trans hp6W
  clear hW hp1e hp2e
  have hz1 := joinE_len ⟨at0, del, ins⟩ ⟨at1, del1, ins1⟩
  rw [← HZ.out] at hz1
  simp only [HD.out, HI.out, HD1.out, HI1.out] at hz1
  have sx : small nx := by have h9 := hX.len; unfold small; omega
  have sx' : small nx' := by have h9 := hX'.len; unfold small; omega
  have sl1 : small l1 := by have h9 := hO1.len; have h8 := appOut_len (line := line) (e := ⟨at0, del, ins⟩); unfold small; omega
  replace hX := hX.pure_ ((hp45.trans hp56).trans hp6W)
  replace hX' := hX'.pure_ ((hp45.trans hp56).trans hp6W)
  replace hY := hY.pure_ hp6W
  replace hY' := hY'.pure_ hp6W
  replace hO1 := hO1.pure_ ((((hp23.trans hp34).trans hp45).trans hp56).trans hp6W)
  replace hO2 := hO2.pure_ (((hp34.trans hp45).trans hp56).trans hp6W)
  clear hz1
  have a0 : W.cell? ⟨w.heap.size, 0, none⟩ = some (.int .i64 at0) := (hba.pure_ (Only.refl _ _)).cell 0
  have a1 : W.cell? ⟨w.heap.size, 1, none⟩ = some (.slice A n c) := (hba.pure_ (Only.refl _ _)).cell 1
  have a2 : W.cell? ⟨w.heap.size, 2, none⟩ = some (.slice A' n' c') := (hba.pure_ (Only.refl _ _)).cell 2
  have x0 : W.cell? ⟨p1, 0, none⟩ = some (.int .i64 z.at_) := (hbx.pure_ (Only.refl _ _)).cell 0
  have x1 : W.cell? ⟨p1, 1, none⟩ = some (.slice X nx cx) := (hbx.pure_ (Only.refl _ _)).cell 1
  have x2 : W.cell? ⟨p1, 2, none⟩ = some (.slice X' nx' cx') := (hbx.pure_ (Only.refl _ _)).cell 2
  have y0 : W.cell? ⟨p2, 0, none⟩ = some (.int .i64 z.at_) := (hby.pure_ (Only.refl _ _)).cell 0
  have y1 : W.cell? ⟨p2, 1, none⟩ = some (.slice Y ny cy) := (hby.pure_ (Only.refl _ _)).cell 1
  have y2 : W.cell? ⟨p2, 2, none⟩ = some (.slice Y' ny' cy') := (hby.pure_ (Only.refl _ _)).cell 2
  go_region_held3 (fun V => V.cell? ⟨w.heap.size, 0, none⟩ = some (.int .i64 at0) ∧ V.cell? ⟨w.heap.size, 1, none⟩ = some (.slice A n c) ∧ V.cell? ⟨w.heap.size, 2, none⟩ = some (.slice A' n' c') ∧ V.cell? ⟨p1, 0, none⟩ = some (.int .i64 z.at_) ∧ V.cell? ⟨p1, 1, none⟩ = some (.slice X nx cx) ∧ V.cell? ⟨p1, 2, none⟩ = some (.slice X' nx' cx') ∧ V.cell? ⟨p2, 0, none⟩ = some (.int .i64 z.at_) ∧ V.cell? ⟨p2, 1, none⟩ = some (.slice Y ny cy) ∧ V.cell? ⟨p2, 2, none⟩ = some (.slice Y' ny' cy'))
    (first | go_keep | exact ⟨a0, a1, a2, x0, x1, x2, y0, y1, y2⟩)
    (first
      | (go_at_call 36; have hh := same_edit z.at_ X nx cx z.del X' nx' cx' z.ins _ _ z.at_ Y ny cy z.del Y' ny' cy' z.ins _ _ v5 (hX.pure_ hp5) (hX'.pure_ hp5) sx sx' (hY.pure_ hp5) (hY'.pure_ hp5); (refine Calls.mono hh ?_); clear hh; rintro e v6 ⟨rfl, hp56⟩; rw [same_refl]; have hp6 := hp5.trans hp56; have a0 : v6.cell? ⟨w.heap.size, 0, none⟩ = some (.int .i64 at0) := (hba.pure_ (hp6)).cell 0; have a1 : v6.cell? ⟨w.heap.size, 1, none⟩ = some (.slice A n c) := (hba.pure_ (hp6)).cell 1; have a2 : v6.cell? ⟨w.heap.size, 2, none⟩ = some (.slice A' n' c') := (hba.pure_ (hp6)).cell 2; have x0 : v6.cell? ⟨p1, 0, none⟩ = some (.int .i64 z.at_) := (hbx.pure_ (hp6)).cell 0; have x1 : v6.cell? ⟨p1, 1, none⟩ = some (.slice X nx cx) := (hbx.pure_ (hp6)).cell 1; have x2 : v6.cell? ⟨p1, 2, none⟩ = some (.slice X' nx' cx') := (hbx.pure_ (hp6)).cell 2; have y0 : v6.cell? ⟨p2, 0, none⟩ = some (.int .i64 z.at_) := (hby.pure_ (hp6)).cell 0; have y1 : v6.cell? ⟨p2, 1, none⟩ = some (.slice Y ny cy) := (hby.pure_ (hp6)).cell 1; have y2 : v6.cell? ⟨p2, 2, none⟩ = some (.slice Y' ny' cy') := (hby.pure_ (hp6)).cell 2)
      | (go_at_call 36; have hh := same_edit at0 I1 i1 j1 ins I1' i1' j1' del _ _ at0 I2 i2 j2 ins I2' i2' j2' del _ _ v4 hI1 hI1' si1 si1' hI2 hI2'; (refine Calls.mono hh ?_); clear hh; rintro e v5 ⟨rfl, hp45⟩; rw [same_refl]; have hp5 := hp4.trans hp45; have a0 : v5.cell? ⟨w.heap.size, 0, none⟩ = some (.int .i64 at0) := (hba.pure_ (hp5)).cell 0; have a1 : v5.cell? ⟨w.heap.size, 1, none⟩ = some (.slice A n c) := (hba.pure_ (hp5)).cell 1; have a2 : v5.cell? ⟨w.heap.size, 2, none⟩ = some (.slice A' n' c') := (hba.pure_ (hp5)).cell 2; have x0 : v5.cell? ⟨p1, 0, none⟩ = some (.int .i64 z.at_) := (hbx.pure_ (hp5)).cell 0; have x1 : v5.cell? ⟨p1, 1, none⟩ = some (.slice X nx cx) := (hbx.pure_ (hp5)).cell 1; have x2 : v5.cell? ⟨p1, 2, none⟩ = some (.slice X' nx' cx') := (hbx.pure_ (hp5)).cell 2; have y0 : v5.cell? ⟨p2, 0, none⟩ = some (.int .i64 z.at_) := (hby.pure_ (hp5)).cell 0; have y1 : v5.cell? ⟨p2, 1, none⟩ = some (.slice Y ny cy) := (hby.pure_ (hp5)).cell 1; have y2 : v5.cell? ⟨p2, 2, none⟩ = some (.slice Y' ny' cy') := (hby.pure_ (hp5)).cell 2)
      | (go_at_call 38; have hh := rinv_edit at0 A n c del A' n' c' ins S S' v3a (hr.pure_ (hpW.trans hp3a)) (hr'.pure_ (hpW.trans hp3a)) sn sn'; (refine Calls.mono hh ?_); clear hh; rintro e v4 ⟨I2, i2, j2, I2', i2', j2', rfl, hI2, hI2', hp34⟩; have hp4 := hp3a.trans hp34; have hI1 := hI1a.pure_ hp34; have hI1' := hI1a'.pure_ hp34; have si1 : small i1 := (by have h9 := hI1.len; rw [← h9, HI.out]; exact sn'); have si1' : small i1' := (by have h9 := hI1'.len; rw [← h9, HD.out]; exact sn); have a0 : v4.cell? ⟨w.heap.size, 0, none⟩ = some (.int .i64 at0) := (hba.pure_ (hp4)).cell 0; have a1 : v4.cell? ⟨w.heap.size, 1, none⟩ = some (.slice A n c) := (hba.pure_ (hp4)).cell 1; have a2 : v4.cell? ⟨w.heap.size, 2, none⟩ = some (.slice A' n' c') := (hba.pure_ (hp4)).cell 2; have x0 : v4.cell? ⟨p1, 0, none⟩ = some (.int .i64 z.at_) := (hbx.pure_ (hp4)).cell 0; have x1 : v4.cell? ⟨p1, 1, none⟩ = some (.slice X nx cx) := (hbx.pure_ (hp4)).cell 1; have x2 : v4.cell? ⟨p1, 2, none⟩ = some (.slice X' nx' cx') := (hbx.pure_ (hp4)).cell 2; have y0 : v4.cell? ⟨p2, 0, none⟩ = some (.int .i64 z.at_) := (hby.pure_ (hp4)).cell 0; have y1 : v4.cell? ⟨p2, 1, none⟩ = some (.slice Y ny cy) := (hby.pure_ (hp4)).cell 1; have y2 : v4.cell? ⟨p2, 2, none⟩ = some (.slice Y' ny' cy') := (hby.pure_ (hp4)).cell 2)
      | (go_at_call 37; have hh := inv_edit at0 A n c del A' n' c' ins S S' v3b (hr.pure_ (hpW.trans hp3b)) (hr'.pure_ (hpW.trans hp3b)) sn sn'; (refine Calls.mono hh ?_); clear hh; rintro e v4 ⟨I1, i1, j1, I1', i1', j1', rfl, hI1, hI1', hp34⟩; have hp4 := hp3b.trans hp34; have hI2 := hI2b.pure_ hp34; have hI2' := hI2b'.pure_ hp34; have si1 : small i1 := (by have h9 := hI1.len; rw [← h9, HI.out]; exact sn'); have si1' : small i1' := (by have h9 := hI1'.len; rw [← h9, HD.out]; exact sn); have a0 : v4.cell? ⟨w.heap.size, 0, none⟩ = some (.int .i64 at0) := (hba.pure_ (hp4)).cell 0; have a1 : v4.cell? ⟨w.heap.size, 1, none⟩ = some (.slice A n c) := (hba.pure_ (hp4)).cell 1; have a2 : v4.cell? ⟨w.heap.size, 2, none⟩ = some (.slice A' n' c') := (hba.pure_ (hp4)).cell 2; have x0 : v4.cell? ⟨p1, 0, none⟩ = some (.int .i64 z.at_) := (hbx.pure_ (hp4)).cell 0; have x1 : v4.cell? ⟨p1, 1, none⟩ = some (.slice X nx cx) := (hbx.pure_ (hp4)).cell 1; have x2 : v4.cell? ⟨p1, 2, none⟩ = some (.slice X' nx' cx') := (hbx.pure_ (hp4)).cell 2; have y0 : v4.cell? ⟨p2, 0, none⟩ = some (.int .i64 z.at_) := (hby.pure_ (hp4)).cell 0; have y1 : v4.cell? ⟨p2, 1, none⟩ = some (.slice Y ny cy) := (hby.pure_ (hp4)).cell 1; have y2 : v4.cell? ⟨p2, 2, none⟩ = some (.slice Y' ny' cy') := (hby.pure_ (hp4)).cell 2)
      | (go_at_call 37; have hh := inv_edit at0 A n c del A' n' c' ins S S' v2 (hr.pure_ (hpW.trans hp2)) (hr'.pure_ (hpW.trans hp2)) sn sn'; (refine Calls.mono hh ?_); clear hh; rintro e v3a ⟨I1, i1, j1, I1', i1', j1', rfl, hI1a, hI1a', hp23⟩; have hp3a := hp2.trans hp23; have a0 : v3a.cell? ⟨w.heap.size, 0, none⟩ = some (.int .i64 at0) := (hba.pure_ (hp3a)).cell 0; have a1 : v3a.cell? ⟨w.heap.size, 1, none⟩ = some (.slice A n c) := (hba.pure_ (hp3a)).cell 1; have a2 : v3a.cell? ⟨w.heap.size, 2, none⟩ = some (.slice A' n' c') := (hba.pure_ (hp3a)).cell 2; have x0 : v3a.cell? ⟨p1, 0, none⟩ = some (.int .i64 z.at_) := (hbx.pure_ (hp3a)).cell 0; have x1 : v3a.cell? ⟨p1, 1, none⟩ = some (.slice X nx cx) := (hbx.pure_ (hp3a)).cell 1; have x2 : v3a.cell? ⟨p1, 2, none⟩ = some (.slice X' nx' cx') := (hbx.pure_ (hp3a)).cell 2; have y0 : v3a.cell? ⟨p2, 0, none⟩ = some (.int .i64 z.at_) := (hby.pure_ (hp3a)).cell 0; have y1 : v3a.cell? ⟨p2, 1, none⟩ = some (.slice Y ny cy) := (hby.pure_ (hp3a)).cell 1; have y2 : v3a.cell? ⟨p2, 2, none⟩ = some (.slice Y' ny' cy') := (hby.pure_ (hp3a)).cell 2)
      | (go_at_call 38; have hh := rinv_edit at0 A n c del A' n' c' ins S S' v2 (hr.pure_ (hpW.trans hp2)) (hr'.pure_ (hpW.trans hp2)) sn sn'; (refine Calls.mono hh ?_); clear hh; rintro e v3b ⟨I2, i2, j2, I2', i2', j2', rfl, hI2b, hI2b', hp23⟩; have hp3b := hp2.trans hp23; have a0 : v3b.cell? ⟨w.heap.size, 0, none⟩ = some (.int .i64 at0) := (hba.pure_ (hp3b)).cell 0; have a1 : v3b.cell? ⟨w.heap.size, 1, none⟩ = some (.slice A n c) := (hba.pure_ (hp3b)).cell 1; have a2 : v3b.cell? ⟨w.heap.size, 2, none⟩ = some (.slice A' n' c') := (hba.pure_ (hp3b)).cell 2; have x0 : v3b.cell? ⟨p1, 0, none⟩ = some (.int .i64 z.at_) := (hbx.pure_ (hp3b)).cell 0; have x1 : v3b.cell? ⟨p1, 1, none⟩ = some (.slice X nx cx) := (hbx.pure_ (hp3b)).cell 1; have x2 : v3b.cell? ⟨p1, 2, none⟩ = some (.slice X' nx' cx') := (hbx.pure_ (hp3b)).cell 2; have y0 : v3b.cell? ⟨p2, 0, none⟩ = some (.int .i64 z.at_) := (hby.pure_ (hp3b)).cell 0; have y1 : v3b.cell? ⟨p2, 1, none⟩ = some (.slice Y ny cy) := (hby.pure_ (hp3b)).cell 1; have y2 : v3b.cell? ⟨p2, 2, none⟩ = some (.slice Y' ny' cy') := (hby.pure_ (hp3b)).cell 2)
      | (go_at_call 35; have hh := runes_any L1 l1 k1 (appOut line ⟨at0, del, ins⟩) _ L2 l2 k2 (appOut line ⟨at0, del, ins⟩) _ v1 (hO1.pure_ hp1) (hO2.pure_ hp1) sl1; (refine Calls.mono hh ?_); clear hh; rintro e v2 ⟨rfl, q2, rfl⟩; rw [show eqL (appOut line ⟨at0, del, ins⟩) (appOut line ⟨at0, del, ins⟩) = true from by simp [eqL]]; have hp2' := hp1.drewN q2; obtain ⟨v2, hv2⟩ : ∃ v2, v2 = v1.drewN q2 := ⟨_, rfl⟩; rw [← hv2] at hp2' ⊢; have hp2 := hp2'; clear hv2 hp2'; have a0 : v2.cell? ⟨w.heap.size, 0, none⟩ = some (.int .i64 at0) := (hba.pure_ (hp2)).cell 0; have a1 : v2.cell? ⟨w.heap.size, 1, none⟩ = some (.slice A n c) := (hba.pure_ (hp2)).cell 1; have a2 : v2.cell? ⟨w.heap.size, 2, none⟩ = some (.slice A' n' c') := (hba.pure_ (hp2)).cell 2; have x0 : v2.cell? ⟨p1, 0, none⟩ = some (.int .i64 z.at_) := (hbx.pure_ (hp2)).cell 0; have x1 : v2.cell? ⟨p1, 1, none⟩ = some (.slice X nx cx) := (hbx.pure_ (hp2)).cell 1; have x2 : v2.cell? ⟨p1, 2, none⟩ = some (.slice X' nx' cx') := (hbx.pure_ (hp2)).cell 2; have y0 : v2.cell? ⟨p2, 0, none⟩ = some (.int .i64 z.at_) := (hby.pure_ (hp2)).cell 0; have y1 : v2.cell? ⟨p2, 1, none⟩ = some (.slice Y ny cy) := (hby.pure_ (hp2)).cell 1; have y2 : v2.cell? ⟨p2, 2, none⟩ = some (.slice Y' ny' cy') := (hby.pure_ (hp2)).cell 2)
      | (go_at_call 34; refine (begun_any W.drew).mono ?_; rintro e v1 ⟨rfl, hp1'⟩; have hp1 := hp1'.ofDrew; have a0 : v1.cell? ⟨w.heap.size, 0, none⟩ = some (.int .i64 at0) := (hba.pure_ (hp1)).cell 0; have a1 : v1.cell? ⟨w.heap.size, 1, none⟩ = some (.slice A n c) := (hba.pure_ (hp1)).cell 1; have a2 : v1.cell? ⟨w.heap.size, 2, none⟩ = some (.slice A' n' c') := (hba.pure_ (hp1)).cell 2; have x0 : v1.cell? ⟨p1, 0, none⟩ = some (.int .i64 z.at_) := (hbx.pure_ (hp1)).cell 0; have x1 : v1.cell? ⟨p1, 1, none⟩ = some (.slice X nx cx) := (hbx.pure_ (hp1)).cell 1; have x2 : v1.cell? ⟨p1, 2, none⟩ = some (.slice X' nx' cx') := (hbx.pure_ (hp1)).cell 2; have y0 : v1.cell? ⟨p2, 0, none⟩ = some (.int .i64 z.at_) := (hby.pure_ (hp1)).cell 0; have y1 : v1.cell? ⟨p2, 1, none⟩ = some (.slice Y ny cy) := (hby.pure_ (hp1)).cell 1; have y2 : v1.cell? ⟨p2, 2, none⟩ = some (.slice Y' ny' cy') := (hby.pure_ (hp1)).cell 2))
  all_goals
    go_wp2
    go_ret
    exact ⟨rfl, hpW.trans hp6⟩

end Go.Proofs.Ytinlpmgchcbjpaa
