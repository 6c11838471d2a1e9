/- The reference list: Copy. -/
import Derived.Test.YtinlpmgchcbjpaaU33
import Derived.Test.YtinlpmgchcbjpaaU25
namespace Go.Proofs.Ytinlpmgchcbjpaa
open Go Go.RowKit
set_option maxHeartbeats 2000000
set_option maxRecDepth 100000

def RCopyDid (w : World) (gs : List (List Ed)) (now : List Ed) (op : Int) (e : Ending) (w' : World) : Prop :=
  ∃ p, e = .returned (.pointer (some ⟨p, 0, none⟩)) ∧ w.heap.size ≤ p ∧ RL w' (fun b => w.heap.size ≤ b ∧ b ≠ p) p gs now op ∧ Pure w w'

/-- While Copy goes on: the new box, k groups, j edits of the group that is open. -/
def Copying (w : World) (p : Nat) (gs : List (List Ed)) (now : List Ed) (op : Int) (k j : Nat) (X : World) : Prop :=
  ∃ A c Se An cn Sn, Blk X p 77 #[.slice A k c, .int .i64 op, .slice An j cn] ∧ OwnG 0 X A k c (gs.take k) Se ∧ OwnE 0 X An j cn (now.take j) Sn ∧
    (∀ b, Se b ∨ Sn b ∨ (Value.slice A k c).ownBlock = some b ∨ (Value.slice An j cn).ownBlock = some b → w.heap.size ≤ b ∧ b ≠ p) ∧
    (∀ b, (Value.slice An j cn).ownBlock = some b → ¬ Se b) ∧ (∀ b, (Value.slice A k c).ownBlock = some b → ¬ Sn b) ∧ Pure w X

set_option maxHeartbeats 4000000 in
theorem rcopy_any (g : Nat) (S : Nat → Prop) (gs : List (List Ed)) (now : List Ed) (op : Int) (w : World) (hU : RL w S g gs now op) :
    Calls Try.prog 61 #[.pointer (some ⟨g, 0, none⟩)] w (RCopyDid w gs now op) := by
  have hgw := hU.lt
  obtain ⟨h0, Ag, N, cg, An0, nn0, cn0, Sg, Sn0, hB, hG, hE, hS, q1, q2, q3, q4, q5, q6⟩ := hU
  have hle := tot_groups (now := now) q4
  have hlg := hG.len
  have hln := hE.len
  have hNI : (N : Int) ≤ 16384 := by omega
  have hnnI : (nn0 : Int) ≤ 16384 := by omega
  have hN : N ≤ 16384 := by omega
  have hnn : nn0 ≤ 16384 := by omega
  have hGr : RdG w (Old w) Ag N cg gs := RdK'.mono hG.rd fun b hb _ => hb
  have hEr : RdE w (Old w) An0 nn0 cn0 now := RdK'.mono hE.rd fun b hb _ => hb
  have e0 : w.cell? ⟨g, 0, none⟩ = some (.slice Ag N cg) := hB.cell 0
  have e1 : w.cell? ⟨g, 1, none⟩ = some (.int .i64 op) := hB.cell 1
  have hgl : ∀ x ∈ gs, x.length ≤ 16384 := fun x hx => by have := len_le_sum hx; unfold tot at q3; omega
  have HB := hid hB
  have HLG := hid hlg
  have HLN := hid hln
  have H3 := hid q3
  clear hB hG hE hS q1 q2 hle hlg hln q3
  go_enter Try.func61, Try.ntmps61
  go_wp2
  have hC0 : Copying w w.heap.size gs now op 0 0 (w.alloc (.cells #[.slice none 0 0, .int .i64 op, .slice none 0 0] 77)) := by
    refine ⟨none, 0, fun _ => False, none, 0, fun _ => False, Blk.new _ _ _, by rw [List.take_zero]; exact OwnK.nil _ _, by rw [List.take_zero]; exact OwnK.nil _ _, fun b hb => ?_, fun b hb => ?_, fun b hb => ?_, (Only.refl _ w).alloc _⟩
    · rcases hb with hb | hb | hb | hb
      · exact hb.elim
      · exact hb.elim
      · simp [Value.ownBlock] at hb
      · simp [Value.ownBlock] at hb
    · simp [Value.ownBlock] at hb
    · simp [Value.ownBlock] at hb
  go_loopw [4] (fun i wr => ∃ k : Nat, k ≤ N ∧ i = .int .i64 k ∧ Copying w w.heap.size gs now op k 0 wr) (fun i _ => N - (intOf i).toNat)
  case atStart => exact ⟨0, Nat.zero_le _, rfl, hC0⟩
  case round =>
    clear hC0
    obtain ⟨k, hk, rfl, hC⟩ := hrel
    by_cases hlt : k < N
    · obtain ⟨A, c, Se, An, cn, Sn, hX, hO, hOn, hSS, u1, u2, hp⟩ := hC
      obtain ⟨gx, ox, a, m, d, rfl, hgx, _, hc, hx⟩ := RdG.at_ hGr hlt
      have hkI : (k : Int) < N := by omega
      have d0 : wr.cell? ⟨g, 0, none⟩ = some (.slice (some ⟨gx, ox, none⟩) N cg) := (HB.out.pure_ hp).cell 0
      have hkl : k < gs.length := by rw [HLG.out]; exact hlt
      have ht := take_ed gs [] k hkl
      have hmem : gs[k]?.getD [] ∈ gs := by rw [List.getElem?_eq_getElem hkl]; exact List.getElem_mem _
      have hm : m ≤ 16384 := by have h1 := hx.1; have := hgl _ hmem; omega
      have hfx := q5 _ hmem
      obtain ⟨x, hxe⟩ : ∃ x, x = gs[k]?.getD [] := ⟨_, rfl⟩
      rw [← hxe] at hx ht hfx
      have HT := hid ht
      have hxl := hx.1
      have HXL := hid hxl
      have hmI : (m : Int) ≤ 16384 := by omega
      have hps := hp.size
      obtain ⟨B0, hB0⟩ : ∃ B0, B0 = wr.heap.size := ⟨_, rfl⟩
      have hAlk : ∀ b, (Value.slice A k c).ownBlock = some b → b < B0 := fun b hb => by rw [hB0]; exact hO.lt b hb
      have HB0 := hid hB0
      clear ht hxe hmem hxl hkl hB0
      go_wp2
      go_loopw [5, 6] (fun v j W => ∃ (q : Nat) (A2 : Option Addr) (c2 : Nat) (Se2 : Nat → Prop), q ≤ m ∧ j = .int .i64 q ∧ v = .slice A2 q c2 ∧ OwnE B0 W A2 q c2 (x.take q) Se2 ∧ (∀ b, Se2 b → B0 ≤ b) ∧ Pure wr W) (fun _ j _ => m - (intOf j).toNat)
      case atStart => exact ⟨0, none, 0, fun _ => False, Nat.zero_le _, rfl, rfl, by rw [List.take_zero]; exact OwnK.nil _ _, fun _ h => h.elim, Only.refl _ _⟩
      case round =>
        obtain ⟨q, A2, c2, Se2, hq, rfl, rfl, hO2, hSe2, hpW⟩ := hrel
        have hpw := hp.trans hpW
        have d0' : wr.cell? ⟨g, 0, none⟩ = some (.slice (some ⟨gx, ox, none⟩) N cg) := (HB.out.pure_ hpw).cell 0
        have hc' : wr.cell? ⟨gx, ox + k, none⟩ = some (.slice a m d) := (hpw.cell (p := ⟨gx, ox + k, none⟩) hgx (fun x => x)).trans hc
        have hsW := hpW.size
        have hsB := HB0.out
        by_cases hlq : q < m
        · obtain ⟨gy, oy, a1, m1, d1, a2, m2, d2, rfl, hgy, _, hc0, hc1, hc2, hr1, hr2⟩ := RdE.at_ (RdK'.pure_ hx hpw) hlq
          have hqI : (q : Int) < m := by omega
          have hql : q < x.length := by rw [HXL.out]; exact hlq
          have htq := take_ed x Ed.none q hql
          have hfj : (x[q]?.getD Ed.none).fit := by rw [List.getElem?_eq_getElem hql]; exact hfx _ (List.getElem_mem _)
          obtain ⟨ej, hej⟩ : ∃ v, v = x[q]?.getD Ed.none := ⟨_, rfl⟩
          rw [← hej] at hc0 hr1 hr2 hfj htq
          have s1 : small m1 := by rw [← hr1.len]; exact hfj.1
          have s2 : small m2 := by rw [← hr2.len]; exact hfj.2
          obtain ⟨hl, vs, hown, hes, hd1, hd2⟩ := hO2
          have HL := hid hl
          have HTQ := hid htq
          have hAl : ∀ b, (Value.slice A2 q c2).ownBlock = some b → B0 ≤ b ∧ b < wr.heap.size := fun b hb => hown.lt b hb
          clear hl htq hej hfj hql
          go_wp2_with (first
            | (go_at_call 41; refine (rclone_edit ej.at_ a1 m1 d1 ej.del a2 m2 d2 ej.ins _ _ wr hr1 hr2 s1 s2).mono ?_; rintro e w3 ⟨A3, n3, c3, A4, n4, c4, rfl, hR3, hR4, hp3⟩; have hs3 := hp3.size)
            | (at_builtin; refine halt2 ?_))
          intro _
          refine appendE (.tmp 35) (.tmp 47) rfl rfl _ (.slice A2 q c2) q vs rfl (own_only hown (hp3.trans ((Only.refl (fun _ => False) w3).alloc _)) fun _ _ x => x) _ (some ⟨w3.heap.size, 0, none⟩) 1 1 [.int .i64 ej.at_, .slice A3 n3 c3, .slice A4 n4 c4] (by rfl) (Rd.row w3 60 #[.int .i64 ej.at_, .slice A3 n3 c3, .slice A4 n4 c4]) (by simp [Value.oneCell']) (by unfold maxLen; omega) (by omega) (by simp; omega) ?_
          intro A5 c5 w5 ho5 hp5 hat5
          have hR3t := RdI.mono hR3 (S' := fun b => wr.heap.size ≤ b ∧ b < w3.heap.size) fun b hb h => ⟨h, hb⟩
          have hR4t := RdI.mono hR4 (S' := fun b => wr.heap.size ≤ b ∧ b < w3.heap.size) fun b hb h => ⟨h, hb⟩
          have hst := OwnK.step (K := edKind) (z := Ed.none) (Se := Se2) HL.out hown hes hd1 hd2 hp3 (x := ej) (Sx := fun b => wr.heap.size ≤ b ∧ b < w3.heap.size) ⟨A3, n3, c3, A4, n4, c4, rfl, hR3t, hR4t⟩ rfl (fun b hb => ⟨by omega, fun e => by have := hAl b e; omega⟩) ((Only.refl (fun _ => False) _).alloc _) ho5 hp5 hat5
          rw [← HTQ.out] at hst
          have hp5' := (hpW.trans (hp3.trans ((Only.refl (fun _ => False) w3).alloc (.cells #[.int .i64 ej.at_, .slice A3 n3 c3, .slice A4 n4 c4] 60)))).then_ hp5 fun i hi e => by have := (hAl i e).1; omega
          clear ho5 hp5 hat5 hown hes
          go_wp2
          go_roundw
          case rel => exact ⟨q + 1, A5, c5, _, by omega, by go_num, rfl, hst, fun b hb => by
            rcases hb with hb | hb
            · exact hSe2 b hb
            · omega, hp5'⟩
          case measure => simp [intOf] <;> omega
        · obtain rfl : m = q := by omega
          rw [List.take_of_length_le (by rw [HXL.out]; exact Nat.le_refl _)] at hO2
          have hXw := hX.pure_ hpW
          have hOw := hO.pure_ hpW
          have hOnw := hOn.pure_ hpW
          have v0 : wr.cell? ⟨w.heap.size, 0, none⟩ = some (.slice A k c) := hXw.cell 0
          obtain ⟨hl, vs, hown, hes, hd1, hd2⟩ := hOw
          have HL := hid hl
          have hAp : ¬ (Value.slice A k c).ownBlock = some w.heap.size := fun e => (hSS _ (.inr (.inr (.inl e)))).2 rfl
          clear hl
          go_wp2_with (at_builtin; refine halt2 ?_)
          intro _
          refine appendG (.tmp 53) (.tmp 55) rfl rfl 0 (.slice A k c) k vs rfl (own_only hown ((Only.refl (fun _ => False) wr).alloc _) fun _ _ x => x) _ (some ⟨wr.heap.size, 0, none⟩) 1 1 [.slice A2 m c2] (by rfl) (Rd.one wr _ _) (by simp [Value.oneCell']) (by unfold maxLen; omega) (by omega) (Nat.zero_le _) ?_
          intro A5 c5 w5 ho5 hp5 hat5
          have hSx : ∀ b, (Se2 b ∨ (Value.slice A2 m c2).ownBlock = some b) → B0 ≤ b ∧ b < wr.heap.size := by
            rintro b (hb | hb)
            · exact ⟨hSe2 b hb, hO2.2.choose_spec.2.2.2 b hb⟩
            · exact hO2.2.choose_spec.1.lt b hb
          have hst := OwnK.step (K := grKind) (z := []) HL.out hown hes hd1 hd2 (Only.refl _ wr) (x := x) (Sx := fun b => Se2 b ∨ (Value.slice A2 m c2).ownBlock = some b) ⟨A2, m, c2, rfl, hO2.rd⟩ rfl (fun b hb => ⟨(hSx b hb).2, fun e => by have := hAlk b e; have := (hSx b hb).1; omega⟩) ((Only.refl (fun _ => False) wr).alloc (.cells #[.slice A2 m c2] 71)) ho5 hp5 hat5
          rw [← HT.out] at hst
          have hq5 : Only (fun b => (Value.slice A k c).ownBlock = some b) wr w5 := ((Only.refl _ wr).alloc _).then_ hp5 fun i _ e => e
          have hX5 := hXw.only hq5 hAp
          have hOn5 := hOnw.only hq5 (fun b hb e => u2 b e hb) (fun b hb e => own_types hOnw.2.choose_spec.1 hown (by decide) b hb e)
          have v5 : w5.cell? ⟨w.heap.size, 0, none⟩ = some (.slice A k c) := hX5.cell 0
          have f5 := hX5.frozen 0
          have hs5 := hq5.size
          have hO1 : Only (fun b => b = w.heap.size) w5 (w5.setCell ⟨w.heap.size, 0, none⟩ (.slice A5 (k + 1) c5)) := (Only.refl _ w5).set 0 _
          have hSA : ∀ b, (Value.slice A5 (k + 1) c5).ownBlock = some b → (Value.slice A k c).ownBlock = some b ∨ b = wr.heap.size + 1 := by
            intro b hb
            rcases hat5 with h | h
            · rw [h] at hb; exact .inl hb
            · rw [h] at hb; injection hb with hb; simp at hb; exact .inr hb.symm
          have hXl := hX.lt
          have hall : ∀ b, (Se b ∨ (Se2 b ∨ (Value.slice A2 m c2).ownBlock = some b)) ∨ Sn b ∨ (Value.slice A5 (k + 1) c5).ownBlock = some b ∨ (Value.slice An 0 cn).ownBlock = some b → w.heap.size ≤ b ∧ b ≠ w.heap.size := by
            rintro b ((hb | hb) | hb | hb | hb)
            · exact hSS b (.inl hb)
            · have := (hSx b hb).1; omega
            · exact hSS b (.inr (.inl hb))
            · rcases hSA b hb with h | h
              · exact hSS b (.inr (.inr (.inl h)))
              · omega
            · exact hSS b (.inr (.inr (.inr hb)))
          have hCn : Copying w w.heap.size gs now op (k + 1) 0 (w5.setCell ⟨w.heap.size, 0, none⟩ (.slice A5 (k + 1) c5)) := by
            refine ⟨A5, c5, _, An, cn, Sn, by simpa using hX5.set_ 0 (.slice A5 (k + 1) c5), hst.only hO1 (fun b hb e => (hall b (.inl hb)).2 e) (fun b hb e => (hall b (.inr (.inr (.inl hb)))).2 e), hOn5.only hO1 (fun b hb e => (hall b (.inr (.inl hb))).2 e) (fun b hb e => (hall b (.inr (.inr (.inr hb)))).2 e), hall, ?_, ?_, ?_⟩
            · intro b hb h
              rcases h with h | h
              · exact u1 b hb h
              · have h1 := hOn.lt b hb; have := (hSx b h).1; omega
            · intro b hb h
              rcases hSA b hb with h2 | h2
              · exact u2 b h2 h
              · have := hOn.2.choose_spec.2.2.2 b h; omega
            · exact (hpw.then_ hq5 fun i hi e => by have := (hSS i (.inr (.inr (.inl e)))).1; omega).then_ hO1 fun i hi e => by omega
          clear ho5 hp5 hat5 hown hes hst hX5 hOn5 hXw hOnw hall hq5 v0 d0' hc'
          go_wp2
          go_roundw
          case rel => exact ⟨k + 1, by omega, by go_num, hCn⟩
          case measure => simp [intOf] <;> omega
    · obtain rfl : N = k := by omega
      have hgt : gs.take N = gs := by rw [← HLG.out, List.take_length]
      have HGT := hid hgt
      have hgp : Pure w wr := by obtain ⟨_, _, _, _, _, _, _, _, _, _, _, _, h⟩ := hC; exact h
      have d0 : wr.cell? ⟨g, 0, none⟩ = some (.slice Ag N cg) := (HB.out.pure_ hgp).cell 0
      clear hgt
      go_wp2
      go_loopw [7] (fun i wr => ∃ j : Nat, j ≤ nn0 ∧ i = .int .i64 j ∧ Copying w w.heap.size gs now op N j wr) (fun i _ => nn0 - (intOf i).toNat)
      case atStart => exact ⟨0, Nat.zero_le _, rfl, hC⟩
      case round =>
        clear hC hgp d0
        obtain ⟨j, hj, rfl, hC⟩ := hrel
        obtain ⟨A, c, Se, An, cn, Sn, hX, hO, hOn, hSS, u1, u2, hp⟩ := hC
        have d2 : wr.cell? ⟨g, 2, none⟩ = some (.slice An0 nn0 cn0) := (HB.out.pure_ hp).cell 2
        have hps := hp.size
        by_cases hlj : j < nn0
        · obtain ⟨gy, oy, a1, m1, d1, a2, m2, d2', rfl, hgy, _, hc0, hc1, hc2, hr1, hr2⟩ := RdE.at_ (RdK'.pure_ hEr hp) hlj
          have hjI : (j : Int) < nn0 := by omega
          have hjl : j < now.length := by rw [HLN.out]; exact hlj
          have htq := take_ed now Ed.none j hjl
          have hfj : (now[j]?.getD Ed.none).fit := by rw [List.getElem?_eq_getElem hjl]; exact q6 _ (List.getElem_mem _)
          obtain ⟨ej, hej⟩ : ∃ v, v = now[j]?.getD Ed.none := ⟨_, rfl⟩
          rw [← hej] at hc0 hr1 hr2 hfj htq
          have s1 : small m1 := by rw [← hr1.len]; exact hfj.1
          have s2 : small m2 := by rw [← hr2.len]; exact hfj.2
          have v2 : wr.cell? ⟨w.heap.size, 2, none⟩ = some (.slice An j cn) := hX.cell 2
          have hXl := hX.lt
          have hgl2 : g < wr.heap.size := by omega
          have hgy2 : gy < wr.heap.size := hgy
          obtain ⟨hl, vs, hown, hes, hd1, hd2⟩ := hOn
          have HL := hid hl
          have HTQ := hid htq
          have hAl : ∀ b, (Value.slice An j cn).ownBlock = some b → b < wr.heap.size := fun b hb => (hown.lt b hb).2
          have hAp : ¬ (Value.slice An j cn).ownBlock = some w.heap.size := fun e => (hSS _ (.inr (.inr (.inr e)))).2 rfl
          clear hl htq hej hfj hjl
          go_wp2
          go_region_law (first
            | ((refine stepE (.tmp 72) (.tmp 81) (by rfl) (by rfl) 0 (.slice An j cn) j vs (by go_simp) (own_only hown (hp3'.trans ((Only.refl (fun _ => False) w3).alloc _)) fun _ _ x => x) _ (some ⟨w3.heap.size, 0, none⟩) 1 1 [.int .i64 ej.at_, .slice A3 n3 c3, .slice A4 n4 c4] (by go_simp) (Rd.row w3 60 #[.int .i64 ej.at_, .slice A3 n3 c3, .slice A4 n4 c4]) (by simp [Value.oneCell']) (by unfold maxLen; omega) (by omega) (Nat.zero_le _) ?_; intro A5 c5 w5 ho5 hp5 hat5; have hq5 : Only (fun b => (Value.slice An j cn).ownBlock = some b) wr w5 := (Only.of_pure (hp3'.trans ((Only.refl (fun _ => False) w3).alloc _))).then_ hp5 fun i _ e => e; have hX5 := hX.only hq5 hAp; have i0 : w5.cell? ⟨w.heap.size, 2, none⟩ = some (.slice An j cn) := hX5.cell 2; have j0 := hX5.frozen 2; have HX5 := hid hX5; clear hX5))
            | (go_simp; go_at_call 41; refine (rclone_edit ej.at_ a1 m1 d1 ej.del a2 m2 d2' ej.ins _ _ wr.drew (hr1.pure_ (Only.refl _ _).drew) (hr2.pure_ (Only.refl _ _).drew) s1 s2).mono ?_; rintro e w3 ⟨A3, n3, c3, A4, n4, c4, rfl, hR3, hR4, hp3⟩; have hp3' := hp3.ofDrew; have hg3 := Nat.lt_of_lt_of_le hXl hp3'.size; have v3 := (hp3'.cell (p := ⟨w.heap.size, 2, none⟩) hXl (fun x => x)).trans v2))
          all_goals
            go_wp2
            have hs3 := hp3'.size
            have hR3t := RdI.mono hR3 (S' := fun b => wr.heap.size ≤ b ∧ b < w3.heap.size) fun b hb h => ⟨h, hb⟩
            have hR4t := RdI.mono hR4 (S' := fun b => wr.heap.size ≤ b ∧ b < w3.heap.size) fun b hb h => ⟨h, hb⟩
            have hst := OwnK.step (K := edKind) (z := Ed.none) (Se := Sn) HL.out hown hes hd1 hd2 hp3' (x := ej) (Sx := fun b => wr.heap.size ≤ b ∧ b < w3.heap.size) ⟨A3, n3, c3, A4, n4, c4, rfl, hR3t, hR4t⟩ rfl (fun b hb => ⟨by omega, fun e => by have := hAl b e; omega⟩) ((Only.refl (fun _ => False) _).alloc _) ho5 hp5 hat5
            rw [← HTQ.out] at hst
            have hO5 := hO.only hq5 (fun b hb e => u1 b e hb) (fun b hb e => own_types hO.2.choose_spec.1 hown (by decide) b hb e)
            have hO1 : Only (fun b => b = w.heap.size) w5 (w5.setCell ⟨w.heap.size, 2, none⟩ (.slice A5 (j + 1) c5)) := (Only.refl _ w5).set 2 _
            have hSA : ∀ b, (Value.slice A5 (j + 1) c5).ownBlock = some b → (Value.slice An j cn).ownBlock = some b ∨ wr.heap.size ≤ b := by
              intro b hb
              rcases hat5 with h | h
              · rw [h] at hb; exact .inl hb
              · rw [h] at hb; injection hb with hb; simp at hb; exact .inr (by omega)
            have hall : ∀ b, Se b ∨ (Sn b ∨ (wr.heap.size ≤ b ∧ b < w3.heap.size)) ∨ (Value.slice A N c).ownBlock = some b ∨ (Value.slice A5 (j + 1) c5).ownBlock = some b → w.heap.size ≤ b ∧ b ≠ w.heap.size := by
              rintro b (hb | (hb | hb) | hb | hb)
              · exact hSS b (.inl hb)
              · exact hSS b (.inr (.inl hb))
              · omega
              · exact hSS b (.inr (.inr (.inl hb)))
              · rcases hSA b hb with h | h
                · exact hSS b (.inr (.inr (.inr h)))
                · omega
            have hCn : Copying w w.heap.size gs now op N (j + 1) (w5.setCell ⟨w.heap.size, 2, none⟩ (.slice A5 (j + 1) c5)) := by
              refine ⟨A, c, Se, A5, c5, _, by simpa using HX5.out.set_ 2 (.slice A5 (j + 1) c5), hO5.only hO1 (fun b hb e => (hall b (.inl hb)).2 e) (fun b hb e => (hall b (.inr (.inr (.inl hb)))).2 e), hst.only hO1 (fun b hb e => (hall b (.inr (.inl hb))).2 e) (fun b hb e => (hall b (.inr (.inr (.inr hb)))).2 e), hall, ?_, ?_, ?_⟩
              · intro b hb h
                rcases hSA b hb with h2 | h2
                · exact u1 b h2 h
                · have := hO.2.choose_spec.2.2.2 b h; omega
              · intro b hb h
                have h1 := hO.lt b hb
                rcases h with h | h
                · exact u2 b hb h
                · omega
              · exact (hp.then_ hq5 fun i hi e => by have := (hSS i (.inr (.inr (.inr e)))).1; omega).then_ hO1 fun i hi e => by omega
            clear ho5 hp5 hat5 hst hO5 hall hq5
            go_roundw
            case rel => exact ⟨j + 1, by omega, by go_num, hCn⟩
            case measure => simp [intOf] <;> omega
        · obtain rfl : nn0 = j := by omega
          rw [HGT.out] at hO
          rw [List.take_of_length_le (by rw [HLN.out]; exact Nat.le_refl _)] at hOn
          go_wp2
          go_ret
          exact ⟨w.heap.size, rfl, Nat.le_refl _, ⟨fun h => h.2 rfl, A, N, c, An, nn0, cn, Se, Sn, hX, hO, hOn, hSS, u1, u2, H3.out, q4, q5, q6⟩, hp⟩

end Go.Proofs.Ytinlpmgchcbjpaa
