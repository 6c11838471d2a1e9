/- The reference list: Add, in an open group; Add, whole. -/
import Derived.Test.YtinlpmgchcbjpaaU31
namespace Go.Proofs.Ytinlpmgchcbjpaa
open Go Go.RowKit
set_option maxHeartbeats 2000000
set_option maxRecDepth 100000

theorem radd_now (g : Nat) (S : Nat → Prop) (gs : List (List Ed)) (now : List Ed) (op : Int) (at0 : Int) (A : Option Addr) (n c : Nat) (del : List Int) (A' : Option Addr) (n' c' : Nat) (ins : List Int) (T T' : Nat → Prop) (w : World)
    (hU : RL w S g gs now op) (hr : RdI w T A n c del) (hr' : RdI w T' A' n' c' ins) (hn : small n) (hn' : small n') (hok : ¬ ((del = [] ∧ ins = []) ∨ at0 < 0)) (hroom : tot gs now < 16384) (hop : 0 < op) :
    Calls Try.prog 43 #[.pointer (some ⟨g, 0, none⟩), .agg #[.int .i64 at0, .slice A n c, .slice A' n' c']] w (RAddDid w S g gs now op ⟨at0, del, ins⟩) := by
  have hcode : addCode ⟨at0, del, ins⟩ (tot gs now) = 0 := by unfold addCode; rw [if_neg hok, if_neg (by omega)]
  have hpost : RAddDid w S g gs now op ⟨at0, del, ins⟩ = RLDid w S g gs (now ++ [⟨at0, del, ins⟩]) op (.int .i64 0) := by funext r w'; unfold RAddDid addG addN; rw [hcode, if_pos rfl, if_pos hop, if_pos hop]
  rw [hpost]
  have hnI : (n : Int) ≤ 35184372088832 := by unfold small at hn; omega
  have hnI' : (n' : Int) ≤ 35184372088832 := by unfold small at hn'; omega
  have hp1 : Pure w (w.alloc (.cells #[.int .i64 at0, .slice A n c, .slice A' n' c'] 60)) := (Only.refl _ w).alloc _
  have hU1 := hU.pure_ hp1
  have c1 := hU1.c1
  have h1 := hr.len
  have h2 := hr'.len
  have hat : ¬ at0 < 0 := fun h => hok (.inr h)
  have hz0 : (n : Int) = 0 → ((n' : Int) == 0) = false := fun h => by
    rw [beq_eq_false_iff_ne]; intro h'
    exact hok (.inl ⟨List.eq_nil_of_length_eq_zero (by omega), List.eq_nil_of_length_eq_zero (by omega)⟩)
  obtain ⟨t, ht⟩ : ∃ t, t = tot gs now := ⟨_, rfl⟩
  rw [← ht] at hroom
  have hfI : ¬ (16384 : Int) ≤ (t : Int) := by omega
  have htI : (t : Int) ≤ 16384 := by omega
  have hgw := hU.lt
  clear h1 h2 hpost hcode hok
  have HT := hid ht
  clear ht
  obtain ⟨w1, hw1⟩ : ∃ w1, w1 = w.alloc (.cells #[.int .i64 at0, .slice A n c, .slice A' n' c'] 60) := ⟨_, rfl⟩
  rw [← hw1] at hU1 c1
  have hp01 : Pure w w1 := by rw [hw1]; exact (Only.refl _ w).alloc _
  have ho1 : Only (fun b => b = g) w w1 := Only.of_pure hp01
  have hbx : Blk w1 w.heap.size 60 #[.int .i64 at0, .slice A n c, .slice A' n' c'] := by rw [hw1]; exact Blk.new _ _ _
  obtain ⟨h0, Ag, ng, cg, An, nn, cn, Sg, Sn, hB, hG, hE, hS, q1, q2, q3, q4, q5, q6⟩ := hU
  have hB1 := hB.only hp01 fun e => e
  have d0 : w1.cell? ⟨g, 2, none⟩ = some (.slice An nn cn) := hB1.cell 2
  have e0 : w1.cell? ⟨w.heap.size, 0, none⟩ = some (.int .i64 at0) := hbx.cell 0
  have e1 : w1.cell? ⟨w.heap.size, 1, none⟩ = some (.slice A n c) := hbx.cell 1
  have e2 : w1.cell? ⟨w.heap.size, 2, none⟩ = some (.slice A' n' c') := hbx.cell 2
  have hr1 := hr.pure_ hp01
  have hr1' := hr'.pure_ hp01
  have hg1 := hB1.lt
  have hx1 := hbx.lt
  obtain ⟨hln', vs, hown, hes, hd1, hd2⟩ := hE
  have hown1 := own_only hown ho1 fun b hb e => h0 (e ▸ hS b (.inr (.inr (.inr hb))))
  have hle := tot_groups (now := now) q4
  have HLE := hid hle
  have HLN := hid hln'
  have hnnI : (nn : Int) ≤ 16384 := by have := HT.out; omega
  clear hle hln'
  have HB1 := hid hB1
  have hgA : ¬ (Value.slice An nn cn).ownBlock = some g := fun e => h0 (hS g (.inr (.inr (.inr e))))
  have hAl : ∀ b, (Value.slice An nn cn).ownBlock = some b → b < w.heap.size := fun b hb => (hown.lt b hb).2
  have s1 := ho1.size
  clear hB1 hbx
  have HZ := hid hz0
  have HW1 := hid hw1
  clear hz0 hw1
  by_cases hz : (n : Int) = 0
  · have hs1 : ((n : Int) == 0) = true := by rw [hz]; rfl
    have hs2 := HZ.out hz
    clear hz
    go_enter Try.func43, Try.ntmps43
    go_wp2_with (go_at_call 63; rw [← HW1.out]; refine (redits_any g _ _ _ _ _ hU1).mono ?_; rintro e w' ⟨rfl, rfl⟩; rw [← HT.out])
    go_region_law (first
      | ((refine stepE (.tmp 34) (.tmp 37) (by rfl) (by rfl) 0 (.slice An nn cn) nn vs (by go_simp) (own_only hown1 (hp3'.trans ((Only.refl (fun _ => False) w3).alloc _)) fun _ _ x => x) _ (some ⟨w3.heap.size, 0, none⟩) 1 1 [.int .i64 at0, .slice A3 n3 c3, .slice A4 n4 c4] (by go_simp) (Rd.row w3 60 #[.int .i64 at0, .slice A3 n3 c3, .slice A4 n4 c4]) (by simp [Value.oneCell']) (by unfold maxLen; omega) (by omega) (Nat.zero_le _) ?_; intro A5 c5 w5 ho5 hp5 hat5; have hq5 : Only (fun b => (Value.slice An nn cn).ownBlock = some b) w1 w5 := (Only.of_pure (hp3'.trans ((Only.refl (fun _ => False) w3).alloc _))).then_ hp5 fun i _ e => e; have hB5 := HB1.out.only hq5 hgA; have i0 : w5.cell? ⟨g, 2, none⟩ = some (.slice An nn cn) := hB5.cell 2; have j0 := hB5.frozen 2; have HB5 := hid hB5; clear hB5))
      | (go_simp; go_at_call 41; refine (rclone_edit at0 A n c del A' n' c' ins T T' w1.drew (hr1.pure_ (Only.refl _ _).drew) (hr1'.pure_ (Only.refl _ _).drew) hn hn').mono ?_; rintro e w3 ⟨A3, n3, c3, A4, n4, c4, rfl, hR3, hR4, hp3⟩; have hp3' := hp3.ofDrew; have hg3 := Nat.lt_of_lt_of_le hg1 hp3'.size; have d3 := (hp3'.cell (p := ⟨g, 2, none⟩) hg1 (fun x => x)).trans d0))
    all_goals
      go_wp2
      go_ret
      have hR3t := RdI.mono hR3 (S' := fun b => w1.heap.size ≤ b ∧ b < w3.heap.size) fun b hb h => ⟨h, hb⟩
      have hR4t := RdI.mono hR4 (S' := fun b => w1.heap.size ≤ b ∧ b < w3.heap.size) fun b hb h => ⟨h, hb⟩
      have s3 := hp3'.size
      have hst := OwnK.step (K := edKind) (z := Ed.none) (Se := Sn) HLN.out hown1 (fun j hj => edKind.only (hes j hj) ho1 fun b hb _ e => h0 (e ▸ hS b (.inr (.inl hb)))) hd1 (fun b hb => Nat.lt_of_lt_of_le (hd2 b hb) s1) hp3'
        (x := ⟨at0, del, ins⟩) (Sx := fun b => w1.heap.size ≤ b ∧ b < w3.heap.size) ⟨A3, n3, c3, A4, n4, c4, rfl, hR3t, hR4t⟩ rfl
        (fun b hb => ⟨by omega, fun e => by have := hAl b e; omega⟩) ((Only.refl (fun _ => False) _).alloc _) ho5 hp5 hat5
      have ho : Only (fun b => b = g) w5 (w5.setCell ⟨g, 2, none⟩ (.slice A5 (nn + 1) c5)) := (Only.refl _ w5).set 2 _
      have hq05 : Only (fun b => S b ∨ b = g) w w5 := (ho1.mono fun _ _ e => .inr e).trans (hq5.mono fun b _ e => .inl (hS b (.inr (.inr (.inr e)))))
      have s5 := hq05.size
      have hSA : ∀ b, (Value.slice A5 (nn + 1) c5).ownBlock = some b → b ≠ g ∧ ((Value.slice An nn cn).ownBlock = some b ∨ w.heap.size ≤ b) := by
        intro b hb
        rcases hat5 with h | h
        · rw [h] at hb; exact ⟨fun e => hgA (e ▸ hb), .inl hb⟩
        · rw [h] at hb; injection hb with hb; simp at hb; exact ⟨by omega, .inr (by omega)⟩
      have hG5 := (hG.only ho1 (fun b hb e => h0 (e ▸ hS b (.inl hb))) (fun b hb e => h0 (e ▸ hS b (.inr (.inr (.inl hb)))))).only hq5 (fun b hb e => q1 b e hb) (fun b hb e => own_types hG.2.choose_spec.1 hown (by decide) b hb e)
      refine ⟨rfl, ⟨?_, Ag, ng, cg, A5, nn + 1, c5, Sg, _, ?_, hG5.only ho (fun b hb e => h0 (e ▸ hS b (.inl hb))) (fun b hb e => h0 (e ▸ hS b (.inr (.inr (.inl hb))))), hst.only ho (fun b hb e => ?_) (fun b hb e => (hSA b hb).1 e), ?_, ?_, ?_, ?_, q4, q5, ?_⟩, hq05.trans (ho.mono fun _ _ e => .inr e)⟩
      · rintro (h | h)
        · exact h0 h
        · omega
      · simpa using HB5.out.set_ 2 (.slice A5 (nn + 1) c5)
      · rcases hb with hb | hb
        · exact h0 (e ▸ hS b (.inr (.inl hb)))
        · omega
      · rintro b (hb | (hb | hb) | hb | hb)
        · exact .inl (hS b (.inl hb))
        · exact .inl (hS b (.inr (.inl hb)))
        · exact .inr (by omega)
        · exact .inl (hS b (.inr (.inr (.inl hb))))
        · rcases (hSA b hb).2 with h | h
          · exact .inl (hS b (.inr (.inr (.inr h))))
          · exact .inr h
      · intro b hb h
        rcases hat5 with e | e
        · rw [e] at hb; exact q1 b hb h
        · rw [e] at hb; injection hb with hb; simp at hb
          have := hG.2.choose_spec.2.2.2 b h
          omega
      · intro b hb h
        have hbl := (hG.lt b hb)
        rcases h with h | h
        · exact q2 b hb h
        · omega
      · rw [tot_now, ← HT.out]; omega
      · intro e he; simp at he; rcases he with he | rfl
        · exact q6 e he
        · exact ⟨by rw [hr.len]; exact hn, by rw [hr'.len]; exact hn'⟩
  · have hs1 : ((n : Int) == 0) = false := by rw [beq_eq_false_iff_ne]; exact hz
    clear hz
    go_enter Try.func43, Try.ntmps43
    go_wp2_with (go_at_call 63; rw [← HW1.out]; refine (redits_any g _ _ _ _ _ hU1).mono ?_; rintro e w' ⟨rfl, rfl⟩; rw [← HT.out])
    go_region_law (first
      | ((refine stepE (.tmp 34) (.tmp 37) (by rfl) (by rfl) 0 (.slice An nn cn) nn vs (by go_simp) (own_only hown1 (hp3'.trans ((Only.refl (fun _ => False) w3).alloc _)) fun _ _ x => x) _ (some ⟨w3.heap.size, 0, none⟩) 1 1 [.int .i64 at0, .slice A3 n3 c3, .slice A4 n4 c4] (by go_simp) (Rd.row w3 60 #[.int .i64 at0, .slice A3 n3 c3, .slice A4 n4 c4]) (by simp [Value.oneCell']) (by unfold maxLen; omega) (by omega) (Nat.zero_le _) ?_; intro A5 c5 w5 ho5 hp5 hat5; have hq5 : Only (fun b => (Value.slice An nn cn).ownBlock = some b) w1 w5 := (Only.of_pure (hp3'.trans ((Only.refl (fun _ => False) w3).alloc _))).then_ hp5 fun i _ e => e; have hB5 := HB1.out.only hq5 hgA; have i0 : w5.cell? ⟨g, 2, none⟩ = some (.slice An nn cn) := hB5.cell 2; have j0 := hB5.frozen 2; have HB5 := hid hB5; clear hB5))
      | (go_simp; go_at_call 41; refine (rclone_edit at0 A n c del A' n' c' ins T T' w1.drew (hr1.pure_ (Only.refl _ _).drew) (hr1'.pure_ (Only.refl _ _).drew) hn hn').mono ?_; rintro e w3 ⟨A3, n3, c3, A4, n4, c4, rfl, hR3, hR4, hp3⟩; have hp3' := hp3.ofDrew; have hg3 := Nat.lt_of_lt_of_le hg1 hp3'.size; have d3 := (hp3'.cell (p := ⟨g, 2, none⟩) hg1 (fun x => x)).trans d0))
    all_goals
      go_wp2
      go_ret
      have hR3t := RdI.mono hR3 (S' := fun b => w1.heap.size ≤ b ∧ b < w3.heap.size) fun b hb h => ⟨h, hb⟩
      have hR4t := RdI.mono hR4 (S' := fun b => w1.heap.size ≤ b ∧ b < w3.heap.size) fun b hb h => ⟨h, hb⟩
      have s3 := hp3'.size
      have hst := OwnK.step (K := edKind) (z := Ed.none) (Se := Sn) HLN.out hown1 (fun j hj => edKind.only (hes j hj) ho1 fun b hb _ e => h0 (e ▸ hS b (.inr (.inl hb)))) hd1 (fun b hb => Nat.lt_of_lt_of_le (hd2 b hb) s1) hp3'
        (x := ⟨at0, del, ins⟩) (Sx := fun b => w1.heap.size ≤ b ∧ b < w3.heap.size) ⟨A3, n3, c3, A4, n4, c4, rfl, hR3t, hR4t⟩ rfl
        (fun b hb => ⟨by omega, fun e => by have := hAl b e; omega⟩) ((Only.refl (fun _ => False) _).alloc _) ho5 hp5 hat5
      have ho : Only (fun b => b = g) w5 (w5.setCell ⟨g, 2, none⟩ (.slice A5 (nn + 1) c5)) := (Only.refl _ w5).set 2 _
      have hq05 : Only (fun b => S b ∨ b = g) w w5 := (ho1.mono fun _ _ e => .inr e).trans (hq5.mono fun b _ e => .inl (hS b (.inr (.inr (.inr e)))))
      have s5 := hq05.size
      have hSA : ∀ b, (Value.slice A5 (nn + 1) c5).ownBlock = some b → b ≠ g ∧ ((Value.slice An nn cn).ownBlock = some b ∨ w.heap.size ≤ b) := by
        intro b hb
        rcases hat5 with h | h
        · rw [h] at hb; exact ⟨fun e => hgA (e ▸ hb), .inl hb⟩
        · rw [h] at hb; injection hb with hb; simp at hb; exact ⟨by omega, .inr (by omega)⟩
      have hG5 := (hG.only ho1 (fun b hb e => h0 (e ▸ hS b (.inl hb))) (fun b hb e => h0 (e ▸ hS b (.inr (.inr (.inl hb)))))).only hq5 (fun b hb e => q1 b e hb) (fun b hb e => own_types hG.2.choose_spec.1 hown (by decide) b hb e)
      refine ⟨rfl, ⟨?_, Ag, ng, cg, A5, nn + 1, c5, Sg, _, ?_, hG5.only ho (fun b hb e => h0 (e ▸ hS b (.inl hb))) (fun b hb e => h0 (e ▸ hS b (.inr (.inr (.inl hb))))), hst.only ho (fun b hb e => ?_) (fun b hb e => (hSA b hb).1 e), ?_, ?_, ?_, ?_, q4, q5, ?_⟩, hq05.trans (ho.mono fun _ _ e => .inr e)⟩
      · rintro (h | h)
        · exact h0 h
        · omega
      · simpa using HB5.out.set_ 2 (.slice A5 (nn + 1) c5)
      · rcases hb with hb | hb
        · exact h0 (e ▸ hS b (.inr (.inl hb)))
        · omega
      · rintro b (hb | (hb | hb) | hb | hb)
        · exact .inl (hS b (.inl hb))
        · exact .inl (hS b (.inr (.inl hb)))
        · exact .inr (by omega)
        · exact .inl (hS b (.inr (.inr (.inl hb))))
        · rcases (hSA b hb).2 with h | h
          · exact .inl (hS b (.inr (.inr (.inr h))))
          · exact .inr h
      · intro b hb h
        rcases hat5 with e | e
        · rw [e] at hb; exact q1 b hb h
        · rw [e] at hb; injection hb with hb; simp at hb
          have := hG.2.choose_spec.2.2.2 b h
          omega
      · intro b hb h
        have hbl := (hG.lt b hb)
        rcases h with h | h
        · exact q2 b hb h
        · omega
      · rw [tot_now, ← HT.out]; omega
      · intro e he; simp at he; rcases he with he | rfl
        · exact q6 e he
        · exact ⟨by rw [hr.len]; exact hn, by rw [hr'.len]; exact hn'⟩

theorem radd_any (g : Nat) (S : Nat → Prop) (gs : List (List Ed)) (now : List Ed) (op : Int) (at0 : Int) (A : Option Addr) (n c : Nat) (del : List Int) (A' : Option Addr) (n' c' : Nat) (ins : List Int) (T T' : Nat → Prop) (w : World)
    (hU : RL w S g gs now op) (hr : RdI w T A n c del) (hr' : RdI w T' A' n' c' ins) (hn : small n) (hn' : small n') :
    Calls Try.prog 43 #[.pointer (some ⟨g, 0, none⟩), .agg #[.int .i64 at0, .slice A n c, .slice A' n' c']] w (RAddDid w S g gs now op ⟨at0, del, ins⟩) := by
  by_cases hbad : (del = [] ∧ ins = []) ∨ at0 < 0
  · exact radd_bad g S gs now op at0 A n c del A' n' c' ins T T' w hU hr hr' hn hn' hbad
  by_cases hf : 16384 ≤ tot gs now
  · exact radd_full g S gs now op at0 A n c del A' n' c' ins T T' w hU hr hr' hn hn' hbad hf
  by_cases hop : 0 < op
  · exact radd_now g S gs now op at0 A n c del A' n' c' ins T T' w hU hr hr' hn hn' hbad (by omega) hop
  · exact radd_group g S gs now op at0 A n c del A' n' c' ins T T' w hU hr hr' hn hn' hbad (by omega) hop

end Go.Proofs.Ytinlpmgchcbjpaa
