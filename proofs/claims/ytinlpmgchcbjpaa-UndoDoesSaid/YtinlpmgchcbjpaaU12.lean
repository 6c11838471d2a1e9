/- The list of edits: Add, in an open group; Add, whole. -/
import Derived.Test.YtinlpmgchcbjpaaU11
namespace Go.Proofs.Ytinlpmgchcbjpaa
open Go Go.RowKit
set_option maxHeartbeats 1000000
set_option maxRecDepth 100000

/-- One element newly laid, its cells. -/
theorem Rd.row (W : World) (t : TypeId) (us : Array Value) : Rd (W.alloc (.cells us t)) (fun b => b = W.heap.size) us.size (some ⟨W.heap.size, 0, none⟩) 1 1 us.toList := by
  have hb : Blk (W.alloc (.cells us t)) W.heap.size t us := Blk.new _ _ _
  refine ⟨by simp, Nat.le_refl _, by unfold maxLen; omega, fun _ => ⟨W.heap.size, 0, rfl, rfl, by simp, fun j u hj => ?_⟩⟩
  rw [hb.cell, Nat.zero_add]; simpa using hj

theorem tot_now (gs : List (List Ed)) (now : List Ed) (e : Ed) : tot gs (now ++ [e]) = tot gs now + 1 := by
  unfold tot; simp; omega

theorem uadd_now (g : Nat) (S : Nat → Prop) (gs : List (List Ed)) (now : List Ed) (op : Int) (at0 : Int) (A : Option Addr) (n c : Nat) (del : List Int) (A' : Option Addr) (n' c' : Nat) (ins : List Int) (T T' : Nat → Prop) (w : World)
    (hU : UL w S g gs now op) (hr : RdI w T A n c del) (hr' : RdI w T' A' n' c' ins) (hn : small n) (hn' : small n') (hok : ¬ ((del = [] ∧ ins = []) ∨ at0 < 0)) (hroom : tot gs now < 16384) (hop : 0 < op) (hT : ¬ T g) (hT' : ¬ T' g) :
    Calls Try.prog 42 #[.pointer (some ⟨g, 0, none⟩), .agg #[.int .i64 at0, .slice A n c, .slice A' n' c']] w (AddDid w S g gs now op ⟨at0, del, ins⟩) := by
  have hcode : addCode ⟨at0, del, ins⟩ (tot gs now) = 0 := by unfold addCode; rw [if_neg hok, if_neg (by omega)]
  have hpost : AddDid w S g gs now op ⟨at0, del, ins⟩ = ULDid w S g gs (now ++ [⟨at0, del, ins⟩]) op (.int .i64 0) := by funext r w'; unfold AddDid addG addN; rw [hcode, if_pos rfl, if_pos hop, if_pos hop]
  rw [hpost]
  have hnI : (n : Int) ≤ 35184372088832 := by unfold small at hn; omega
  have hnI' : (n' : Int) ≤ 35184372088832 := by unfold small at hn'; omega
  have hp1 : Pure w (w.alloc (.cells #[.int .i64 at0, .slice A n c, .slice A' n' c'] 60)) := (Only.refl _ w).alloc _
  have hU1 := hU.pure_ hp1
  have c4 := hU1.c4
  have c3 := hU1.c3
  have c2 := hU1.c2
  have b2 := hU.c2
  have b3 := hU.c3
  have g3 : w.frozen? ⟨g, 3, none⟩ = false := by obtain ⟨_, Ag, ng, cg, An, nn, cn, Sg, Sn, hB, _⟩ := hU; exact hB.frozen 3
  have h1 := hr.len
  have h2 := hr'.len
  have hat : ¬ at0 < 0 := fun h => hok (.inr h)
  have hs0 : ((n : Int) + (n' : Int) == 0) = false := by
    rw [beq_eq_false_iff_ne]; intro h
    exact hok (.inl ⟨List.eq_nil_of_length_eq_zero (by omega), List.eq_nil_of_length_eq_zero (by omega)⟩)
  obtain ⟨t, ht⟩ : ∃ t, t = tot gs now := ⟨_, rfl⟩
  rw [← ht] at c3 b3 hroom
  have hfI : ¬ (16384 : Int) ≤ (t : Int) := by omega
  have htI : (t : Int) ≤ 16384 := by omega
  have hgw := hU.lt
  have f3 : (w.alloc (.cells #[.int .i64 at0, .slice A n c, .slice A' n' c'] 60)).frozen? ⟨g, 3, none⟩ = false := by obtain ⟨_, Ag, ng, cg, An, nn, cn, Sg, Sn, hB, _⟩ := hU1; exact hB.frozen 3
  clear h1 h2 hpost hcode hok
  have HT := hid ht
  clear ht
  go_enter Try.func42, Try.ntmps42
  go_wp2_with (go_at_call 78; refine (unone_made g _ c4).mono ?_; rintro e w' ⟨rfl, rfl⟩)
  obtain ⟨w1, hw1⟩ : ∃ w1, w1 = (w.setCell ⟨g, 3, none⟩ (.int .i64 ((t : Int) + 1))).alloc (.cells #[.int .i64 at0, .slice A n c, .slice A' n' c'] 60) := ⟨_, rfl⟩
  rw [← hw1]
  have ho1 : Only (fun b => b = g) w w1 := by rw [hw1]; exact ((Only.refl _ w).set 3 _).alloc _
  have hbx : Blk w1 w.heap.size 60 #[.int .i64 at0, .slice A n c, .slice A' n' c'] := by
    rw [hw1]; have := Blk.new (w.setCell ⟨g, 3, none⟩ (.int .i64 ((t : Int) + 1))) 60 #[.int .i64 at0, .slice A n c, .slice A' n' c']; simpa using this
  obtain ⟨h0, Ag, ng, cg, An, nn, cn, Sg, Sn, hB, hG, hE, hS, q1, q2, q3, q4, q5, q6⟩ := hU
  have hB1 : Blk w1 g 102 #[.slice Ag ng cg, .slice An nn cn, .int .i64 op, .int .i64 ((t : Int) + 1), .bool true] := by
    rw [hw1]; simpa using (hB.set_ 3 (.int .i64 ((t : Int) + 1))).alloc _
  have d0 : w1.cell? ⟨g, 1, none⟩ = some (.slice An nn cn) := hB1.cell 1
  have e0 : w1.cell? ⟨w.heap.size, 0, none⟩ = some (.int .i64 at0) := hbx.cell 0
  have e1 : w1.cell? ⟨w.heap.size, 1, none⟩ = some (.slice A n c) := hbx.cell 1
  have e2 : w1.cell? ⟨w.heap.size, 2, none⟩ = some (.slice A' n' c') := hbx.cell 2
  have hr1 := hr.only ho1 fun b hb _ e => hT (e ▸ hb)
  have hr1' := hr'.only ho1 fun b hb _ e => hT' (e ▸ hb)
  have hg1 := hB1.lt
  have hx1 := hbx.lt
  obtain ⟨hln', vs, hown, hes, hd1, hd2⟩ := hE
  have hown1 := own_only hown ho1 fun b hb e => h0 (e ▸ hS b (.inr (.inr (.inr hb))))
  have hle := tot_groups (now := now) q4
  have HLE := hid hle
  have HLN := hid hln'
  have hnnI : (nn : Int) ≤ 16384 := by have := HT.out; omega
  clear hw1 hle hln' c4 c3 c2 f3 b2 b3 g3
  have HB1 := hid hB1
  have hgA : ¬ (Value.slice An nn cn).ownBlock = some g := fun e => h0 (hS g (.inr (.inr (.inr e))))
  have hAl : ∀ b, (Value.slice An nn cn).ownBlock = some b → b < w.heap.size := fun b hb => (hown.lt b hb).2
  have s1 := ho1.size
  clear hB1 hbx
  go_region_law (first
    | ((refine stepE (.tmp 46) (.tmp 49) (by rfl) (by rfl) 0 (.slice An nn cn) nn vs (by go_simp) (own_only hown1 (hp3'.trans ((Only.refl (fun _ => False) w3).alloc _)) fun _ _ x => x) _ (some ⟨w3.heap.size, 0, none⟩) 1 1 [.int .i64 at0, .slice A3 n3 c3, .slice A4 n4 c4] (by go_simp) (Rd.row w3 60 #[.int .i64 at0, .slice A3 n3 c3, .slice A4 n4 c4]) (by simp [Value.oneCell']) (by unfold maxLen; omega) (by omega) (Nat.zero_le _) ?_; intro A5 c5 w5 ho5 hp5 hat5; have hq5 : Only (fun b => (Value.slice An nn cn).ownBlock = some b) w1 w5 := (Only.of_pure (hp3'.trans ((Only.refl (fun _ => False) w3).alloc _))).then_ hp5 fun i _ e => e; have hB5 := HB1.out.only hq5 hgA; have i0 : w5.cell? ⟨g, 1, none⟩ = some (.slice An nn cn) := hB5.cell 1; have j0 := hB5.frozen 1; have HB5 := hid hB5; clear hB5))
    | (go_simp; go_at_call 77; refine (own_edit at0 A n c del A' n' c' ins T T' w1.drew (hr1.pure_ (Only.refl _ _).drew) (hr1'.pure_ (Only.refl _ _).drew) hn hn').mono ?_; rintro e w3 ⟨A3, n3, c3, A4, n4, c4, rfl, hR3, hR4, hp3⟩; have hp3' := hp3.ofDrew; have hg3 := Nat.lt_of_lt_of_le hg1 hp3'.size; have d3 := (hp3'.cell (p := ⟨g, 1, none⟩) hg1 (fun x => x)).trans d0))
  all_goals
    go_wp2
    go_ret
    have hR3t := RdI.mono hR3 (S' := fun b => w1.heap.size ≤ b ∧ b < w3.heap.size) fun b hb h => ⟨h, hb⟩
    have hR4t := RdI.mono hR4 (S' := fun b => w1.heap.size ≤ b ∧ b < w3.heap.size) fun b hb h => ⟨h, hb⟩
    have s3 := hp3'.size
    have hst := OwnK.step (K := edKind) (z := Ed.none) (Se := Sn) HLN.out hown1 (fun j hj => edKind.only (hes j hj) ho1 fun b hb _ e => h0 (e ▸ hS b (.inr (.inl hb)))) hd1 (fun b hb => Nat.lt_of_lt_of_le (hd2 b hb) s1) hp3'
      (x := ⟨at0, del, ins⟩) (Sx := fun b => w1.heap.size ≤ b ∧ b < w3.heap.size) ⟨A3, n3, c3, A4, n4, c4, rfl, hR3t, hR4t⟩ rfl
      (fun b hb => ⟨by omega, fun e => by have := hAl b e; omega⟩) ((Only.refl (fun _ => False) _).alloc _) ho5 hp5 hat5
    have ho : Only (fun b => b = g) w5 (w5.setCell ⟨g, 1, none⟩ (.slice A5 (nn + 1) c5)) := (Only.refl _ w5).set 1 _
    have hq05 : Only (fun b => S b ∨ b = g) w w5 := (ho1.mono fun _ _ e => .inr e).trans (hq5.mono fun b _ e => .inl (hS b (.inr (.inr (.inr e)))))
    have s5 := hq05.size
    have hSA : ∀ b, (Value.slice A5 (nn + 1) c5).ownBlock = some b → b ≠ g ∧ ((Value.slice An nn cn).ownBlock = some b ∨ w.heap.size ≤ b) := by
      intro b hb
      rcases hat5 with h | h
      · rw [h] at hb; exact ⟨fun e => hgA (e ▸ hb), .inl hb⟩
      · rw [h] at hb; injection hb with hb; simp at hb; exact ⟨by omega, .inr (by omega)⟩
    have hG5 := (hG.only ho1 (fun b hb e => h0 (e ▸ hS b (.inl hb))) (fun b hb e => h0 (e ▸ hS b (.inr (.inr (.inl hb)))))).only hq5 (fun b hb e => q1 b e hb) (fun b hb e => own_types hG.2.choose_spec.1 hown (by decide) b hb e)
    refine ⟨rfl, ⟨?_, Ag, ng, cg, A5, nn + 1, c5, Sg, _, ?_, hG5.only ho (fun b hb e => h0 (e ▸ hS b (.inl hb))) (fun b hb e => h0 (e ▸ hS b (.inr (.inr (.inl hb))))), hst.only ho (fun b hb e => ?_) (fun b hb e => (hSA b hb).1 e), ?_, ?_, ?_, ?_, q4, q5, ?_⟩, hq05.trans (ho.mono fun _ _ e => .inr e)⟩
    · rintro (h | h)
      · exact h0 h
      · omega
    · rw [tot_now, ← HT.out]
      simpa using HB5.out.set_ 1 (.slice A5 (nn + 1) c5)
    · rcases hb with hb | hb
      · exact h0 (e ▸ hS b (.inr (.inl hb)))
      · omega
    · rintro b (hb | (hb | hb) | hb | hb)
      · exact .inl (hS b (.inl hb))
      · exact .inl (hS b (.inr (.inl hb)))
      · exact .inr (by omega)
      · exact .inl (hS b (.inr (.inr (.inl hb))))
      · rcases (hSA b hb).2 with h | h
        · exact .inl (hS b (.inr (.inr (.inr h))))
        · exact .inr h
    · intro b hb h
      rcases hat5 with e | e
      · rw [e] at hb; exact q1 b hb h
      · rw [e] at hb; injection hb with hb; simp at hb
        have := hG.2.choose_spec.2.2.2 b h
        omega
    · intro b hb h
      have hbl := (hG.lt b hb)
      rcases h with h | h
      · exact q2 b hb h
      · omega
    · rw [tot_now, ← HT.out]; omega
    · intro e he; simp at he; rcases he with he | rfl
      · exact q6 e he
      · exact ⟨by rw [hr.len]; exact hn, by rw [hr'.len]; exact hn'⟩

end Go.Proofs.Ytinlpmgchcbjpaa
