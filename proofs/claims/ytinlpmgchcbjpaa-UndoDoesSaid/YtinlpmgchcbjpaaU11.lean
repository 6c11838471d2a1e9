/- The list of edits: Add, a group of its own. -/
import Derived.Test.YtinlpmgchcbjpaaU10
namespace Go.Proofs.Ytinlpmgchcbjpaa
open Go Go.RowKit
set_option maxHeartbeats 1000000
set_option maxRecDepth 100000

/-- A row of one edit, newly laid. -/
theorem RdE.one {W : World} {S S' : Nat → Prop} {at0 : Int} {A A' : Option Addr} {n c n' c' : Nat} {del ins : List Int} (h : RdI W S A n c del) (h' : RdI W S' A' n' c' ins) :
    RdE (W.alloc (.cells #[.int .i64 at0, .slice A n c, .slice A' n' c'] 60)) (fun b => (S b ∨ S' b) ∨ b = W.heap.size) (some ⟨W.heap.size, 0, none⟩) 1 1 [⟨at0, del, ins⟩] := by
  have hb : Blk (W.alloc (.cells #[.int .i64 at0, .slice A n c, .slice A' n' c'] 60)) W.heap.size 60 #[.int .i64 at0, .slice A n c, .slice A' n' c'] := Blk.new _ _ _
  have hp : Pure W (W.alloc (.cells #[.int .i64 at0, .slice A n c, .slice A' n' c'] 60)) := (Only.refl _ W).alloc _
  refine ⟨rfl, [.int .i64 at0, .slice A n c, .slice A' n' c'], ⟨rfl, Nat.le_refl _, by unfold maxLen; omega, fun _ => ⟨W.heap.size, 0, rfl, .inr rfl, by simp, fun j u hj => ?_⟩⟩, fun j hj => ?_⟩
  · rw [hb.cell, Nat.zero_add]; simpa using hj
  · obtain rfl : j = 0 := by omega
    exact ⟨A, n, c, A', n', c', rfl, (h.pure_ hp).mono fun b _ hS => .inl (.inl hS), (h'.pure_ hp).mono fun b _ hS => .inl (.inr hS)⟩

theorem tot_group (gs : List (List Ed)) (now : List Ed) (e : Ed) : tot (gs ++ [[e]]) now = tot gs now + 1 := by
  unfold tot; simp; omega

theorem uadd_group (g : Nat) (S : Nat → Prop) (gs : List (List Ed)) (now : List Ed) (op : Int) (at0 : Int) (A : Option Addr) (n c : Nat) (del : List Int) (A' : Option Addr) (n' c' : Nat) (ins : List Int) (T T' : Nat → Prop) (w : World)
    (hU : UL w S g gs now op) (hr : RdI w T A n c del) (hr' : RdI w T' A' n' c' ins) (hn : small n) (hn' : small n') (hok : ¬ ((del = [] ∧ ins = []) ∨ at0 < 0)) (hroom : tot gs now < 16384) (hop : ¬ 0 < op) (hT : ¬ T g) (hT' : ¬ T' g) :
    Calls Try.prog 42 #[.pointer (some ⟨g, 0, none⟩), .agg #[.int .i64 at0, .slice A n c, .slice A' n' c']] w (AddDid w S g gs now op ⟨at0, del, ins⟩) := by
  have hcode : addCode ⟨at0, del, ins⟩ (tot gs now) = 0 := by unfold addCode; rw [if_neg hok, if_neg (by omega)]
  have hpost : AddDid w S g gs now op ⟨at0, del, ins⟩ = ULDid w S g (gs ++ [[⟨at0, del, ins⟩]]) now op (.int .i64 0) := by funext r w'; unfold AddDid addG addN; rw [hcode, if_pos rfl, if_neg hop, if_neg hop]
  rw [hpost]
  have hnI : (n : Int) ≤ 35184372088832 := by unfold small at hn; omega
  have hnI' : (n' : Int) ≤ 35184372088832 := by unfold small at hn'; omega
  have hp1 : Pure w (w.alloc (.cells #[.int .i64 at0, .slice A n c, .slice A' n' c'] 60)) := (Only.refl _ w).alloc _
  have hU1 := hU.pure_ hp1
  have c4 := hU1.c4
  have c3 := hU1.c3
  have c2 := hU1.c2
  have b2 := hU.c2
  have b3 := hU.c3
  have g3 : w.frozen? ⟨g, 3, none⟩ = false := by obtain ⟨_, Ag, ng, cg, An, nn, cn, Sg, Sn, hB, _⟩ := hU; exact hB.frozen 3
  have h1 := hr.len
  have h2 := hr'.len
  have hat : ¬ at0 < 0 := fun h => hok (.inr h)
  have hs0 : ((n : Int) + (n' : Int) == 0) = false := by
    rw [beq_eq_false_iff_ne]; intro h
    exact hok (.inl ⟨List.eq_nil_of_length_eq_zero (by omega), List.eq_nil_of_length_eq_zero (by omega)⟩)
  obtain ⟨t, ht⟩ : ∃ t, t = tot gs now := ⟨_, rfl⟩
  rw [← ht] at c3 b3 hroom
  have hfI : ¬ (16384 : Int) ≤ (t : Int) := by omega
  have htI : (t : Int) ≤ 16384 := by omega
  have hgw := hU.lt
  have f3 : (w.alloc (.cells #[.int .i64 at0, .slice A n c, .slice A' n' c'] 60)).frozen? ⟨g, 3, none⟩ = false := by obtain ⟨_, Ag, ng, cg, An, nn, cn, Sg, Sn, hB, _⟩ := hU1; exact hB.frozen 3
  clear h1 h2 hpost hcode hok
  have HT := hid ht
  clear ht
  go_enter Try.func42, Try.ntmps42
  go_wp2_with (go_at_call 78; refine (unone_made g _ c4).mono ?_; rintro e w' ⟨rfl, rfl⟩)
  obtain ⟨w1, hw1⟩ : ∃ w1, w1 = (w.setCell ⟨g, 3, none⟩ (.int .i64 ((t : Int) + 1))).alloc (.cells #[.int .i64 at0, .slice A n c, .slice A' n' c'] 60) := ⟨_, rfl⟩
  rw [← hw1]
  have ho1 : Only (fun b => b = g) w w1 := by rw [hw1]; exact ((Only.refl _ w).set 3 _).alloc _
  have hbx : Blk w1 w.heap.size 60 #[.int .i64 at0, .slice A n c, .slice A' n' c'] := by
    rw [hw1]; have := Blk.new (w.setCell ⟨g, 3, none⟩ (.int .i64 ((t : Int) + 1))) 60 #[.int .i64 at0, .slice A n c, .slice A' n' c']; simpa using this
  obtain ⟨h0, Ag, ng, cg, An, nn, cn, Sg, Sn, hB, hG, hE, hS, q1, q2, q3, q4, q5, q6⟩ := hU
  have hB1 : Blk w1 g 102 #[.slice Ag ng cg, .slice An nn cn, .int .i64 op, .int .i64 ((t : Int) + 1), .bool true] := by
    rw [hw1]; simpa using (hB.set_ 3 (.int .i64 ((t : Int) + 1))).alloc _
  have d0 : w1.cell? ⟨g, 0, none⟩ = some (.slice Ag ng cg) := hB1.cell 0
  have e0 : w1.cell? ⟨w.heap.size, 0, none⟩ = some (.int .i64 at0) := hbx.cell 0
  have e1 : w1.cell? ⟨w.heap.size, 1, none⟩ = some (.slice A n c) := hbx.cell 1
  have e2 : w1.cell? ⟨w.heap.size, 2, none⟩ = some (.slice A' n' c') := hbx.cell 2
  have hr1 := hr.only ho1 fun b hb _ e => hT (e ▸ hb)
  have hr1' := hr'.only ho1 fun b hb _ e => hT' (e ▸ hb)
  have hg1 := hB1.lt
  have hx1 := hbx.lt
  obtain ⟨hlg', vs, hown, hes, hd1, hd2⟩ := hG
  have hown1 := own_only hown ho1 fun b hb e => h0 (e ▸ hS b (.inr (.inr (.inl hb))))
  have hle := tot_groups (now := now) q4
  have HLE := hid hle
  have HLG := hid hlg'
  have hngI : (ng : Int) ≤ 16384 := by have := HT.out; omega
  clear hw1 hle hlg' c4 c3 c2 f3 b2 b3 g3
  have HB1 := hid hB1
  have HBX := hid hbx
  have hgA : ¬ (Value.slice Ag ng cg).ownBlock = some g := fun e => h0 (hS g (.inr (.inr (.inl e))))
  have hAl : ∀ b, (Value.slice Ag ng cg).ownBlock = some b → b < w.heap.size := fun b hb => (hown.lt b hb).2
  have s1 := ho1.size
  clear hB1 hbx
  go_region_law (first
    | ((refine stepG (.tmp 59) (.tmp 63) (by rfl) (by rfl) 0 (.slice Ag ng cg) ng vs (by go_simp) (own_only hown1 (hp3'.trans (((Only.refl (fun _ => False) w3).alloc _).alloc _)) fun _ _ x => x) _ (some ⟨w3.heap.size + 1, 0, none⟩) 1 1 [.slice (some ⟨w3.heap.size, 0, none⟩) 1 1] (by go_simp) (by simpa using Rd.one (w3.alloc _) _ _) (by simp [Value.oneCell']) (by unfold maxLen; omega) (by omega) (Nat.zero_le _) ?_; intro A5 c5 w5 ho5 hp5 hat5; have hq5 : Only (fun b => (Value.slice Ag ng cg).ownBlock = some b) w1 w5 := (Only.of_pure (hp3'.trans (((Only.refl (fun _ => False) w3).alloc _).alloc _))).then_ hp5 fun i _ e => e; have hB5 := HB1.out.only hq5 hgA; have i0 : w5.cell? ⟨g, 0, none⟩ = some (.slice Ag ng cg) := hB5.cell 0; have j0 := hB5.frozen 0; have HB5 := hid hB5; clear hB5))
    | (go_simp; go_at_call 77; refine (own_edit at0 A n c del A' n' c' ins T T' w1.drew (hr1.pure_ (Only.refl _ _).drew) (hr1'.pure_ (Only.refl _ _).drew) hn hn').mono ?_; rintro e w3 ⟨A3, n3, c3, A4, n4, c4, rfl, hR3, hR4, hp3⟩; have hp3' := hp3.ofDrew; have hg3 := Nat.lt_of_lt_of_le hg1 hp3'.size; have d3 := (hp3'.cell (p := ⟨g, 0, none⟩) hg1 (fun x => x)).trans d0))
  all_goals
    go_wp2
    go_ret
    have hR3t := RdI.mono hR3 (S' := fun b => w1.heap.size ≤ b ∧ b < w3.heap.size) fun b hb h => ⟨h, hb⟩
    have hR4t := RdI.mono hR4 (S' := fun b => w1.heap.size ≤ b ∧ b < w3.heap.size) fun b hb h => ⟨h, hb⟩
    have hone := RdE.one (at0 := at0) hR3t hR4t
    have hp13 : Pure w1 (w3.alloc (.cells #[.int .i64 at0, .slice A3 n3 c3, .slice A4 n4 c4] 60)) := hp3'.alloc _
    have s3 := hp3'.size
    have hst := OwnK.step (K := grKind) (z := []) (Se := Sg) HLG.out hown1 (fun j hj => grKind.only (hes j hj) ho1 fun b hb _ e => h0 (e ▸ hS b (.inl hb))) hd1 (fun b hb => Nat.lt_of_lt_of_le (hd2 b hb) s1) hp13
      (x := [⟨at0, del, ins⟩]) (Sx := fun b => ((w1.heap.size ≤ b ∧ b < w3.heap.size) ∨ (w1.heap.size ≤ b ∧ b < w3.heap.size)) ∨ b = w3.heap.size) ⟨some ⟨w3.heap.size, 0, none⟩, 1, 1, rfl, hone⟩ rfl
      (fun b hb => ⟨by simp; omega, fun e => by have := hAl b e; omega⟩) ((Only.refl (fun _ => False) _).alloc _) ho5 hp5 hat5
    have ho : Only (fun b => b = g) w5 (w5.setCell ⟨g, 0, none⟩ (.slice A5 (ng + 1) c5)) := (Only.refl _ w5).set 0 _
    have hq05 : Only (fun b => S b ∨ b = g) w w5 := (ho1.mono fun _ _ e => .inr e).trans (hq5.mono fun b _ e => .inl (hS b (.inr (.inr (.inl e)))))
    have s5 := hq05.size
    have hSA : ∀ b, (Value.slice A5 (ng + 1) c5).ownBlock = some b → b ≠ g ∧ ((Value.slice Ag ng cg).ownBlock = some b ∨ w.heap.size ≤ b) := by
      intro b hb
      rcases hat5 with h | h
      · rw [h] at hb; exact ⟨fun e => hgA (e ▸ hb), .inl hb⟩
      · rw [h] at hb; injection hb with hb; simp at hb; exact ⟨by omega, .inr (by omega)⟩
    have hE5 := (hE.only ho1 (fun b hb e => h0 (e ▸ hS b (.inr (.inl hb)))) (fun b hb e => h0 (e ▸ hS b (.inr (.inr (.inr hb)))))).only hq5 (fun b hb e => q2 b e hb) (fun b hb e => own_types hE.2.choose_spec.1 hown (by decide) b hb e)
    refine ⟨rfl, ⟨?_, A5, ng + 1, c5, An, nn, cn, _, Sn, ?_, hst.only ho (fun b hb e => ?_) (fun b hb e => (hSA b hb).1 e), hE5.only ho (fun b hb e => h0 (e ▸ hS b (.inr (.inl hb)))) (fun b hb e => h0 (e ▸ hS b (.inr (.inr (.inr hb))))), ?_, ?_, ?_, ?_, ?_, ?_, q6⟩, hq05.trans (ho.mono fun _ _ e => .inr e)⟩
    · rintro (h | h)
      · exact h0 h
      · omega
    · rw [tot_group, ← HT.out]
      simpa using HB5.out.set_ 0 (.slice A5 (ng + 1) c5)
    · rcases hb with hb | hb
      · exact h0 (e ▸ hS b (.inl hb))
      · omega
    · rintro b ((hb | hb) | hb | hb | hb)
      · exact .inl (hS b (.inl hb))
      · exact .inr (by omega)
      · exact .inl (hS b (.inr (.inl hb)))
      · rcases (hSA b hb).2 with h | h
        · exact .inl (hS b (.inr (.inr (.inl h))))
        · exact .inr h
      · exact .inl (hS b (.inr (.inr (.inr hb))))
    · intro b hb h
      have hbl := (hE.lt b hb)
      rcases h with h | h
      · exact q1 b hb h
      · omega
    · intro b hb h
      rcases hat5 with e | e
      · rw [e] at hb; exact q2 b hb h
      · rw [e] at hb; injection hb with hb; simp at hb
        have := hE.2.choose_spec.2.2.2 b h
        omega
    · rw [tot_group, ← HT.out]; omega
    · intro x hx; simp at hx; rcases hx with hx | rfl
      · exact q4 x hx
      · simp
    · intro x hx; simp at hx; rcases hx with hx | rfl
      · exact q5 x hx
      · intro e he; simp at he; subst he; exact ⟨by rw [hr.len]; exact hn, by rw [hr'.len]; exact hn'⟩

end Go.Proofs.Ytinlpmgchcbjpaa
