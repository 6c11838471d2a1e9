/- The reference list: close, End. -/
import Derived.Test.YtinlpmgchcbjpaaU29
import Derived.Test.YtinlpmgchcbjpaaU22
namespace Go.Proofs.Ytinlpmgchcbjpaa
open Go Go.RowKit
set_option maxHeartbeats 1000000
set_option maxRecDepth 100000

theorem rclose_none (g : Nat) (S : Nat → Prop) (gs : List (List Ed)) (op : Int) (w : World) (hU : RL w S g gs [] op) :
    Calls Try.prog 84 #[.pointer (some ⟨g, 0, none⟩)] w (RLDid w S g (closeG gs []) [] 0 (.tuple #[])) := by
  obtain ⟨h0, Ag, ng, cg, An, nn, cn, Sg, Sn, hB, hG, hE, hS, h1, h2, h3⟩ := hU
  have hlt := hB.lt
  obtain rfl : nn = 0 := by have := hE.len; simpa using this.symm
  have c1 : w.cell? ⟨g, 1, none⟩ = some (.int .i64 op) := hB.cell 1
  have c2 : w.cell? ⟨g, 2, none⟩ = some (.slice An 0 cn) := hB.cell 2
  have f1 := hB.frozen 1
  have f2 := hB.frozen 2
  have HG := hid hG
  clear hG hE
  go_enter Try.func84, Try.ntmps84
  go_wp2
  go_end0
  have ho : Only (fun b => b = g) w ((w.setCell ⟨g, 1, none⟩ (.int .i64 0)).setCell ⟨g, 2, none⟩ (.slice none 0 0)) := ((Only.refl _ w).set 1 _).set 2 _
  refine ⟨rfl, RL.plus (op := 0) ⟨h0, Ag, ng, cg, none, 0, 0, Sg, fun _ => False, ?_, ?_, OwnK.nil _ _, ?_, ?_, ?_, ?_⟩ hlt, ho.mono fun _ _ e => .inr e⟩
  · simpa using (hB.set_ 1 (.int .i64 0)).set_ 2 (.slice none 0 0)
  · have := HG.out.only ho (fun b hb e => h0 (e ▸ hS b (.inl hb))) (fun b hb e => h0 (e ▸ hS b (.inr (.inr (.inl hb)))))
    simpa [closeG] using this
  · rintro b (hb | hb | hb | hb)
    · exact hS b (.inl hb)
    · exact hb.elim
    · exact hS b (.inr (.inr (.inl hb)))
    · simp [Value.ownBlock] at hb
  · intro b hb; simp [Value.ownBlock] at hb
  · intro b _ x; exact x
  · simpa [closeG] using h3

set_option maxHeartbeats 2000000 in
theorem rclose_some (g : Nat) (S : Nat → Prop) (gs : List (List Ed)) (now : List Ed) (op : Int) (w : World) (hU : RL w S g gs now op) (hne : now ≠ []) :
    Calls Try.prog 84 #[.pointer (some ⟨g, 0, none⟩)] w (RLDid w S g (closeG gs now) [] 0 (.tuple #[])) := by
  obtain ⟨h0, Ag, ng, cg, An, nn, cn, Sg, Sn, hBw, hGw, hEw, hS, h1, h2, h3, h4, h5, h6⟩ := hU
  have hlt := hBw.lt
  have d1 : w.cell? ⟨g, 1, none⟩ = some (.int .i64 op) := hBw.cell 1
  have e1 := hBw.frozen 1
  have c2w : w.cell? ⟨g, 2, none⟩ = some (.slice An nn cn) := hBw.cell 2
  obtain ⟨w1, hw1⟩ : ∃ w1, w1 = w.setCell ⟨g, 1, none⟩ (.int .i64 0) := ⟨_, rfl⟩
  have ho1 : Only (fun b => b = g) w w1 := by rw [hw1]; exact (Only.refl _ w).set 1 _
  have hsz : w1.heap.size = w.heap.size := by rw [hw1]; simp
  have hB : Blk w1 g 77 #[.slice Ag ng cg, .int .i64 0, .slice An nn cn] := by rw [hw1]; simpa using hBw.set_ 1 (.int .i64 0)
  have hG := hGw.only ho1 (fun b hb e => h0 (e ▸ hS b (.inl hb))) (fun b hb e => h0 (e ▸ hS b (.inr (.inr (.inl hb)))))
  have hE := hEw.only ho1 (fun b hb e => h0 (e ▸ hS b (.inr (.inl hb)))) (fun b hb e => h0 (e ▸ hS b (.inr (.inr (.inr hb)))))
  have hlt1 := hB.lt
  clear hBw hGw hEw
  have hle := tot_groups (now := now) h4
  have hlg := hG.len
  have hln := hE.len
  have hnp : 0 < nn := by rw [← hln]; exact List.length_pos_iff.2 hne
  have hnnI : (nn : Int) ≤ 16384 := by omega
  have hngI : (ng : Int) ≤ 16384 := by omega
  have hn0 : (0 : Int) < (nn : Int) := by omega
  have hEr := hE.rd
  obtain ⟨hlg', vs, hown, hes, hd1, hd2⟩ := hG
  have c0 : w1.cell? ⟨g, 0, none⟩ = some (.slice Ag ng cg) := hB.cell 0
  have c2 : w1.cell? ⟨g, 2, none⟩ = some (.slice An nn cn) := hB.cell 2
  have f0 := hB.frozen 0
  have f2 := hB.frozen 2
  have hgA : ¬ (Value.slice Ag ng cg).ownBlock = some g := fun e => h0 (hS g (.inr (.inr (.inl e))))
  have hSx : ∀ b, (Sn b ∨ (Value.slice An nn cn).ownBlock = some b) → b < w1.heap.size ∧ (Value.slice Ag ng cg).ownBlock ≠ some b := by
    obtain ⟨_, ve, he1, _, _, he4⟩ := hE
    rintro b (hb | hb)
    · exact ⟨he4 b hb, fun e => h2 b e hb⟩
    · exact ⟨(he1.lt b hb).2, own_types he1 hown (by decide) b hb⟩
  have HLE := hid hle
  have HLG := hid hlg
  have HLN := hid hln
  clear hle hlg hln hlg'
  go_enter Try.func84, Try.ntmps84
  go_wp2
  rw [← hw1]
  have HW1 := hid hsz
  clear hw1 hsz d1 e1 c2w
  go_region_law (first | ((refine stepG (.tmp 15) (.tmp 20) (by rfl) (by rfl) 0 (.slice Ag ng cg) ng vs (by go_simp) (own_only hown (((Only.refl (fun _ => False) w1).alloc _).drew) fun _ _ x => x) _ (some ⟨w1.heap.size, 0, none⟩) 1 1 [.slice An nn cn] (by go_simp) ((Rd.one w1 _ _).pure_ (Only.refl _ _).drew) (by simp [Value.oneCell']) (by unfold maxLen; omega) (by omega) (Nat.zero_le _) ?_; intro A5 c5 w5 ho5 hp5 hat5; have hq5 : Only (fun b => (Value.slice Ag ng cg).ownBlock = some b) w1 w5 := (((Only.refl _ w1).alloc _).drew).then_ hp5 fun i _ e => e; have hB5 := hB.only hq5 hgA; have i0 : w5.cell? ⟨g, 0, none⟩ = some (.slice Ag ng cg) := hB5.cell 0; have i2 : w5.cell? ⟨g, 2, none⟩ = some (.slice An nn cn) := hB5.cell 2; have j0 := hB5.frozen 0; have j2 := hB5.frozen 2)))
  all_goals
    go_wp2
    go_end0
    have hsz := HW1.out
    have hcl : closeG gs now = gs ++ [now] := by unfold closeG; rw [if_neg hne]
    have hst := OwnK.step (K := grKind) (z := []) HLG.out hown hes hd1 hd2 (Only.refl _ w1) (x := now) (Sx := fun b => Sn b ∨ (Value.slice An nn cn).ownBlock = some b) ⟨An, nn, cn, rfl, hEr⟩ rfl hSx (((Only.refl (fun _ => False) w1).alloc (.cells #[.slice An nn cn] 71)).drew) ho5 hp5 hat5
    have ho : Only (fun b => b = g) w5 ((w5.setCell ⟨g, 0, none⟩ (.slice A5 (ng + 1) c5)).setCell ⟨g, 2, none⟩ (.slice none 0 0)) := ((Only.refl _ w5).set 0 _).set 2 _
    have hSA : ∀ b, (Value.slice A5 (ng + 1) c5).ownBlock = some b → b ≠ g ∧ ((Value.slice Ag ng cg).ownBlock = some b ∨ w.heap.size ≤ b) := by
      intro b hb
      rcases hat5 with h | h
      · rw [h] at hb; exact ⟨fun e => hgA (e ▸ hb), .inl hb⟩
      · rw [h] at hb; injection hb with hb; simp at hb; exact ⟨by omega, .inr (by omega)⟩
    have hSx5 : ∀ b, (Sg b ∨ (Sn b ∨ (Value.slice An nn cn).ownBlock = some b)) → S b := by
      rintro b (hb | hb | hb)
      · exact hS b (.inl hb)
      · exact hS b (.inr (.inl hb))
      · exact hS b (.inr (.inr (.inr hb)))
    refine ⟨rfl, ⟨?_, A5, ng + 1, c5, none, 0, 0, (fun b => Sg b ∨ (Sn b ∨ (Value.slice An nn cn).ownBlock = some b)), fun _ => False, ?_, ?_, OwnK.nil _ _, ?_, ?_, ?_, ?_, ?_, ?_, ?_⟩, ((ho1.mono fun b _ e => .inr e).trans (hq5.mono fun b _ e => .inl (hS b (.inr (.inr (.inl e)))))).trans (ho.mono fun b _ e => .inr e)⟩
    · rintro (h | h)
      · exact h0 h
      · omega
    · simpa using (hB5.set_ 0 (.slice A5 (ng + 1) c5)).set_ 2 (.slice none 0 0)
    · rw [hcl]
      exact hst.only ho (fun b hb e => h0 (e ▸ hSx5 b hb)) (fun b hb e => (hSA b hb).1 e)
    · rintro b (hb | hb | hb | hb)
      · exact .inl (hSx5 b hb)
      · exact hb.elim
      · rcases (hSA b hb).2 with h | h
        · exact .inl (hS b (.inr (.inr (.inl h))))
        · exact .inr h
      · simp [Value.ownBlock] at hb
    · intro b hb; simp [Value.ownBlock] at hb
    · intro b _ x; exact x
    · rw [tot_close]; exact h3
    · rw [hcl]; intro x hx; simp at hx; rcases hx with hx | rfl
      · exact h4 x hx
      · exact hne
    · rw [hcl]; intro x hx; simp at hx; rcases hx with hx | rfl
      · exact h5 x hx
      · exact h6
    · simp

theorem rclose_any (g : Nat) (S : Nat → Prop) (gs : List (List Ed)) (now : List Ed) (op : Int) (w : World) (hU : RL w S g gs now op) :
    Calls Try.prog 84 #[.pointer (some ⟨g, 0, none⟩)] w (RLDid w S g (closeG gs now) [] 0 (.tuple #[])) := by
  by_cases hne : now = []
  · subst hne; exact rclose_none g S gs op w hU
  · exact rclose_some g S gs now op w hU hne

theorem rend_any (g : Nat) (S : Nat → Prop) (gs : List (List Ed)) (now : List Ed) (op : Int) (w : World) (hU : RL w S g gs now op) (h0 : 0 ≤ op) (h1 : op ≤ 4611686018427387904) :
    Calls Try.prog 56 #[.pointer (some ⟨g, 0, none⟩)] w (RLDid w S g (endG gs now op) (endN now op) (endO op) (.int .i64 (endCode op))) := by
  have c1 := hU.c1
  have hlt := hU.lt
  have f1 : w.frozen? ⟨g, 1, none⟩ = false := by obtain ⟨_, Ag, ng, cg, An, nn, cn, Sg, Sn, hB, _⟩ := hU; exact hB.frozen 1
  by_cases hz : op = 0
  · subst hz
    go_enter Try.func56, Try.ntmps56
    go_wp2
    go_ret
    exact RLDid.same hU (Only.refl _ _)
  · have hz' : (op == 0) = false := by simpa using hz
    have hset := hU.setOpen (op - 1)
    have hos : Only (fun b => S b ∨ b = g) w (w.setCell ⟨g, 1, none⟩ (.int .i64 (op - 1))) := ((Only.refl (fun b => b = g) w).set 1 _).mono fun _ _ e => .inr e
    have hsz : (w.setCell ⟨g, 1, none⟩ (.int .i64 (op - 1))).heap.size = w.heap.size := by simp [World.setCell]
    by_cases ho : op = 1
    · subst ho
      have hG : endG gs now 1 = closeG gs now := rfl
      have hN : endN now 1 = [] := rfl
      have hC : endCode 1 = 0 := rfl
      have hO : endO 1 = 0 := rfl
      rw [hG, hN, hC, hO]
      go_enter Try.func56, Try.ntmps56
      go_wp2_with fail
      refine (rclose_any g S gs now (1 - 1) (w.setCell ⟨g, 1, none⟩ (.int .i64 (1 - 1))) hset).mono ?_
      rintro e w3 ⟨rfl, hU3, ho3⟩
      go_wp2
      go_ret
      rw [hsz] at hU3
      exact ⟨rfl, hU3, hos.trans ho3⟩
    · have hz2 : (op - 1 == 0) = false := by rw [beq_eq_false_iff_ne]; omega
      have hG : endG gs now op = gs := if_neg ho
      have hN : endN now op = now := if_neg ho
      have hC : endCode op = 0 := if_neg hz
      have hO : endO op = op - 1 := if_neg hz
      rw [hG, hN, hC, hO]
      clear hG hN hC hO hz ho
      go_enter Try.func56, Try.ntmps56
      go_wp2
      go_ret
      exact ⟨rfl, hset.plus hlt, hos⟩

end Go.Proofs.Ytinlpmgchcbjpaa
