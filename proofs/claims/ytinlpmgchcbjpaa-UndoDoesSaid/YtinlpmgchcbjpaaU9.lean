/- The list of edits: close. -/
import Derived.Test.YtinlpmgchcbjpaaU8
namespace Go.Proofs.Ytinlpmgchcbjpaa
open Go Go.RowKit
set_option maxHeartbeats 1000000
set_option maxRecDepth 100000

def closeG (gs : List (List Ed)) (now : List Ed) : List (List Ed) := if now = [] then gs else gs ++ [now]
theorem tot_close (gs : List (List Ed)) (now : List Ed) : tot (closeG gs now) [] = tot gs now := by
  unfold closeG tot
  split
  · rename_i h; rw [h]
  · simp

theorem uclose_none (g : Nat) (S : Nat → Prop) (gs : List (List Ed)) (op : Int) (w : World) (hU : UL w S g gs [] op) :
    Calls Try.prog 82 #[.pointer (some ⟨g, 0, none⟩)] w (ULDid w S g (closeG gs []) [] 0 (.tuple #[])) := by
  obtain ⟨h0, Ag, ng, cg, An, nn, cn, Sg, Sn, hB, hG, hE, hS, h1, h2, h3⟩ := hU
  have hlt := hB.lt
  obtain rfl : nn = 0 := by have := hE.len; simpa using this.symm
  have c1 : w.cell? ⟨g, 1, none⟩ = some (.slice An 0 cn) := hB.cell 1
  have c2 : w.cell? ⟨g, 2, none⟩ = some (.int .i64 op) := hB.cell 2
  have f1 := hB.frozen 1
  have f2 := hB.frozen 2
  have HG := hid hG
  clear hG hE
  go_enter Try.func82, Try.ntmps82
  go_wp2
  go_end0
  have ho : Only (fun b => b = g) w ((w.setCell ⟨g, 1, none⟩ (.slice none 0 0)).setCell ⟨g, 2, none⟩ (.int .i64 0)) := ((Only.refl _ w).set 1 _).set 2 _
  refine ⟨rfl, UL.plus (op := 0) ⟨h0, Ag, ng, cg, none, 0, 0, Sg, fun _ => False, ?_, ?_, OwnK.nil _ _, ?_, ?_, ?_, ?_⟩ hlt, ho.mono fun _ _ e => .inr e⟩
  · simpa [closeG] using (hB.set_ 1 (.slice none 0 0)).set_ 2 (.int .i64 0)
  · have := HG.out.only ho (fun b hb e => h0 (e ▸ hS b (.inl hb))) (fun b hb e => h0 (e ▸ hS b (.inr (.inr (.inl hb)))))
    simpa [closeG] using this
  · rintro b (hb | hb | hb | hb)
    · exact hS b (.inl hb)
    · exact hb.elim
    · exact hS b (.inr (.inr (.inl hb)))
    · simp [Value.ownBlock] at hb
  · intro b hb; simp [Value.ownBlock] at hb
  · intro b _ x; exact x
  · simpa [closeG] using h3

set_option maxHeartbeats 2000000 in
theorem uclose_some (g : Nat) (S : Nat → Prop) (gs : List (List Ed)) (now : List Ed) (op : Int) (w : World) (hU : UL w S g gs now op) (hne : now ≠ []) :
    Calls Try.prog 82 #[.pointer (some ⟨g, 0, none⟩)] w (ULDid w S g (closeG gs now) [] 0 (.tuple #[])) := by
  obtain ⟨h0, Ag, ng, cg, An, nn, cn, Sg, Sn, hB, hG, hE, hS, h1, h2, h3, h4, h5, h6⟩ := hU
  have hlt := hB.lt
  have hle := tot_groups (now := now) h4
  have hlg := hG.len
  have hln := hE.len
  have hnp : 0 < nn := by rw [← hln]; exact List.length_pos_iff.2 hne
  have hnnI : (nn : Int) ≤ 16384 := by omega
  have hngI : (ng : Int) ≤ 16384 := by omega
  have hn0 : (0 : Int) < (nn : Int) := by omega
  have hEr := hE.rd
  obtain ⟨hlg', vs, hown, hes, hd1, hd2⟩ := hG
  have c0 : w.cell? ⟨g, 0, none⟩ = some (.slice Ag ng cg) := hB.cell 0
  have c1 : w.cell? ⟨g, 1, none⟩ = some (.slice An nn cn) := hB.cell 1
  have c2 : w.cell? ⟨g, 2, none⟩ = some (.int .i64 op) := hB.cell 2
  have f0 := hB.frozen 0
  have f1 := hB.frozen 1
  have f2 := hB.frozen 2
  have hgA : ¬ (Value.slice Ag ng cg).ownBlock = some g := fun e => h0 (hS g (.inr (.inr (.inl e))))
  have hSx : ∀ b, (Sn b ∨ (Value.slice An nn cn).ownBlock = some b) → b < w.heap.size ∧ (Value.slice Ag ng cg).ownBlock ≠ some b := by
    obtain ⟨_, ve, he1, _, _, he4⟩ := hE
    rintro b (hb | hb)
    · exact ⟨he4 b hb, fun e => h2 b e hb⟩
    · exact ⟨(he1.lt b hb).2, own_types he1 hown (by decide) b hb⟩
  have HLE := hid hle
  have HLG := hid hlg
  have HLN := hid hln
  clear hle hlg hln hlg'
  go_enter Try.func82, Try.ntmps82
  go_wp2
  go_region_law (first | ((refine stepG (.tmp 14) (.tmp 20) (by rfl) (by rfl) 0 (.slice Ag ng cg) ng vs (by go_simp) (own_only hown (((Only.refl (fun _ => False) w).alloc _).drew) fun _ _ x => x) _ (some ⟨w.heap.size, 0, none⟩) 1 1 [.slice An nn cn] (by go_simp) ((Rd.one w _ _).pure_ (Only.refl _ _).drew) (by simp [Value.oneCell']) (by unfold maxLen; omega) (by omega) (Nat.zero_le _) ?_; intro A5 c5 w5 ho5 hp5 hat5; have hq5 : Only (fun b => (Value.slice Ag ng cg).ownBlock = some b) w w5 := (((Only.refl _ w).alloc _).drew).then_ hp5 fun i _ e => e; have hB5 := hB.only hq5 hgA; have i0 : w5.cell? ⟨g, 0, none⟩ = some (.slice Ag ng cg) := hB5.cell 0; have i1 : w5.cell? ⟨g, 1, none⟩ = some (.slice An nn cn) := hB5.cell 1; have i2 : w5.cell? ⟨g, 2, none⟩ = some (.int .i64 op) := hB5.cell 2; have j0 := hB5.frozen 0; have j1 := hB5.frozen 1; have j2 := hB5.frozen 2)))
  all_goals
    go_wp2
    go_end0
    have hcl : closeG gs now = gs ++ [now] := by unfold closeG; rw [if_neg hne]
    have hst := OwnK.step (K := grKind) (z := []) HLG.out hown hes hd1 hd2 (Only.refl _ w) (x := now) (Sx := fun b => Sn b ∨ (Value.slice An nn cn).ownBlock = some b) ⟨An, nn, cn, rfl, hEr⟩ rfl hSx (((Only.refl (fun _ => False) w).alloc (.cells #[.slice An nn cn] 71)).drew) ho5 hp5 hat5
    have ho : Only (fun b => b = g) w5 (((w5.setCell ⟨g, 0, none⟩ (.slice A5 (ng + 1) c5)).setCell ⟨g, 1, none⟩ (.slice none 0 0)).setCell ⟨g, 2, none⟩ (.int .i64 0)) := (((Only.refl _ w5).set 0 _).set 1 _).set 2 _
    have hSA : ∀ b, (Value.slice A5 (ng + 1) c5).ownBlock = some b → b ≠ g ∧ ((Value.slice Ag ng cg).ownBlock = some b ∨ w.heap.size ≤ b) := by
      intro b hb
      rcases hat5 with h | h
      · rw [h] at hb; exact ⟨fun e => hgA (e ▸ hb), .inl hb⟩
      · rw [h] at hb; injection hb with hb; simp at hb; exact ⟨by omega, .inr (by omega)⟩
    have hSx5 : ∀ b, (Sg b ∨ (Sn b ∨ (Value.slice An nn cn).ownBlock = some b)) → S b := by
      rintro b (hb | hb | hb)
      · exact hS b (.inl hb)
      · exact hS b (.inr (.inl hb))
      · exact hS b (.inr (.inr (.inr hb)))
    refine ⟨rfl, ⟨?_, A5, ng + 1, c5, none, 0, 0, (fun b => Sg b ∨ (Sn b ∨ (Value.slice An nn cn).ownBlock = some b)), fun _ => False, ?_, ?_, OwnK.nil _ _, ?_, ?_, ?_, ?_, ?_, ?_, ?_⟩, (hq5.mono fun b _ e => .inl (hS b (.inr (.inr (.inl e))))).trans (ho.mono fun b _ e => .inr e)⟩
    · rintro (h | h)
      · exact h0 h
      · omega
    · rw [tot_close]
      simpa using ((hB5.set_ 0 (.slice A5 (ng + 1) c5)).set_ 1 (.slice none 0 0)).set_ 2 (.int .i64 0)
    · rw [hcl]
      exact hst.only ho (fun b hb e => h0 (e ▸ hSx5 b hb)) (fun b hb e => (hSA b hb).1 e)
    · rintro b (hb | hb | hb | hb)
      · exact .inl (hSx5 b hb)
      · exact hb.elim
      · rcases (hSA b hb).2 with h | h
        · exact .inl (hS b (.inr (.inr (.inl h))))
        · exact .inr h
      · simp [Value.ownBlock] at hb
    · intro b hb; simp [Value.ownBlock] at hb
    · intro b _ x; exact x
    · rw [tot_close]; exact h3
    · rw [hcl]; intro x hx; simp at hx; rcases hx with hx | rfl
      · exact h4 x hx
      · exact hne
    · rw [hcl]; intro x hx; simp at hx; rcases hx with hx | rfl
      · exact h5 x hx
      · exact h6
    · simp

theorem uclose_any (g : Nat) (S : Nat → Prop) (gs : List (List Ed)) (now : List Ed) (op : Int) (w : World) (hU : UL w S g gs now op) :
    Calls Try.prog 82 #[.pointer (some ⟨g, 0, none⟩)] w (ULDid w S g (closeG gs now) [] 0 (.tuple #[])) := by
  by_cases hne : now = []
  · subst hne; exact uclose_none g S gs op w hU
  · exact uclose_some g S gs now op w hU hne

end Go.Proofs.Ytinlpmgchcbjpaa
