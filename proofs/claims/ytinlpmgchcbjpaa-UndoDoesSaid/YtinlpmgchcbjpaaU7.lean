/- The list of edits: what it holds; New, none, Len, Edits, Open, Begin. -/
import Derived.Test.YtinlpmgchcbjpaaU6
namespace Go.Proofs.Ytinlpmgchcbjpaa
open Go Go.RowKit
set_option maxHeartbeats 1000000
set_option maxRecDepth 100000

def tot (gs : List (List Ed)) (now : List Ed) : Nat := (gs.map List.length).sum + now.length

/-- The list of edits in block g: its groups, the group that is open, how many are open. -/
def UL (w : World) (S : Nat → Prop) (g : Nat) (gs : List (List Ed)) (now : List Ed) (op : Int) : Prop :=
  ¬ S g ∧ ∃ Ag ng cg An nn cn Sg Sn, Blk w g 102 #[.slice Ag ng cg, .slice An nn cn, .int .i64 op, .int .i64 (tot gs now : Nat), .bool true] ∧
    OwnK grKind 71 1 [] 0 w Ag ng cg gs Sg ∧ OwnK edKind 60 3 Ed.none 0 w An nn cn now Sn ∧
    (∀ b, Sg b ∨ Sn b ∨ (Value.slice Ag ng cg).ownBlock = some b ∨ (Value.slice An nn cn).ownBlock = some b → S b) ∧
    (∀ b, (Value.slice An nn cn).ownBlock = some b → ¬ Sg b) ∧ (∀ b, (Value.slice Ag ng cg).ownBlock = some b → ¬ Sn b) ∧
    tot gs now ≤ 16384 ∧ (∀ x ∈ gs, x ≠ []) ∧ (∀ x ∈ gs, ∀ e ∈ x, e.fit) ∧ (∀ e ∈ now, e.fit)

theorem tot_groups {gs : List (List Ed)} {now : List Ed} (h : ∀ x ∈ gs, x ≠ []) : gs.length + now.length ≤ tot gs now := by
  unfold tot
  induction gs with
  | nil => simp
  | cons x gs ih =>
    have h1 := ih fun y hy => h y (List.mem_cons_of_mem _ hy)
    have h2 : 0 < x.length := List.length_pos_iff.2 (h x (List.mem_cons_self ..))
    simp only [List.length_cons, List.map_cons, List.sum_cons]
    omega

section
variable {w w' : World} {S S' T : Nat → Prop} {g : Nat} {gs : List (List Ed)} {now : List Ed} {op : Int}
theorem UL.lt (h : UL w S g gs now op) : g < w.heap.size := by obtain ⟨_, Ag, ng, cg, An, nn, cn, Sg, Sn, hB, _⟩ := h; exact hB.lt
theorem UL.only (h : UL w S g gs now op) (ho : Only T w w') (hT : ∀ b, S b → ¬ T b) (hg : ¬ T g) : UL w' S g gs now op := by
  obtain ⟨h0, Ag, ng, cg, An, nn, cn, Sg, Sn, hB, hG, hE, hS, h1, h2, h3⟩ := h
  exact ⟨h0, Ag, ng, cg, An, nn, cn, Sg, Sn, hB.only ho hg, hG.only ho (fun b hb => hT b (hS b (.inl hb))) (fun b hb => hT b (hS b (.inr (.inr (.inl hb))))), hE.only ho (fun b hb => hT b (hS b (.inr (.inl hb)))) (fun b hb => hT b (hS b (.inr (.inr (.inr hb))))), hS, h1, h2, h3⟩
theorem UL.pure_ (h : UL w S g gs now op) (ho : Pure w w') : UL w' S g gs now op := h.only ho (fun _ _ x => x) fun x => x
/-- Blocks that are not there yet are none of its own. -/
theorem UL.tight (h : UL w S g gs now op) : UL w (fun b => S b ∧ b < w.heap.size) g gs now op := by
  obtain ⟨h0, Ag, ng, cg, An, nn, cn, Sg, Sn, hB, hG, hE, hS, h3⟩ := h
  refine ⟨fun x => h0 x.1, Ag, ng, cg, An, nn, cn, Sg, Sn, hB, hG, hE, fun b hb => ⟨hS b hb, ?_⟩, h3⟩
  rcases hb with hb | hb | hb | hb
  · exact hG.2.choose_spec.2.2.2 b hb
  · exact hE.2.choose_spec.2.2.2 b hb
  · exact hG.lt b hb
  · exact hE.lt b hb
theorem UL.mono (h : UL w S g gs now op) (hS' : ∀ b, b < w.heap.size → S b → S' b) (hg : ¬ S' g) : UL w S' g gs now op := by
  obtain ⟨h0, Ag, ng, cg, An, nn, cn, Sg, Sn, hB, hG, hE, hS, h3⟩ := h.tight
  exact ⟨hg, Ag, ng, cg, An, nn, cn, Sg, Sn, hB, hG, hE, fun b hb => hS' b (hS b hb).2 (hS b hb).1, h3⟩
theorem UL.c4 (h : UL w S g gs now op) : w.cell? ⟨g, 4, none⟩ = some (.bool true) := by obtain ⟨_, Ag, ng, cg, An, nn, cn, Sg, Sn, hB, _⟩ := h; exact hB.cell 4
theorem UL.c2 (h : UL w S g gs now op) : w.cell? ⟨g, 2, none⟩ = some (.int .i64 op) := by obtain ⟨_, Ag, ng, cg, An, nn, cn, Sg, Sn, hB, _⟩ := h; exact hB.cell 2
theorem UL.c3 (h : UL w S g gs now op) : w.cell? ⟨g, 3, none⟩ = some (.int .i64 (tot gs now : Nat)) := by obtain ⟨_, Ag, ng, cg, An, nn, cn, Sg, Sn, hB, _⟩ := h; exact hB.cell 3
end

theorem unone_made (g : Nat) (w : World) (h : w.cell? ⟨g, 4, none⟩ = some (.bool true)) :
    Calls Try.prog 78 #[.pointer (some ⟨g, 0, none⟩)] w fun e w' => e = .returned (.bool false) ∧ w = w' := by
  go_enter Try.func78, Try.ntmps78
  go_wp2
  go_ret
  exact ⟨rfl, rfl⟩

theorem unew_any (w : World) : Calls Try.prog 40 #[] w fun e w' => ∃ g, e = .returned (.pointer (some ⟨g, 0, none⟩)) ∧ w.heap.size ≤ g ∧ UL w' (fun _ => False) g [] [] 0 ∧ Pure w w' := by
  go_enter Try.func40, Try.ntmps40
  go_wp2
  go_ret
  refine ⟨w.heap.size, rfl, Nat.le_refl _, ⟨fun x => x, none, 0, 0, none, 0, 0, fun _ => False, fun _ => False, Blk.new w 102 _, OwnK.nil _ _, OwnK.nil _ _, fun b hb => ?_, fun b hb => ?_, fun b hb => ?_, by simp [tot], by simp, by simp, by simp⟩, (Only.refl _ w).alloc _⟩
  · rcases hb with hb | hb | hb | hb
    · exact hb
    · exact hb
    · simp [Value.ownBlock] at hb
    · simp [Value.ownBlock] at hb
  · simp [Value.ownBlock] at hb
  · simp [Value.ownBlock] at hb

theorem ulen_any (g : Nat) (S : Nat → Prop) (gs : List (List Ed)) (now : List Ed) (op : Int) (w : World) (hU : UL w S g gs now op) :
    Calls Try.prog 48 #[.pointer (some ⟨g, 0, none⟩)] w fun e w' => e = .returned (.int .i64 ((gs.length + min 1 now.length : Nat) : Int)) ∧ ∃ q, w' = w.drewN q := by
  have c4 := hU.c4
  obtain ⟨_, Ag, ng, cg, An, nn, cn, Sg, Sn, hB, hG, hE, hS, h1, h2, h3, h4, _⟩ := hU
  have hle := tot_groups (now := now) h4
  have hlg := hG.len
  have hln := hE.len
  have c0 : w.cell? ⟨g, 0, none⟩ = some (.slice Ag ng cg) := hB.cell 0
  have c1 : w.cell? ⟨g, 1, none⟩ = some (.slice An nn cn) := hB.cell 1
  have hngI : (ng : Int) ≤ 16384 := by omega
  have hnnI : (nn : Int) ≤ 16384 := by omega
  have hfin : ((gs.length + min 1 now.length : Nat) : Int) = (ng : Int) + (if (nn : Int) < 1 then (nn : Int) else 1) := by
    rw [hlg, hln]; split <;> omega
  rw [hfin]
  obtain ⟨M, hM⟩ : ∃ M, (if (nn : Int) < 1 then (nn : Int) else 1) = M := ⟨_, rfl⟩
  have hM1 : M ≤ 1 := by rw [← hM]; split <;> omega
  have hM0 : 0 ≤ M := by rw [← hM]; split <;> omega
  rw [hM]
  clear hfin hle hlg hln
  go_enter Try.func48, Try.ntmps48
  go_wp2_with (go_at_call 78; refine (unone_made g w c4).mono ?_; rintro e w' ⟨rfl, rfl⟩)
  go_region
  all_goals
    go_wp2
    go_ret
    exact ⟨rfl, 1, rfl⟩

end Go.Proofs.Ytinlpmgchcbjpaa
