/- Join, the second case; Join, whole. -/
import Derived.Test.YtinlpmgchcbjpaaU17
namespace Go.Proofs.Ytinlpmgchcbjpaa
open Go Go.RowKit
set_option maxHeartbeats 1000000
set_option maxRecDepth 100000
attribute [local go_sem ↓] Go.wp_at_zero Go.wp_at_succ

set_option maxHeartbeats 2000000 in
theorem join_two (at0 : Int) (A : Option Addr) (n c : Nat) (del : List Int) (A' : Option Addr) (n' c' : Nat) (ins : List Int) (S S' : Nat → Prop)
    (at1 : Int) (B : Option Addr) (m d : Nat) (del1 : List Int) (B' : Option Addr) (m' d' : Nat) (ins1 : List Int) (T T' : Nat → Prop) (w : World)
    (hr : RdI w S A n c del) (hr' : RdI w S' A' n' c' ins) (hn' : small n') (hq : RdI w T B m d del1) (hq' : RdI w T' B' m' d' ins1) (hm : small m) (w0 : word at0) (w1 : word at1)
    (hs : small (m + n)) (hA : ¬ joinA ⟨at0, del, ins⟩ ⟨at1, del1, ins1⟩) (hB : joinB ⟨at0, del, ins⟩ ⟨at1, del1, ins1⟩) :
    Calls Try.prog 32 #[.agg #[.int .i64 at0, .slice A n c, .slice A' n' c'], .agg #[.int .i64 at1, .slice B m d, .slice B' m' d']] w (JoinDid w ⟨at0, del, ins⟩ ⟨at1, del1, ins1⟩) := by
  have hE : joinE ⟨at0, del, ins⟩ ⟨at1, del1, ins1⟩ = ⟨at1, del1 ++ del, []⟩ := by unfold joinE; rw [if_neg hA, if_pos hB]
  have hI : joinIs ⟨at0, del, ins⟩ ⟨at1, del1, ins1⟩ = true := by unfold joinIs; simp [hB]
  unfold JoinDid
  rw [hE, hI]
  obtain rfl : ins = [] := hB.1
  obtain rfl : ins1 = [] := hB.2.1
  obtain rfl : n' = 0 := by have := hr'.len; simpa using this.symm
  obtain rfl : m' = 0 := by have := hq'.len; simpa using this.symm
  have L1 := hr.len
  have L2 := hq.len
  have h2 : at0 = at1 + (m : Int) := by have := hB.2.2; simp only [L2] at this; exact this.symm
  obtain ⟨e2, e3⟩ := (sub_eq_iff w0 w1 hm).2 h2
  have k1 := sub_eq_iff w1 w0 hn'
  have hfl : small [del1, del].flatten.length := by simp [L1, L2]; exact hs
  obtain ⟨W1, hW1⟩ : ∃ W1, IntKind.i64.wrap (at1 - ((0 : Nat) : Int)) = W1 := ⟨_, rfl⟩
  rw [hW1] at k1
  simp only [Int.natCast_zero, Int.sub_zero] at hW1
  have c1 : ((m : Int) == 0) = false ∨ ((m : Int) == 0) = true ∧ (W1 == at0) = false ∨ ((m : Int) == 0) = true ∧ (W1 == at0) = true ∧ decide (at0 ≤ at1) = false := by
    by_cases h1 : (m : Int) = 0
    · by_cases h2 : W1 = at0
      · by_cases h3 : at0 ≤ at1
        · exact (hA ⟨show del1 = [] from List.eq_nil_of_length_eq_zero (by omega), by have := k1.1 ⟨h2, h3⟩; exact this⟩).elim
        · exact .inr (.inr ⟨by simpa using h1, by simpa using h2, by simpa using h3⟩)
      · exact .inr (.inl ⟨by simpa using h1, by simpa using h2⟩)
    · exact .inl (by simpa using h1)
  clear hE hI hA hB L1 L2 h2 k1
  rcases c1 with d1 | ⟨d1, d2⟩ | ⟨d1, d2, d3⟩
  all_goals
    go_enter Try.func32, Try.ntmps32
    go_wp2
    obtain ⟨W0, hW0⟩ : ∃ W0, W0 = ((w.alloc (.cells #[.int .i64 at0, .slice A n c, .slice A' 0 c'] 60)).alloc (.cells #[.int .i64 at1, .slice B m d, .slice B' 0 d'] 60)).alloc (.cells #[.int .i64 0, .slice none 0 0, .slice none 0 0] 60) := ⟨_, rfl⟩
    rw [← hW0]
    have hp0 : Pure w W0 := by rw [hW0]; exact (((Only.refl _ w).alloc _).alloc _).alloc _
    have ha : Blk W0 w.heap.size 60 #[.int .i64 at0, .slice A n c, .slice A' 0 c'] := by rw [hW0]; exact ((Blk.new w _ _).alloc _).alloc _
    have hb : Blk W0 (w.heap.size + 1) 60 #[.int .i64 at1, .slice B m d, .slice B' 0 d'] := by
      rw [hW0]; have := Blk.new (w.alloc (.cells #[.int .i64 at0, .slice A n c, .slice A' 0 c'] 60)) 60 #[.int .i64 at1, .slice B m d, .slice B' 0 d']; rw [World.size_alloc] at this; exact this.alloc _
    have hz : Blk W0 (w.heap.size + 2) 60 #[.int .i64 0, .slice none 0 0, .slice none 0 0] := by rw [hW0]; exact Blk.new3 w _ _ _ _
    clear hW0
    have a1 : W0.cell? ⟨w.heap.size, 1, none⟩ = some (.slice A n c) := ha.cell 1
    have b0 : W0.cell? ⟨w.heap.size + 1, 0, none⟩ = some (.int .i64 at1) := hb.cell 0
    have b1 : W0.cell? ⟨w.heap.size + 1, 1, none⟩ = some (.slice B m d) := hb.cell 1
    have far1 : ¬ w.heap.size + 1 + 1 = w.heap.size := by omega
    have far2 : ¬ w.heap.size + 1 + 1 = w.heap.size + 1 := by omega
    clear e2 e3 d1
    try clear d2
    try clear d3
    go_region_held3 (fun X => X.cell? ⟨w.heap.size + 1, 0, none⟩ = some (.int .i64 at1) ∧ X.cell? ⟨w.heap.size + 1, 1, none⟩ = some (.slice B m d) ∧ X.cell? ⟨w.heap.size, 1, none⟩ = some (.slice A n c))
      (first | go_keep | exact ⟨b0, b1, a1⟩ | exact ⟨fb0, fb1, f1⟩)
      (first | (go_at_call 69; refine (concat_any (some ⟨W0.heap.size, 0, none⟩) 2 2 [del1, del] (fun _ => True) ((W0.alloc (.cells #[.slice B m d, .slice A n c] 22)).drew) (RdL.pure_ (RdL.two (hq.pure_ hp0) (hr.pure_ hp0)) (Only.refl _ _).drew) (by omega) hfl).mono ?_; rintro e w5 ⟨A5, n5, c5, rfl, hR5, hp5⟩; have hp05 : Pure W0 w5 := (((Only.refl _ W0).alloc _).drew).trans hp5; have hX5 : RdI w5 (fun b => W0.heap.size ≤ b) A5 n5 c5 [del1, del].flatten := RdI.mono hR5 (fun b _ hb => by have hb2 : _ ≤ b := hb; (try simp at hb2); omega); have ha5 := ha.pure_ hp05; have hb5 := hb.pure_ hp05; have hz5 := hz.pure_ hp05; have f0 : w5.cell? ⟨w.heap.size, 0, none⟩ = some (.int .i64 at0) := ha5.cell 0; have f1 : w5.cell? ⟨w.heap.size, 1, none⟩ = some (.slice A n c) := ha5.cell 1; have f2 : w5.cell? ⟨w.heap.size, 2, none⟩ = some (.slice A' 0 c') := ha5.cell 2; have fb0 : w5.cell? ⟨w.heap.size + 1, 0, none⟩ = some (.int .i64 at1) := hb5.cell 0; have fb1 : w5.cell? ⟨w.heap.size + 1, 1, none⟩ = some (.slice B m d) := hb5.cell 1; have fb2 : w5.cell? ⟨w.heap.size + 1, 2, none⟩ = some (.slice B' 0 d') := hb5.cell 2; have z0 : w5.cell? ⟨w.heap.size + 1 + 1, 0, none⟩ = some (.int .i64 0) := hz5.cell 0; have y0 : w5.frozen? ⟨w.heap.size + 1 + 1, 0, none⟩ = false := hz5.frozen 0; have z1 : w5.cell? ⟨w.heap.size + 1 + 1, 1, none⟩ = some (.slice none 0 0) := hz5.cell 1; have y1 : w5.frozen? ⟨w.heap.size + 1 + 1, 1, none⟩ = false := hz5.frozen 1; have z2 : w5.cell? ⟨w.heap.size + 1 + 1, 2, none⟩ = some (.slice none 0 0) := hz5.cell 2; have y2 : w5.frozen? ⟨w.heap.size + 1 + 1, 2, none⟩ = false := hz5.frozen 2))
  all_goals
    go_wp2
    have ho : Only (fun b => b = w.heap.size + 2) w5 (((w5.setCell ⟨w.heap.size + 2, 0, none⟩ (.int .i64 at1)).setCell ⟨w.heap.size + 2, 1, none⟩ (.slice A5 n5 c5)).setCell ⟨w.heap.size + 2, 2, none⟩ (.slice none 0 0)) := (((Only.refl _ w5).set 0 _).set 1 _).set 2 _
    have hs0 := hp0.size
    have hlz := hz.lt
    refine bodyPost_ret (results_row_tmp rfl _ _ (w.heap.size + 2) 60 #[.int .i64 at1, .slice A5 n5 c5, .slice none 0 0] (0, 0) _ rfl (by simpa [Blk] using ((hz5.set_ 0 (.int .i64 at1)).set_ 1 (.slice A5 n5 c5)).set_ 2 (.slice none 0 0)) Try.underlying60 rfl size60) rfl ?_
    refine ⟨A5, n5, c5, none, 0, 0, rfl, RdI.mono (RdI.only (by simpa using hX5) ho fun b hb _ e => ?_) (fun b _ hb => ?_), RdI.nil _ _ _ _ (Nat.zero_le _), (hp0.trans hp05).then_ ho fun i hi e => ?_⟩
    · have h1 : W0.heap.size ≤ b := hb; have h2 : b = w.heap.size + 2 := e; omega
    · have h1 : W0.heap.size ≤ b := hb; omega
    · have h2 : i = w.heap.size + 2 := e; omega

theorem join_any (at0 : Int) (A : Option Addr) (n c : Nat) (del : List Int) (A' : Option Addr) (n' c' : Nat) (ins : List Int) (S S' : Nat → Prop)
    (at1 : Int) (B : Option Addr) (m d : Nat) (del1 : List Int) (B' : Option Addr) (m' d' : Nat) (ins1 : List Int) (T T' : Nat → Prop) (w : World)
    (hr : RdI w S A n c del) (hr' : RdI w S' A' n' c' ins) (hn : small n) (hn' : small n') (hq : RdI w T B m d del1) (hq' : RdI w T' B' m' d' ins1) (hm : small m) (w0 : word at0) (w1 : word at1)
    (hs : joinA ⟨at0, del, ins⟩ ⟨at1, del1, ins1⟩ → small (n' + m')) (hs' : joinB ⟨at0, del, ins⟩ ⟨at1, del1, ins1⟩ → small (m + n)) :
    Calls Try.prog 32 #[.agg #[.int .i64 at0, .slice A n c, .slice A' n' c'], .agg #[.int .i64 at1, .slice B m d, .slice B' m' d']] w (JoinDid w ⟨at0, del, ins⟩ ⟨at1, del1, ins1⟩) := by
  by_cases hA : joinA ⟨at0, del, ins⟩ ⟨at1, del1, ins1⟩
  · exact join_one at0 A n c del A' n' c' ins S S' at1 B m d del1 B' m' d' ins1 T T' w hr hr' hn hn' hq hq' hm w0 w1 (hs hA) hA
  · by_cases hB : joinB ⟨at0, del, ins⟩ ⟨at1, del1, ins1⟩
    · exact join_two at0 A n c del A' n' c' ins S S' at1 B m d del1 B' m' d' ins1 T T' w hr hr' hn' hq hq' hm w0 w1 (hs' hB) hA hB
    · exact join_none at0 A n c del A' n' c' ins S' at1 B m d del1 B' m' d' ins1 T T' w hr' hn' hq hq' hm w0 w1 hA hB

end Go.Proofs.Ytinlpmgchcbjpaa
