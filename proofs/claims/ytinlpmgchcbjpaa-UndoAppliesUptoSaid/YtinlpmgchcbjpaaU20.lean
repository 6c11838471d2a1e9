/- The reference's Join answers the same. -/
import Derived.Test.YtinlpmgchcbjpaaU18
import Derived.Test.YtinlpmgchcbjpaaU3
import Derived.Deep.RegionHeldLaw
import Derived.Deep.DrawnRows
namespace Go.Proofs.Ytinlpmgchcbjpaa
open Go Go.RowKit
set_option maxHeartbeats 1000000
set_option maxRecDepth 100000
attribute [local go_sem ↓] Go.wp_at_zero Go.wp_at_succ

theorem rjoin_none (at0 : Int) (A : Option Addr) (n c : Nat) (del : List Int) (A' : Option Addr) (n' c' : Nat) (ins : List Int) (S' : Nat → Prop)
    (at1 : Int) (B : Option Addr) (m d : Nat) (del1 : List Int) (B' : Option Addr) (m' d' : Nat) (ins1 : List Int) (T T' : Nat → Prop) (w : World)
    (hr' : RdI w S' A' n' c' ins) (hn' : small n') (hq : RdI w T B m d del1) (hq' : RdI w T' B' m' d' ins1) (hm : small m) (w0 : word at0) (w1 : word at1)
    (hA : ¬ joinA ⟨at0, del, ins⟩ ⟨at1, del1, ins1⟩) (hB : ¬ joinB ⟨at0, del, ins⟩ ⟨at1, del1, ins1⟩) :
    Calls Try.prog 33 #[.agg #[.int .i64 at0, .slice A n c, .slice A' n' c'], .agg #[.int .i64 at1, .slice B m d, .slice B' m' d']] w (JoinDid w ⟨at0, del, ins⟩ ⟨at1, del1, ins1⟩) := by
  have k1 := sub_eq_iff' w1 w0 hn'
  have k2 := sub_eq_iff' w0 w1 hm
  have L1 := hr'.len
  have L2 := hq.len
  have L3 := hq'.len
  obtain ⟨W1, hW1⟩ : ∃ W1, IntKind.i64.wrap (at1 - at0) = W1 := ⟨_, rfl⟩
  obtain ⟨W2, hW2⟩ : ∃ W2, IntKind.i64.wrap (at0 - at1) = W2 := ⟨_, rfl⟩
  rw [hW1] at k1
  rw [hW2] at k2
  have c1 : ((m : Int) == 0) = false ∨ ((m : Int) == 0) = true ∧ decide (at0 ≤ at1) = false ∨ ((m : Int) == 0) = true ∧ decide (at0 ≤ at1) = true ∧ (W1 == (n' : Int)) = false := by
    by_cases h1 : (m : Int) = 0
    · by_cases h3 : at0 ≤ at1
      · by_cases h2 : W1 = (n' : Int)
        · exact (hA ⟨show del1 = [] from List.eq_nil_of_length_eq_zero (by omega), by have := k1.1 ⟨h3, h2⟩; simp only [L1]; exact this⟩).elim
        · exact .inr (.inr ⟨by simpa using h1, by simpa using h3, by simpa using h2⟩)
      · exact .inr (.inl ⟨by simpa using h1, by simpa using h3⟩)
    · exact .inl (by simpa using h1)
  have c2 : ((n' : Int) == 0) = false ∨ ((n' : Int) == 0) = true ∧ ((m' : Int) == 0) = false ∨ ((n' : Int) == 0) = true ∧ ((m' : Int) == 0) = true ∧ decide (at1 ≤ at0) = false ∨ ((n' : Int) == 0) = true ∧ ((m' : Int) == 0) = true ∧ decide (at1 ≤ at0) = true ∧ (W2 == (m : Int)) = false := by
    by_cases h1 : (n' : Int) = 0
    · by_cases h2 : (m' : Int) = 0
      · by_cases h4 : at1 ≤ at0
        · by_cases h3 : W2 = (m : Int)
          · exact (hB ⟨show ins = [] from List.eq_nil_of_length_eq_zero (by omega), show ins1 = [] from List.eq_nil_of_length_eq_zero (by omega), by have := k2.1 ⟨h4, h3⟩; simp only [L2]; omega⟩).elim
          · exact .inr (.inr (.inr ⟨by simpa using h1, by simpa using h2, by simpa using h4, by simpa using h3⟩))
        · exact .inr (.inr (.inl ⟨by simpa using h1, by simpa using h2, by simpa using h4⟩))
      · exact .inr (.inl ⟨by simpa using h1, by simpa using h2⟩)
    · exact .inl (by simpa using h1)
  clear k1 k2 L1 L2 L3 hr' hq hq' hn' hm
  rcases c1 with e1 | ⟨e1, e2⟩ | ⟨e1, e2, e3⟩ <;> rcases c2 with f1 | ⟨f1, f2⟩ | ⟨f1, f2, f3⟩ | ⟨f1, f2, f3, f4⟩
  all_goals
    go_enter Try.func33, Try.ntmps33
    go_wp2
    refine bodyPost_ret (results_row_tmp rfl _ _ (w.heap.size + 2) 60 #[.int .i64 0, .slice none 0 0, .slice none 0 0] (0, 0) _ rfl ?_ Try.underlying60 rfl size60) rfl ?_
    · exact Blk.new3 w _ _ _ _
    · exact JoinDid.none_ hA hB ((((Only.refl _ w).alloc _).alloc _).alloc _)


end Go.Proofs.Ytinlpmgchcbjpaa
