/- slices.Clone of a slice of runes hands back new memory that reads as the same list. -/
import Derived.Test.YtinlpmgchcbjpaaT2
import Derived.Test.YtinlpmgchcbjpaaApp
namespace Go.Proofs.Ytinlpmgchcbjpaa
open Go Go.RowKit
set_option maxHeartbeats 400000

/-- The call hands back a slice in new memory that reads as xs; nothing that was there has turned. -/
def OutI (w : World) (xs : List Int) (e : Ending) (w' : World) : Prop :=
  ∃ A n c, e = .returned (.slice A n c) ∧ RdI w' (fun b => w.heap.size ≤ b) A n c xs ∧ Pure w w'

theorem own_new {w w' : World} {A : Option Addr} {n c e size : Nat} {xs : List Value} (h : w'.ownsRow w.heap.size e size (.slice A n c) n xs) : Rd w' (fun b => w.heap.size ≤ b) size A n c xs :=
  Rd.of_own h fun g hg => (h.lt g hg).1

def small (n : Nat) : Prop := n ≤ 35184372088832
theorem small.maxLen {n : Nat} (h : small n) : n ≤ maxLen := by unfold small at h; unfold Go.maxLen; omega
theorem small.bytes {n : Nat} (h : small n) : n * 4 ≤ 140737488355328 := by unfold small at h; omega

theorem clone_any (A : Option Addr) (n c : Nat) (xs : List Int) (S : Nat → Prop) (w : World) (hr : RdI w S A n c xs) (hn : small n) :
    Calls Try.prog 70 #[.slice A n c] w (OutI w xs) := by
  have heq := fun W => Lib.run_eql_slice_nil (P := Try.prog) W 22 21 A n c 0 0 Try.underlying22
  have hA : A.isNone = true → xs = [] := by
    intro h
    rcases Nat.eq_zero_or_pos n with h0 | h0
    · have := hr.len; exact List.eq_nil_of_length_eq_zero (by omega)
    · obtain ⟨g, off, e, _⟩ := hr.at_ h0; subst e; simp at h
  go_enter Try.func70, Try.ntmps70
  go_wp2_with (at_builtin; refine appendI _ _ rfl rfl w.heap.size (.slice (some ⟨w.heap.size, 0, none⟩) 0 0) 0 [] rfl (World.ownsRow_made w #[] 0 (Nat.le_refl _) (Nat.zero_le _) rfl) S A n c _ rfl (Rd.pure_ hr ((Only.refl _ w).alloc _)) (oneI xs) (by simpa using hn.maxLen) (by simpa using hn.bytes) (by simp) ?_; intro A' c' w' ho hp _; simp only [Nat.zero_add, List.nil_append] at ho)
  · go_ret
    rw [hA (by assumption)]
    exact ⟨_, _, _, rfl, RdI.nil _ _ _ _ (Nat.zero_le _), Only.refl _ _⟩
  · go_ret
    refine ⟨_, _, _, rfl, own_new ho, ((Only.refl _ w).alloc _).then_ hp fun i hi hv => ?_⟩
    simp [Value.ownBlock] at hv
    omega

end Go.Proofs.Ytinlpmgchcbjpaa
