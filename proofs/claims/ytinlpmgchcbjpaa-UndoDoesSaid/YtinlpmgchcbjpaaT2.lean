/- The contracts of (*Ring).Len and (*Ring).at over the ring's cells. -/
import Derived.Test.YtinlpmgchcbjpaaT1
namespace Go.Proofs.Ytinlpmgchcbjpaa
open Go Go.RowKit
set_option maxHeartbeats 400000

theorem len_made (g : Nat) (m : Int) (w : World) (h : w.cell? ⟨g, 0, none⟩ = some (.bool true)) (hm : w.cell? ⟨g, 62, none⟩ = some (.int .i64 m)) :
    Calls Try.prog 20 #[.pointer (some ⟨g, 0, none⟩)] w fun e w' => e = .returned (.int .i64 m) ∧ w = w' := by
  go_enter Try.func20, Try.ntmps20
  go_wp2_with (go_at_call 66; refine (none_made _ _ h).mono ?_; rintro e w' ⟨rfl, rfl⟩)
  go_ret
  exact ⟨rfl, rfl⟩

theorem at_any (g head n : Nat) (A : Option Addr) (m c : Nat) (w : World) (hh : head < 60) (hn : n < 60) (h61 : w.cell? ⟨g, 61, none⟩ = some (.int .i64 (head : Int)))
    (hv : w.cell? ⟨g, 1 + (head + n) % 60, none⟩ = some (.slice A m c)) :
    Calls Try.prog 67 #[.pointer (some ⟨g, 0, none⟩), .int .i64 (n : Int)] w fun e w' => e = .returned (.slice A m c) ∧ ∃ q, w' = w.drewN q := by
  go_enter Try.func67, Try.ntmps67
  go_wp2
  go_quiet (fail)
  go_wp2
  go_ret
  exact ⟨rfl, _, rfl⟩

end Go.Proofs.Ytinlpmgchcbjpaa
