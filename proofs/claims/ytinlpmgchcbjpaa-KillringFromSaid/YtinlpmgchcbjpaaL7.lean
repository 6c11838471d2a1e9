/- The law KillringFrom, walked. -/
import Derived.Test.YtinlpmgchcbjpaaR1
import Derived.Test.YtinlpmgchcbjpaaK8
import Derived.Test.YtinlpmgchcbjpaaRd
namespace Go.Proofs.Ytinlpmgchcbjpaa
open Go Go.RowKit
set_option maxHeartbeats 1000000
set_option maxRecDepth 100000

theorem klaw_from (A : Option Addr) (N c : Nat) (ls : List (List Int)) (w : World) (hL : RdL w (Old w) A N c ls) (hmax : (N : Int) ≤ 9223372036854775807) (hmx : ∀ k : Nat, ((ls[k]?.getD []).length : Int) ≤ 9223372036854775807) :
    Calls Try.prog 7 #[.slice A N c] w fun e w' => e = .returned (.bool true) ∧ Pure w w' := by
  by_cases ht : tooMuch ls
  · go_enter Try.func7, Try.ntmps7
    go_wp2_with (first
      | (go_at_call 28; refine (from_any A N c ls _ w hL hmax (fun _ h => h)).mono ?_; rintro e w1 (⟨_, rfl, rfl⟩ | ⟨hn, _⟩); rotate_left; exact absurd ht hn)
      | (go_at_call 29; refine (ref_from_any A N c ls _ w hL hmax (fun _ h => h) hmx).mono ?_; rintro e w1 (⟨_, rfl, hp1⟩ | ⟨hn, _⟩); rotate_left; exact absurd ht hn)
      | (go_at_call 16; refine (live_any w1).mono ?_; rintro e w2 ⟨rfl, hp2⟩))
    go_ret
    exact ⟨rfl, hp1.trans hp2⟩
  · go_enter Try.func7, Try.ntmps7
    go_wp2_with (first
      | (go_at_call 28; refine (from_any A N c ls _ w hL hmax (fun _ h => h)).mono ?_; rintro e w1 (⟨hn, _⟩ | ⟨_, g, rfl, hg, hR, hp1⟩); exact absurd hn ht)
      | (go_at_call 29; refine (ref_from_any A N c ls _ w1 (hL.pure_ hp1) hmax (fun b h => Nat.lt_of_lt_of_le h hp1.size) hmx).mono ?_; rintro e w2 (⟨hn, _⟩ | ⟨_, g2, rfl, hg2, hQ, hp2⟩); exact absurd hn ht; obtain ⟨hQ1, A2, N2, c2, hB2, hL2, _⟩ := hQ)
      | (go_at_call 16; refine (live_any w2).mono ?_; rintro e w3 ⟨rfl, hp3⟩; have b2 := (hB2.pure_ hp3).cell 0; have f2 : w3.cell? ⟨g2, 0, none⟩ = some (.slice A2 N2 c2) := b2)
      | (go_at_call 27; refine (told_any g _ _ ls 0 A2 N2 c2 0 w3 ((hR.pure_ hp2).pure_ hp3) (hL2.pure_ hp3)).mono ?_; rintro e w4 ⟨rfl, hp4⟩))
    go_ret
    exact ⟨rfl, ((hp1.trans hp2).trans hp3).trans hp4⟩

end Go.Proofs.Ytinlpmgchcbjpaa
