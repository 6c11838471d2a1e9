/- The ring's iterator: the function that All hands back goes through the entries, each a copy in new memory. -/
import Derived.Test.YtinlpmgchcbjpaaK5
import Derived.Test.YtinlpmgchcbjpaaRf
import Derived.OwnWalkIn
import Derived.TacticsInMore
import Derived.LoopNIn
import Derived.LoopIn
import Derived.Shelf.Abstract
namespace Go.Proofs.Ytinlpmgchcbjpaa
open Go Go.RowKit
set_option maxHeartbeats 1000000
set_option maxRecDepth 100000
attribute [local go_sem] Oper.semAt_some

/-- What a round over the ring's entries is handed: the number, and a copy of that entry in blocks from B on. -/
def Entry (ls : List (List Int)) (B i : Nat) (args : Array Value) (W : World) : Prop :=
  ∃ a m d, args = #[.int .i64 (i : Int), .slice a m d] ∧ RdI W (fun b => B ≤ b) a m d (ls[i]?.getD [])

theorem all1_iter (n : Nat) (Bn : Nat) (A : Option Addr) (N c : Nat) (ls : List (List Int)) (S : Nat → Prop) (B : Nat) (I : Nat → World → Prop) (hN : N ≤ 1024) (hs : ∀ k : Nat, small (ls[k]?.getD []).length)
    (hI : ∀ i W, I i W → Blk W Bn 23 #[.slice A N c] ∧ RdL W S A N c ls ∧ B ≤ W.heap.size) :
    Iter n Try.prog 71 #[.pointer (some ⟨Bn, 0, none⟩)] N (Entry ls B) I := by
  intro l J Jx W hJI hJp hY h0
  obtain ⟨hB, hL, _⟩ := hI _ _ (hJI _ _ h0)
  have hb0 : W.cell? ⟨Bn, 0, none⟩ = some (.slice A N c) := hB.cell 0
  have hNI : (N : Int) ≤ 1024 := by omega
  clear hB hL
  refine callsIn_of_wp Try.func71 rfl trivial ?_ rfl
  simp only [Try.ntmps71, List.size_toArray, List.length_cons, List.length_nil, Nat.reduceAdd, Nat.reduceSub, Array.replicate_succ, Array.replicate_zero, List.push_toArray, List.append_toArray, List.nil_append, List.cons_append]
  gi_wp2
  gi_loopw [7] (fun i wr => ∃ k : Nat, k ≤ N ∧ i = .int .i64 k ∧ J k wr) (fun i _ => N - (intOf i).toNat)
  case atStart => exact ⟨0, Nat.zero_le _, rfl, h0⟩
  case round =>
    obtain ⟨k, hk, rfl, hJk⟩ := hrel
    obtain ⟨hBk, hLk, hBs⟩ := hI _ _ (hJI _ _ hJk)
    by_cases hlt : k < N
    · obtain ⟨g, off, a, m, d, rfl, _, _, hc, hx⟩ := hLk.at_ hlt
      have hm : small m := by rw [← hx.len]; exact hs k
      gi_wp2_with ((refine ⟨trivial, ?_⟩; gi_at_call 70; refine (callsIn_wide.2 (clone_any a m d _ S wr hx hm)).mono ?_; rintro e w2 ⟨A1, n1, c1, rfl, hR2, hp2⟩))
      obtain ⟨fn, tmps, assign, body, hy, hR⟩ := hY k #[.int .i64 (k : Int), .slice A1 n1 c1] w2 hlt (hJp _ _ _ hJk hp2) ⟨A1, n1, c1, rfl, hR2.mono fun b _ hb => Nat.le_trans hBs hb⟩
      clear hR2 hx
      rw [hy]
      refine ⟨(fun h => (by cases h)), hR.mono ?_⟩
      rintro e W3 (⟨rfl, hJ3⟩ | ⟨rfl, hJx3⟩)
      · gi_wp2
        go_roundw
        case rel => exact ⟨k + 1, by omega, by go_num, hJ3⟩
        case measure => simp [intOf]; omega
      · gi_wp2
        refine bodyPost_ret (results_none rfl _ _ _) rfl ?_
        exact ⟨⟨_, rfl⟩, .inr hJx3⟩
    · obtain rfl : k = N := by omega
      gi_wp2
      go_end0
      exact ⟨⟨_, rfl⟩, .inl hJk⟩

end Go.Proofs.Ytinlpmgchcbjpaa
