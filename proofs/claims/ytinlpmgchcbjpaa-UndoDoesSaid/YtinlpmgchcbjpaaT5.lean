/- slices.Grow of nil, and slices.Concat of a few slices of runes: new memory that reads as the lists joined. -/
import Derived.Test.YtinlpmgchcbjpaaT4
import Derived.Lib.AppendZerosOnto
import Derived.Lib.SliceRun
namespace Go.Proofs.Ytinlpmgchcbjpaa
open Go Go.RowKit
set_option maxHeartbeats 400000

/-- The call hands back a row of its own that reads as xs. -/
def OutOwn (e0 size : Nat) (w : World) (xs : List Value) (e : Ending) (w' : World) : Prop :=
  ∃ A n c, e = .returned (.slice A n c) ∧ w'.ownsRow w.heap.size e0 size (.slice A n c) n xs ∧ Pure w w'

theorem grow_zero (w : World) : Calls Try.prog 85 #[.slice none 0 0, .int .i64 0] w (OutOwn 21 1 w []) := by
  go_enter Try.func85, Try.ntmps85
  go_wp2
  go_ret
  exact ⟨_, _, _, rfl, World.ownsRow_nil _ _ _ _, Only.refl _ _⟩

theorem run_grow_zeros (w : World) (n : Nat) (hn : small n) (hp : 0 < n) (ty : TypeId) :
    ∃ c cs, (Builtin.append_ #[22, 3] ty #[.slice none 0 0, .int .i64 (n : Int)]).run Try.prog w = .ok (.slice (some ⟨w.heap.size, 0, none⟩) n c) (w.drew.alloc (.cells cs 21)) ∧ n ≤ c ∧ c ≤ maxLen ∧ cs.size = c := by
  obtain ⟨i0, hi, hz0, hz1, hz2⟩ := info_parts infoI
  have hsm : n ≤ 35184372088832 := hn
  have h := Lib.run_append_grow_zeros (P := Try.prog) w 22 3 ty 21 i0 _ .i64 .i64 Try.underlying22 Try.underlying3 hi hz0 none 0 0 [] (run_firstCells_none w.drew i0.size 0 0 0) n hp (by omega) (by omega) (by omega) (by rw [hz2]; omega)
    (growslice_fits (by omega) (by rw [hz2]; omega))
  rw [Nat.zero_add] at h
  refine ⟨_, _, h, grownCap_ge _ _ _ _, grownCap_le_maxLen _ _ _ _ hn.maxLen, ?_⟩
  have := grownCap_ge w n 0 21
  simp only [Array.size_append, size_zeroCells, List.size_toArray, List.length_nil, Value.cells]
  simp
  omega

set_option maxRecDepth 100000 in
theorem grow_some (w : World) (n : Nat) (hn : small n) (hp : 0 < n) : Calls Try.prog 85 #[.slice none 0 0, .int .i64 (n : Int)] w (OutOwn 21 1 w []) := by
  obtain ⟨c, cs, hrun, h1, h2, h3⟩ := run_grow_zeros w n hn hp 22
  have H3 := hid h3; clear h3
  have hb : (n : Int) ≤ 9223372036854775807 := by unfold small at hn; omega
  have hb2 : (0 : Int) < n := by omega
  have hcm : (c : Int) ≤ 9223372036854775807 := by unfold maxLen at h2; omega
  go_enter Try.func85, Try.ntmps85
  go_wp2_with (at_builtin; refine Lib.wpList_append_run _ rfl _ _ _ _ rfl _ _ rfl rfl _ _ hrun ?_)
  go_ret
  refine ⟨_, _, _, rfl, ⟨by simp, .inr ⟨w.heap.size, c, cs, rfl, Nat.le_refl _, heap_alloc_new w.drew _, Nat.zero_le _, h2, by rw [H3.out]; simp, by simp⟩⟩, ((Only.refl _ w).drew).alloc _⟩

theorem grow_any (w : World) (n : Nat) (hn : small n) : Calls Try.prog 85 #[.slice none 0 0, .int .i64 (n : Int)] w (OutOwn 21 1 w []) := by
  rcases Nat.eq_zero_or_pos n with h | h
  · subst h; exact grow_zero w
  · exact grow_some w n hn h

def flat (ls : List (List Int)) (k : Nat) : List Int := (ls.take k).flatten
theorem flat_succ (ls : List (List Int)) (k : Nat) : flat ls (k + 1) = flat ls k ++ (ls[k]?.getD []) := by
  unfold flat
  rw [List.take_add_one]
  cases ls[k]? <;> simp
theorem flat_le (ls : List (List Int)) (k : Nat) : (flat ls k).length ≤ ls.flatten.length := by
  unfold flat
  have h : (ls.take k).flatten ++ (ls.drop k).flatten = ls.flatten := by rw [← List.flatten_append, List.take_append_drop]
  rw [← h, List.length_append]; omega
theorem flat_all (ls : List (List Int)) {n : Nat} (h : ls.length = n) : flat ls n = ls.flatten := by unfold flat; rw [List.take_of_length_le (by omega)]

set_option maxRecDepth 100000 in
theorem concat_any (A : Option Addr) (n c : Nat) (ls : List (List Int)) (S : Nat → Prop) (w : World) (hr : RdL w S A n c ls) (hn : n ≤ 1024) (hs : small ls.flatten.length) :
    Calls Try.prog 69 #[.slice A n c] w (OutI w ls.flatten) := by
  obtain ⟨N, hN⟩ : ∃ N, N = ls.flatten.length := ⟨_, rfl⟩
  rw [← hN] at hs
  have HN := hid hN; clear hN
  have hb : (N : Int) ≤ 35184372088832 := by unfold small at hs; omega
  have hnb : (n : Int) ≤ 1024 := by omega
  go_enter Try.func69, Try.ntmps69
  go_wp2
  go_loop [3, 11] (fun s i => ∃ k : Nat, k ≤ n ∧ i = .int .i64 k ∧ s = .int .i64 (flat ls k).length) (fun _ i => n - (intOf i).toNat)
  case atStart => exact ⟨0, Nat.zero_le _, rfl, rfl⟩
  case round =>
    obtain ⟨k, hk, rfl, rfl⟩ := hrel
    have hle := flat_le ls (k + 1)
    have hle0 := flat_le ls k
    rw [← HN.out] at hle hle0
    rw [flat_succ, List.length_append] at hle
    by_cases hlt : k < n
    · obtain ⟨g, off, a, m, d, rfl, _, _, hc, hri⟩ := hr.at_ hlt
      have hlen := hri.len
      rw [hlen] at hle
      have HL := hid hlen; clear hlen
      obtain ⟨F, hF⟩ : ∃ F, F = (flat ls k).length := ⟨_, rfl⟩
      rw [← hF] at hle hle0 ⊢
      have HF := hid hF; clear hF
      go_wp2
      go_round
      case rel => exact ⟨k + 1, by omega, by go_num, by rw [flat_succ, List.length_append, HL.out, ← HF.out]; go_num⟩
      case measure => simp [intOf]; omega
    · obtain rfl : k = n := by omega
      rw [flat_all ls hr.len, ← HN.out]
      go_wp2_with (go_at_call 85; refine (grow_any _ N hs).mono ?_; rintro e w1 ⟨A1, n1, c1, rfl, ho, hp⟩)
      go_loopw [6, 27] (fun v i wr => ∃ (j : Nat) (A2 : Option Addr) (n2 c2 : Nat), j ≤ k ∧ i = .int .i64 j ∧ v = .slice A2 n2 c2 ∧ wr.ownsRow w.heap.size 21 1 v n2 ((flat ls j).map (Value.int .i32)) ∧ Pure w wr) (fun _ i _ => k - (intOf i).toNat)
      case atStart => exact ⟨0, A1, n1, c1, Nat.zero_le _, rfl, rfl, ho, hp⟩
      case round =>
        obtain ⟨j, A2, n2, c2, hj, rfl, rfl, ho2, hp2⟩ := hrel
        have hle := flat_le ls (j + 1)
        rw [← HN.out, flat_succ, List.length_append] at hle
        have hn2 : (flat ls j).length = n2 := by have := ho2.1; simpa using this
        rw [hn2] at hle
        clear hn2
        by_cases hlt : j < k
        · obtain ⟨g, off, a, m, d, rfl, _, _, hc, hri⟩ := (hr.pure_ hp2).at_ hlt
          rw [hri.len] at hle
          have hbN : N ≤ 35184372088832 := hs
          go_wp2_with (at_builtin; refine appendI _ _ rfl rfl w.heap.size (.slice A2 n2 c2) n2 _ rfl ho2 S a m d _ rfl hri (oneI _) (by unfold maxLen; omega) (by omega) hp2.size ?_; intro A' c' w' ho' hp' _; rw [← List.map_append, ← flat_succ] at ho')
          go_roundw
          case rel => exact ⟨j + 1, _, _, _, by omega, by go_num, rfl, ho', hp2.then_ hp' fun i hi hv => by have := (ho2.lt i hv).1; omega⟩
          case measure => simp [intOf]; omega
        · obtain rfl : j = k := by omega
          rw [flat_all ls hr.len] at ho2
          go_wp2
          go_ret
          exact ⟨_, _, _, rfl, own_new ho2, hp2⟩

end Go.Proofs.Ytinlpmgchcbjpaa
