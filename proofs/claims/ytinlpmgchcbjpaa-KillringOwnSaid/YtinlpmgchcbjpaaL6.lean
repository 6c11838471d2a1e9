/- The law KillringRound, walked. -/
import Derived.Test.YtinlpmgchcbjpaaF1
import Derived.Test.YtinlpmgchcbjpaaRd
namespace Go.Proofs.Ytinlpmgchcbjpaa
open Go Go.RowKit
set_option maxHeartbeats 1000000
set_option maxRecDepth 100000

theorem rotPl_fwd {N k : Nat} (h : k < N) : rotPl 1 N k = (k + 1) % N := by
  unfold rotPl
  by_cases h1 : N = 1
  · subst h1; obtain rfl : k = 0 := by omega
    decide
  · have e : (1 : Int).tmod N = 1 := by rw [Int.tmod_eq_emod_of_nonneg (by omega)]; exact Int.emod_eq_of_lt (by omega) (by omega)
    rw [e, Int.tmod_eq_emod_of_nonneg (by omega), Int.emod_emod]
    have : (((k + 1) % N : Nat) : Int) = ((k : Int) + 1) % N := by simp
    omega
theorem rotPl_bwd {N k : Nat} (h : k < N) : rotPl (-1) N ((N - k) % N) = N - 1 - k := by
  unfold rotPl
  by_cases h1 : N = 1
  · subst h1; obtain rfl : k = 0 := by omega
    decide
  · have e : (-1 : Int).tmod N = -1 := by
      rw [Int.neg_tmod, Int.tmod_eq_emod_of_nonneg (by omega), Int.emod_eq_of_lt (by omega) (by omega)]
    rw [e]
    by_cases h0 : k = 0
    · subst h0
      have e2 : ((((N - 0) % N : Nat) : Int) + -1) = -1 := by simp
      have e3 : (-1 : Int) % (N : Int) = N - 1 := by
        have : ((-1 : Int) + N) % N = (-1) % N := Int.add_emod_right ..
        rw [← this, Int.emod_eq_of_lt (by omega) (by omega)]; omega
      rw [e2, e, e3]; omega
    · have e2 : (N - k) % N = N - k := Nat.mod_eq_of_lt (by omega)
      rw [e2, Int.tmod_eq_emod_of_nonneg (by omega), Int.emod_emod, Int.emod_eq_of_lt (by omega) (by omega)]; omega
theorem rotPl_0 {N k : Nat} (h : k < N) : rotPl 0 N k = k := by
  unfold rotPl
  rw [Int.zero_tmod, Int.add_zero, Int.tmod_eq_emod_of_nonneg (by omega), Int.emod_emod, Int.emod_eq_of_lt (by omega) (by omega)]; omega

theorem rotErr_some {ls : List (List Int)} (h : ls ≠ []) : rotErr ls = 0 := by unfold rotErr; rw [if_neg h]
theorem rotTxt_some {ls : List (List Int)} (h : ls ≠ []) (n : Int) (p : Nat) : rotTxt n ls p = ls[rotPl n ls.length p]?.getD [] := by unfold rotTxt; rw [if_neg h]
theorem rotNew_some {ls : List (List Int)} (h : ls ≠ []) (n : Int) (p : Nat) : rotNew n ls p = rotPl n ls.length p := by unfold rotNew; rw [if_neg h]

theorem too_some {ls : List (List Int)} (h : tooMuch ls) : 0 < ls.length := by
  rcases h with h | ⟨x, h, _⟩
  · omega
  · exact List.length_pos_of_mem h

theorem round_over (A : Option Addr) (N c : Nat) (ls : List (List Int)) (back : Bool) (w : World) (hL : RdL w (Old w) A N c ls) (hmax : (N : Int) ≤ 9223372036854775807) (ht : tooMuch ls) :
    Calls Try.prog 6 #[.slice A N c, .bool back] w fun e w' => e = .returned (.bool true) ∧ Pure w w' := by
  have hN : (0 : Int) < (N : Int) := by have := too_some ht; have := hL.len; omega
  have hN' : 0 < N := by omega
  go_enter Try.func6, Try.ntmps6
  go_wp2_with (first
      | (go_at_call 28; refine (from_any A N c ls _ w hL hmax (fun _ h => h)).mono ?_; rintro e w1 (⟨_, rfl, rfl⟩ | ⟨hn, _⟩); rotate_left; exact absurd ht hn)
      | (go_at_call 16; refine (live_any w).mono ?_; rintro e w2 ⟨rfl, hp2⟩))
  go_ret
  exact ⟨ret_bool rfl, hp2⟩

theorem round_none (A : Option Addr) (c : Nat) (back : Bool) (w : World) (hL : RdL w (Old w) A 0 c []) :
    Calls Try.prog 6 #[.slice A 0 c, .bool back] w fun e w' => e = .returned (.bool true) ∧ Pure w w' := by
  have ht : ¬ tooMuch [] := by rintro (h | ⟨x, h, _⟩); simp at h; simp at h
  have he : rotErr [] = 6 := rfl
  go_enter Try.func6, Try.ntmps6
  go_wp2_with (first
      | (go_at_call 28; refine (from_any A 0 c [] _ w hL (by omega) (fun _ h => h)).mono ?_; rintro e w1 (⟨hn, _⟩ | ⟨_, g, rfl, hg, hR, hp1⟩); exact absurd hn ht)
      | (go_at_call 16; refine (live_any w1).mono ?_; rintro e w2 ⟨rfl, hp2⟩; have hR2 := hR.pure_ hp2; have c0 := hR2.c0; have c62 : w2.cell? ⟨g, 62, none⟩ = some (.int .i64 0) := hR2.c62)
      | (go_at_call 20; refine (len_made g 0 w2 c0 c62).mono ?_; rintro e w3 ⟨rfl, rfl⟩)
      | (go_at_call 21; refine (rot_any g _ [] 0 1 w2 hR2).mono ?_; rintro e w3 ⟨A3, m3, c3, rfl, hr3, hR3, ho3⟩; rw [he]))
  go_ret
  exact ⟨rfl, (hp1.trans hp2).then_ ho3 fun i hi e => by omega⟩

set_option maxHeartbeats 400000 in
theorem round_fwd (A : Option Addr) (N c : Nat) (ls : List (List Int)) (w : World) (hL : RdL w (Old w) A N c ls) (ht : ¬ tooMuch ls) (hN0 : 0 < N) :
    Calls Try.prog 6 #[.slice A N c, .bool false] w fun e w' => e = .returned (.bool true) ∧ Pure w w' := by
  have hlen := hL.len
  have hN60 : (N : Int) ≤ 60 := by
    have : ls.length ≤ 60 := Nat.not_lt.1 fun h => ht (.inl h)
    omega
  have hNp : (0 : Int) < N := by omega
  have hN00 : ((N : Int) == 0) = false := by rw [beq_eq_false_iff_ne]; omega
  have hne : ls ≠ [] := by rintro rfl; simp at hlen; omega
  have HL := hid hlen
  have hshort : ∀ k : Nat, (ls[k]?.getD []).length ≤ 1024 := by
    intro k
    by_cases hk : k < ls.length
    · exact Nat.not_lt.1 fun h => ht (.inr ⟨ls[k]?.getD [], by rw [List.getElem?_eq_getElem hk]; exact List.getElem_mem _, h⟩)
    · rw [List.getElem?_eq_none (by omega)]; simp
  clear hlen
  go_enter Try.func6, Try.ntmps6
  go_wp2_with (first
      | (go_at_call 28; refine (from_any A N c ls _ w hL (by omega) (fun _ h => h)).mono ?_; rintro e w1 (⟨hn, _⟩ | ⟨_, g, rfl, hg, hR, hp1⟩); exact absurd hn ht)
      | (go_at_call 16; refine (live_any w1).mono ?_; rintro e w2 ⟨rfl, hp2⟩; have hR2 := hR.pure_ hp2; have c0 := hR2.c0; have c62 : w2.cell? ⟨g, 62, none⟩ = some (.int .i64 (N : Int)) := by rw [hR2.c62, HL.out])
      | (go_at_call 20; refine (len_made g N w2 c0 c62).mono ?_; rintro e w3 ⟨rfl, rfl⟩))
  have hp := hp1.trans hp2
  clear hp1 hp2 hR c0 c62
  go_loopw [10, 11, 12, 13, 14, 15, 46] (fun _ _ _ _ _ _ i wr => ∃ k : Nat, k ≤ N ∧ i = .int .i64 k ∧ Ring wr (fun b => w.heap.size ≤ b ∧ b ≠ g) g ls (k % N) ∧ Pure w wr) (fun _ _ _ _ _ _ i _ => N - (intOf i).toNat)
  case atStart => exact ⟨0, Nat.zero_le _, rfl, (by simpa using hR2), hp⟩
  case round =>
    clear hR2 hp
    obtain ⟨k, hk, rfl, hR, hp⟩ := hrel
    by_cases hlt : k < N
    · have hkI : (k : Int) < N := by omega
      have hj : (k + 1) % N < N := Nat.mod_lt _ hN0
      have hmod : ((k : Int) + 1).tmod (N : Int) = (((k + 1) % N : Nat) : Int) := by rw [Int.tmod_eq_emod_of_nonneg (by omega)]; simp
      obtain ⟨j, hje⟩ : ∃ j, j = (k + 1) % N := ⟨_, rfl⟩
      rw [← hje] at hj hmod
      have hjI : (j : Int) < N := by omega
      obtain ⟨gx, ox, a, m, d, rfl, _, hgx, hc, hx⟩ := (hL.pure_ hp).at_ hj

      have hpl : rotPl (1) ls.length (k % N) = j := by rw [HL.out]; rw [Nat.mod_eq_of_lt hlt, rotPl_fwd hlt]; exact hje.symm
      have hq : j < N := by omega
      have hpq : j = ((k + 1) % N) := by exact hje
      have hp0 : rotPl 0 ls.length (j) = j := by rw [HL.out]; exact rotPl_0 hq
      have ht1 := rotTxt_some hne (1) (k % N)
      have hn1 := rotNew_some hne (1) (k % N)
      have ht2 := rotTxt_some hne 0 (j)
      have hn2 := rotNew_some hne 0 (j)
      rw [hpl] at ht1 hn1
      rw [hp0] at ht2 hn2
      have hre := rotErr_some hne
      have hsm := hshort (j)
      obtain ⟨x, hxe⟩ : ∃ x, x = ls[j]?.getD [] := ⟨_, rfl⟩
      rw [← hxe] at hx ht1 ht2 hsm
      have heq : eqL x x = true := by unfold eqL; simp
      have H1 := hid (And.intro ht1 (And.intro hn1 (And.intro ht2 (And.intro hn2 (And.intro hre (And.intro hpq hpl))))))
      have HJ := hid hje
      clear hpl hpq hp0 ht1 hn1 ht2 hn2 hre hxe hje
      go_wp2_with (first
        | (go_at_call 21; refine (rot_any g _ ls (k % N) (1) wr hR).mono ?_; rintro e w3 ⟨A3, m3, c3, rfl, hr3, hR3, ho3⟩; rw [H1.out.1] at hr3; rw [H1.out.2.1] at hR3; rw [H1.out.2.2.2.2.1]; have hgw := hR.lt; have hx3 := hx.only ho3 (fun b hb _ e => by have h1 : b < w.heap.size := hb; omega))
        | (go_at_call 18; refine (yank_any g _ ls (j) w3 hR3).mono ?_; rintro e w4 ⟨A4, m4, c4, rfl, hr4, hR4, ho4⟩; rw [H1.out.2.2.1] at hr4; rw [H1.out.2.2.2.1] at hR4; rw [H1.out.2.2.2.2.1]; have hx4 := hx3.only ho4 (fun b hb _ e => by have h1 : b < w.heap.size := hb; omega); have hr34 := hr3.only ho4 (fun b hb _ e => by omega); have hm3 := hr3.len; have hm4 := hr4.len)
        | (go_at_call 19; refine (equal_any A4 m4 c4 x _ a m d x _ (w4.drewN q5) hr4 hx4 (by unfold small; omega)).mono ?_; rintro e w6 ⟨rfl, q6, rfl⟩; rw [heq])
        | (go_at_call 19; refine (equal_any A3 m3 c3 x _ a m d x _ w4 hr34 hx4 (by unfold small; omega)).mono ?_; rintro e w5 ⟨rfl, q5, rfl⟩; rw [heq]))
      have hR6 : Ring (w4.drewN (q5 + q6)) (fun b => w.heap.size ≤ b ∧ b ≠ g) g ls ((k + 1) % N) := by rw [← H1.out.2.2.2.2.2.1]; exact hR4.pure_ ((Only.refl _ w4).drewN _)
      have hp6 : Pure w (w4.drewN (q5 + q6)) := ((hp.then_ ho3 fun i hi e => by omega).then_ ho4 fun i hi e => by omega).drewN _
      clear hr3 hR3 ho3 hx3 hx4 hr34 hm3 hm4 hr4 hR4 ho4 hx hR hp
      go_roundw
      case rel => exact ⟨k + 1, by omega, by go_num, hR6, hp6⟩
      case measure => simp [intOf]; omega
    · obtain rfl : k = N := by omega
      go_wp2
      go_ret
      exact ⟨rfl, hp⟩

set_option maxHeartbeats 400000 in
theorem round_bwd (A : Option Addr) (N c : Nat) (ls : List (List Int)) (w : World) (hL : RdL w (Old w) A N c ls) (ht : ¬ tooMuch ls) (hN0 : 0 < N) :
    Calls Try.prog 6 #[.slice A N c, .bool true] w fun e w' => e = .returned (.bool true) ∧ Pure w w' := by
  have hlen := hL.len
  have hN60 : (N : Int) ≤ 60 := by
    have : ls.length ≤ 60 := Nat.not_lt.1 fun h => ht (.inl h)
    omega
  have hNp : (0 : Int) < N := by omega
  have hN00 : ((N : Int) == 0) = false := by rw [beq_eq_false_iff_ne]; omega
  have hne : ls ≠ [] := by rintro rfl; simp at hlen; omega
  have HL := hid hlen
  have hshort : ∀ k : Nat, (ls[k]?.getD []).length ≤ 1024 := by
    intro k
    by_cases hk : k < ls.length
    · exact Nat.not_lt.1 fun h => ht (.inr ⟨ls[k]?.getD [], by rw [List.getElem?_eq_getElem hk]; exact List.getElem_mem _, h⟩)
    · rw [List.getElem?_eq_none (by omega)]; simp
  clear hlen
  go_enter Try.func6, Try.ntmps6
  go_wp2_with (first
      | (go_at_call 28; refine (from_any A N c ls _ w hL (by omega) (fun _ h => h)).mono ?_; rintro e w1 (⟨hn, _⟩ | ⟨_, g, rfl, hg, hR, hp1⟩); exact absurd hn ht)
      | (go_at_call 16; refine (live_any w1).mono ?_; rintro e w2 ⟨rfl, hp2⟩; have hR2 := hR.pure_ hp2; have c0 := hR2.c0; have c62 : w2.cell? ⟨g, 62, none⟩ = some (.int .i64 (N : Int)) := by rw [hR2.c62, HL.out])
      | (go_at_call 20; refine (len_made g N w2 c0 c62).mono ?_; rintro e w3 ⟨rfl, rfl⟩))
  have hp := hp1.trans hp2
  clear hp1 hp2 hR c0 c62
  go_loopw [10, 11, 12, 13, 14, 15, 46] (fun _ _ _ _ _ _ i wr => ∃ k : Nat, k ≤ N ∧ i = .int .i64 k ∧ Ring wr (fun b => w.heap.size ≤ b ∧ b ≠ g) g ls ((N - k) % N) ∧ Pure w wr) (fun _ _ _ _ _ _ i _ => N - (intOf i).toNat)
  case atStart => exact ⟨0, Nat.zero_le _, rfl, (by simpa using hR2), hp⟩
  case round =>
    clear hR2 hp
    obtain ⟨k, hk, rfl, hR, hp⟩ := hrel
    by_cases hlt : k < N
    · have hkI : (k : Int) < N := by omega
      have hj : (k + 1) % N < N := Nat.mod_lt _ hN0
      have hmod : ((k : Int) + 1).tmod (N : Int) = (((k + 1) % N : Nat) : Int) := by rw [Int.tmod_eq_emod_of_nonneg (by omega)]; simp
      obtain ⟨j, hje⟩ : ∃ j, j = (k + 1) % N := ⟨_, rfl⟩
      rw [← hje] at hj hmod
      have hjI : (j : Int) < N := by omega
      obtain ⟨gx, ox, a, m, d, rfl, _, hgx, hc, hx⟩ := (hL.pure_ hp).at_ hj
      obtain ⟨gx2, ox2, a2, m2, d2, e2, _, _, hc2, hx2⟩ := (hL.pure_ hp).at_ (k := N - 1 - k) (by omega)
      simp only [Option.some.injEq, Addr.mk.injEq, and_true] at e2
      obtain ⟨rfl, rfl⟩ := e2
      have hix : (((N - 1 - k : Nat) : Nat) : Int) = (N : Int) - 1 - (k : Int) := by omega
      have hix2 : ((N : Int) - 1 - (k : Int)).toNat = N - 1 - k := by omega
      have hpl : rotPl (-1) ls.length ((N - k) % N) = N - 1 - k := by rw [HL.out]; exact rotPl_bwd hlt
      have hq : N - 1 - k < N := by omega
      have hpq : N - 1 - k = ((N - (k + 1)) % N) := by rw [Nat.mod_eq_of_lt (by omega)]; omega
      have hp0 : rotPl 0 ls.length (N - 1 - k) = N - 1 - k := by rw [HL.out]; exact rotPl_0 hq
      have ht1 := rotTxt_some hne (-1) ((N - k) % N)
      have hn1 := rotNew_some hne (-1) ((N - k) % N)
      have ht2 := rotTxt_some hne 0 (N - 1 - k)
      have hn2 := rotNew_some hne 0 (N - 1 - k)
      rw [hpl] at ht1 hn1
      rw [hp0] at ht2 hn2
      have hre := rotErr_some hne
      have hsm := hshort (N - 1 - k)
      obtain ⟨x, hxe⟩ : ∃ x, x = ls[N - 1 - k]?.getD [] := ⟨_, rfl⟩
      rw [← hxe] at hx2 ht1 ht2 hsm
      have heq : eqL x x = true := by unfold eqL; simp
      have H1 := hid (And.intro ht1 (And.intro hn1 (And.intro ht2 (And.intro hn2 (And.intro hre (And.intro hpq hpl))))))
      have HJ := hid hje
      clear hpl hpq hp0 ht1 hn1 ht2 hn2 hre hxe hje
      go_wp2_with (first
        | (go_at_call 21; refine (rot_any g _ ls ((N - k) % N) (-1) wr hR).mono ?_; rintro e w3 ⟨A3, m3, c3, rfl, hr3, hR3, ho3⟩; rw [H1.out.1] at hr3; rw [H1.out.2.1] at hR3; rw [H1.out.2.2.2.2.1]; have hgw := hR.lt; have hx3 := hx2.only ho3 (fun b hb _ e => by have h1 : b < w.heap.size := hb; omega))
        | (go_at_call 18; refine (yank_any g _ ls (N - 1 - k) w3 hR3).mono ?_; rintro e w4 ⟨A4, m4, c4, rfl, hr4, hR4, ho4⟩; rw [H1.out.2.2.1] at hr4; rw [H1.out.2.2.2.1] at hR4; rw [H1.out.2.2.2.2.1]; have hx4 := hx3.only ho4 (fun b hb _ e => by have h1 : b < w.heap.size := hb; omega); have hr34 := hr3.only ho4 (fun b hb _ e => by omega); have hm3 := hr3.len; have hm4 := hr4.len)
        | (go_at_call 19; refine (equal_any A4 m4 c4 x _ a2 m2 d2 x _ (w4.drewN q5) hr4 hx4 (by unfold small; omega)).mono ?_; rintro e w6 ⟨rfl, q6, rfl⟩; rw [heq])
        | (go_at_call 19; refine (equal_any A3 m3 c3 x _ a2 m2 d2 x _ w4 hr34 hx4 (by unfold small; omega)).mono ?_; rintro e w5 ⟨rfl, q5, rfl⟩; rw [heq]))
      have hR6 : Ring (w4.drewN (q5 + q6)) (fun b => w.heap.size ≤ b ∧ b ≠ g) g ls ((N - (k + 1)) % N) := by rw [← H1.out.2.2.2.2.2.1]; exact hR4.pure_ ((Only.refl _ w4).drewN _)
      have hp6 : Pure w (w4.drewN (q5 + q6)) := ((hp.then_ ho3 fun i hi e => by omega).then_ ho4 fun i hi e => by omega).drewN _
      clear hr3 hR3 ho3 hx3 hx4 hr34 hm3 hm4 hr4 hR4 ho4 hx hx2 hR hp
      go_roundw
      case rel => exact ⟨k + 1, by omega, by go_num, hR6, hp6⟩
      case measure => simp [intOf]; omega
    · obtain rfl : k = N := by omega
      go_wp2
      go_ret
      exact ⟨rfl, hp⟩

theorem klaw_round (A : Option Addr) (N c : Nat) (ls : List (List Int)) (back : Bool) (w : World) (hL : RdL w (Old w) A N c ls) (hmax : (N : Int) ≤ 9223372036854775807) :
    Calls Try.prog 6 #[.slice A N c, .bool back] w fun e w' => e = .returned (.bool true) ∧ Pure w w' := by
  by_cases ht : tooMuch ls
  · exact round_over A N c ls back w hL hmax ht
  · by_cases h0 : N = 0
    · subst h0
      obtain rfl : ls = [] := List.eq_nil_of_length_eq_zero hL.len
      exact round_none A c back w hL
    · cases back
      · exact round_fwd A N c ls w hL ht (by omega)
      · exact round_bwd A N c ls w hL ht (by omega)

end Go.Proofs.Ytinlpmgchcbjpaa
