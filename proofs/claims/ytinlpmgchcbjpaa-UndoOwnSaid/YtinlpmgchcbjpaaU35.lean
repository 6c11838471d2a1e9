/- Apply: the line it hands back is the caller's own. -/
import Derived.Test.YtinlpmgchcbjpaaU2
namespace Go.Proofs.Ytinlpmgchcbjpaa
open Go Go.RowKit
set_option maxHeartbeats 1000000
set_option maxRecDepth 100000

theorem concat_own (A : Option Addr) (n c : Nat) (ls : List (List Int)) (S : Nat → Prop) (w : World) (hr : RdL w S A n c ls) (hn : n ≤ 1024) (hs : small ls.flatten.length) :
    Calls Try.prog 69 #[.slice A n c] w (OutOwn 21 1 w (ls.flatten.map (Value.int .i32))) := by
  obtain ⟨N, hN⟩ : ∃ N, N = ls.flatten.length := ⟨_, rfl⟩
  rw [← hN] at hs
  have HN := hid hN; clear hN
  have hb : (N : Int) ≤ 35184372088832 := by unfold small at hs; omega
  have hnb : (n : Int) ≤ 1024 := by omega
  go_enter Try.func69, Try.ntmps69
  go_wp2
  go_loop [3, 11] (fun s i => ∃ k : Nat, k ≤ n ∧ i = .int .i64 k ∧ s = .int .i64 (flat ls k).length) (fun _ i => n - (intOf i).toNat)
  case atStart => exact ⟨0, Nat.zero_le _, rfl, rfl⟩
  case round =>
    obtain ⟨k, hk, rfl, rfl⟩ := hrel
    have hle := flat_le ls (k + 1)
    have hle0 := flat_le ls k
    rw [← HN.out] at hle hle0
    rw [flat_succ, List.length_append] at hle
    by_cases hlt : k < n
    · obtain ⟨g, off, a, m, d, rfl, _, _, hc, hri⟩ := hr.at_ hlt
      have hlen := hri.len
      rw [hlen] at hle
      have HL := hid hlen; clear hlen
      obtain ⟨F, hF⟩ : ∃ F, F = (flat ls k).length := ⟨_, rfl⟩
      rw [← hF] at hle hle0 ⊢
      have HF := hid hF; clear hF
      go_wp2
      go_round
      case rel => exact ⟨k + 1, by omega, by go_num, by rw [flat_succ, List.length_append, HL.out, ← HF.out]; go_num⟩
      case measure => simp [intOf]; omega
    · obtain rfl : k = n := by omega
      rw [flat_all ls hr.len, ← HN.out]
      go_wp2_with (go_at_call 85; refine (grow_any _ N hs).mono ?_; rintro e w1 ⟨A1, n1, c1, rfl, ho, hp⟩)
      go_loopw [6, 27] (fun v i wr => ∃ (j : Nat) (A2 : Option Addr) (n2 c2 : Nat), j ≤ k ∧ i = .int .i64 j ∧ v = .slice A2 n2 c2 ∧ wr.ownsRow w.heap.size 21 1 v n2 ((flat ls j).map (Value.int .i32)) ∧ Pure w wr) (fun _ i _ => k - (intOf i).toNat)
      case atStart => exact ⟨0, A1, n1, c1, Nat.zero_le _, rfl, rfl, ho, hp⟩
      case round =>
        obtain ⟨j, A2, n2, c2, hj, rfl, rfl, ho2, hp2⟩ := hrel
        have hle := flat_le ls (j + 1)
        rw [← HN.out, flat_succ, List.length_append] at hle
        have hn2 : (flat ls j).length = n2 := by have := ho2.1; simpa using this
        rw [hn2] at hle
        clear hn2
        by_cases hlt : j < k
        · obtain ⟨g, off, a, m, d, rfl, _, _, hc, hri⟩ := (hr.pure_ hp2).at_ hlt
          rw [hri.len] at hle
          have hbN : N ≤ 35184372088832 := hs
          go_wp2_with (at_builtin; refine appendI _ _ rfl rfl w.heap.size (.slice A2 n2 c2) n2 _ rfl ho2 S a m d _ rfl hri (oneI _) (by unfold maxLen; omega) (by omega) hp2.size ?_; intro A' c' w' ho' hp' _; rw [← List.map_append, ← flat_succ] at ho')
          go_roundw
          case rel => exact ⟨j + 1, _, _, _, by omega, by go_num, rfl, ho', hp2.then_ hp' fun i hi hv => by have := (ho2.lt i hv).1; omega⟩
          case measure => simp [intOf]; omega
        · obtain rfl : j = k := by omega
          rw [flat_all ls hr.len] at ho2
          go_wp2
          go_ret
          exact ⟨_, _, _, rfl, ho2, hp2⟩


def AppOwn (w : World) (line : List Int) (e : Ed) (r : Ending) (w' : World) : Prop :=
  ∃ A n c, r = .returned (.tuple #[.slice A n c, .int .i64 (appCode line e)]) ∧ w'.ownsRow w.heap.size 21 1 (.slice A n c) n ((appOut line e).map (Value.int .i32)) ∧ Pure w w'

theorem AppOwn.bad {w w' : World} {line : List Int} {e : Ed} (h : ¬ appOk line e) (hp : Pure w w') : AppOwn w line e (.returned (.tuple #[.slice none 0 0, .int .i64 1])) w' := by
  have hc : appCode line e = 1 := by unfold appCode; rw [if_pos h]
  exact ⟨none, 0, 0, by rw [hc], by unfold appOut; rw [hc, if_neg (by decide)]; exact World.ownsRow_nil _ _ _ _, hp⟩
theorem AppOwn.long {w w' : World} {line : List Int} {e : Ed} (h : appOk line e) (hl : 1024 < (line.length : Int) - e.del.length + e.ins.length) (hp : Pure w w') : AppOwn w line e (.returned (.tuple #[.slice none 0 0, .int .i64 3])) w' := by
  have hc : appCode line e = 3 := by unfold appCode; rw [if_neg (fun x => x h), if_pos hl]
  exact ⟨none, 0, 0, by rw [hc], by unfold appOut; rw [hc, if_neg (by decide)]; exact World.ownsRow_nil _ _ _ _, hp⟩

set_option maxHeartbeats 2000000 in
theorem apply_own (AL : Option Addr) (N C : Nat) (line : List Int) (SL : Nat → Prop) (at0 : Int) (A : Option Addr) (n c : Nat) (del : List Int) (S : Nat → Prop) (A' : Option Addr) (n' c' : Nat) (ins : List Int) (S' : Nat → Prop) (w : World)
    (hL : RdI w SL AL N C line) (hr : RdI w S A n c del) (hr' : RdI w S' A' n' c' ins) (hN : small N) (hn : small n) (hn' : small n') :
    Calls Try.prog 30 #[.slice AL N C, .agg #[.int .i64 at0, .slice A n c, .slice A' n' c']] w (AppOwn w line ⟨at0, del, ins⟩) := by
  have hNI : (N : Int) ≤ 35184372088832 := by unfold small at hN; omega
  have hnI : (n : Int) ≤ 35184372088832 := by unfold small at hn; omega
  have hnI' : (n' : Int) ≤ 35184372088832 := by unfold small at hn'; omega
  have HL := hid hL.len
  have HD := hid hr.len
  have HI := hid hr'.len
  have hp1 : Pure w (w.alloc (.cells #[.int .i64 at0, .slice A n c, .slice A' n' c'] 60)) := (Only.refl _ w).alloc _
  by_cases h0 : at0 < 0
  · have hbad : ¬ appOk line ⟨at0, del, ins⟩ := fun h => by have := h.1; simp only at this; omega
    have hd : decide (at0 < 0) = true := decide_eq_true h0
    go_enter Try.func30, Try.ntmps30
    go_wp2
    go_quiet (fail)
    go_wp2
    go_ret2
    exact AppOwn.bad hbad (hp1.drewN _)
  · obtain ⟨k, rfl⟩ : ∃ k : Nat, at0 = (k : Int) := ⟨at0.toNat, by omega⟩
    by_cases h1 : N < k
    · have hbad : ¬ appOk line ⟨k, del, ins⟩ := fun h => by have := h.2.1; simp only at this; rw [HL.out] at this; omega
      have hd0 : decide ((k : Int) < 0) = false := decide_eq_false (by omega)
      have hd1 : decide ((N : Int) < (k : Int)) = true := decide_eq_true (by omega)
      go_enter Try.func30, Try.ntmps30
      go_wp2
      go_quiet (fail)
      go_wp2
      go_ret2
      exact AppOwn.bad hbad (hp1.drewN _)
    · have hd0 : decide ((k : Int) < 0) = false := decide_eq_false (by omega)
      have hd1 : decide ((N : Int) < (k : Int)) = false := decide_eq_false (by omega)
      by_cases h2 : N < k + n
      · have hbad : ¬ appOk line ⟨k, del, ins⟩ := fun h => by have := h.2.1; simp only at this; rw [HL.out, HD.out] at this; omega
        have hsub : IntKind.i64.wrap ((N : Int) - (k : Int)) = (N : Int) - (k : Int) := IntWalk.i64_in _ (by omega)
        have hd2 : decide ((N : Int) - (k : Int) < (n : Int)) = true := decide_eq_true (by omega)
        go_enter Try.func30, Try.ntmps30
        go_wp2
        go_quiet (fail)
        go_wp2
        go_ret2
        exact AppOwn.bad hbad (hp1.drewN _)
      · have hsub : IntKind.i64.wrap ((N : Int) - (k : Int)) = (N : Int) - (k : Int) := IntWalk.i64_in _ (by omega)
        have hd2 : decide ((N : Int) - (k : Int) < (n : Int)) = false := decide_eq_false (by omega)
        have hX := hL.sub k (k + n) (by omega) (by omega)
        have hcapL := hL.cap
        rw [show k + n - k = n by omega] at hX
        obtain ⟨B1, hB1⟩ : ∃ B1, (if C = k then AL else Option.map (fun x => x.add k) AL) = B1 := ⟨_, rfl⟩
        rw [hB1] at hX
        obtain ⟨X, hXe⟩ : ∃ X, X = (line.drop k).take n := ⟨_, rfl⟩
        rw [← hXe] at hX
        have HX := hid hXe
        clear hXe
        have hsum : IntKind.i64.wrap ((k : Int) + (n : Int)) = (k : Int) + (n : Int) := IntWalk.i64_in _ (by omega)
        have hsum0 : (0 : Int) ≤ (k : Int) + (n : Int) := by omega
        have hsumN : ((k : Int) + (n : Int)).toNat = k + n := by omega
        have hle : (k : Int) ≤ (k : Int) + (n : Int) := by omega
        have hcap1 : (k : Int) + (n : Int) ≤ (C : Int) := by omega
        have hkk : k + n - k = n := by omega
        cases hXd : eqL X del
        · have hbad : ¬ appOk line ⟨k, del, ins⟩ := fun h => by
            have h1 := h.2.2
            simp only [Int.toNat_natCast] at h1
            rw [HD.out, ← HX.out] at h1
            unfold eqL at hXd
            simp [h1] at hXd
          go_enter Try.func30, Try.ntmps30
          go_wp2
          go_quiet ((go_at_call 19; refine Calls.quiet_of (equal_any B1 n (C - k) X SL A n c del S _ (hX.pure_ (hp1.drewN _)) (hr.pure_ (hp1.drewN _)) hn)))
          go_wp2
          go_ret2
          exact AppOwn.bad hbad (hp1.drewN _)
        · have hok : appOk line ⟨k, del, ins⟩ := by
            have hXd' : X = del := by unfold eqL at hXd; simpa using hXd
            refine ⟨by simp only; omega, by simp only; rw [HL.out, HD.out]; omega, ?_⟩
            simp only [Int.toNat_natCast]
            rw [HD.out, ← HX.out]; exact hXd'
          by_cases hlong : 1024 < (N : Int) - n + n'
          · have hl : 1024 < (line.length : Int) - del.length + ins.length := by rw [HL.out, HD.out, HI.out]; exact hlong
            go_enter Try.func30, Try.ntmps30
            go_wp2
            go_quiet ((go_at_call 19; refine Calls.quiet_of (equal_any B1 n (C - k) X SL A n c del S _ (hX.pure_ (hp1.drewN _)) (hr.pure_ (hp1.drewN _)) hn)))
            go_wp2
            go_ret2
            exact AppOwn.long hok hl (hp1.drewN _)
          · have hfit : (N : Int) - n + n' ≤ 1024 := by omega
            have hZ := hL.sub (k + n) N (by omega) (Nat.le_refl _)
            have hY := hL.pre (k := k) (by omega)
            obtain ⟨B3, hB3⟩ : ∃ B3, (if C = k + n then AL else Option.map (fun x => x.add (k + n)) AL) = B3 := ⟨_, rfl⟩
            rw [hB3, List.take_of_length_le (by simp; rw [HL.out]; omega)] at hZ
            have hsm : small [line.take k, ins, line.drop (k + n)].flatten.length := by
              simp [HL.out, HI.out]
              unfold small; omega
            have hrun : [line.take k, ins, line.drop (k + n)].flatten = appOut line ⟨k, del, ins⟩ := by
              have hc : appCode line ⟨k, del, ins⟩ = 0 := by unfold appCode; rw [if_neg (fun x => x hok), if_neg]; simp only; rw [HL.out, HD.out, HI.out]; omega
              unfold appOut appRun; rw [hc, if_pos rfl]; simp [HD.out]
            have hcode : appCode line ⟨k, del, ins⟩ = 0 := by unfold appCode; rw [if_neg (fun x => x hok), if_neg]; simp only; rw [HL.out, HD.out, HI.out]; omega
            have HR := hid hrun
            have HC := hid hcode
            clear hrun hcode
            go_enter Try.func30, Try.ntmps30
            go_wp2
            go_quiet ((go_at_call 19; refine Calls.quiet_of (equal_any B1 n (C - k) X SL A n c del S _ (hX.pure_ (hp1.drewN _)) (hr.pure_ (hp1.drewN _)) hn)))
            go_wp2
            obtain ⟨w0, hw0⟩ : ∃ w0, w0 = (w.alloc (.cells #[.int .i64 (k : Int), .slice A n c, .slice A' n' c'] 60)).drewN nq := ⟨_, rfl⟩
            rw [← hw0]
            have hp0 : Pure w w0 := by rw [hw0]; exact hp1.drewN _
            have hb : Blk w0 w.heap.size 60 #[.int .i64 (k : Int), .slice A n c, .slice A' n' c'] := by rw [hw0]; exact (Blk.new w _ _).drewN _
            have d0 : w0.cell? ⟨w.heap.size, 0, none⟩ = some (.int .i64 (k : Int)) := hb.cell 0
            have d1 : w0.cell? ⟨w.heap.size, 1, none⟩ = some (.slice A n c) := hb.cell 1
            have d2 : w0.cell? ⟨w.heap.size, 2, none⟩ = some (.slice A' n' c') := hb.cell 2
            have hkN : (k : Int) ≤ (C : Int) := by omega
            have hkn : (k : Int) + (n : Int) ≤ (N : Int) := by omega
            clear hw0
            go_region_held3 (fun X => X.cell? ⟨w.heap.size, 0, none⟩ = some (.int .i64 (k : Int)) ∧ X.cell? ⟨w.heap.size, 1, none⟩ = some (.slice A n c) ∧ X.cell? ⟨w.heap.size, 2, none⟩ = some (.slice A' n' c'))
                (first | go_keep | exact ⟨d0, d1, d2⟩ | exact ⟨e0, e1, e2⟩)
                (first
                  | (go_at_call 69; refine (concat_own (some ⟨w0.heap.size, 0, none⟩) 3 3 [line.take k, ins, line.drop (k + n)] _ ((w0.alloc (.cells #[.slice AL k C, .slice A' n' c', .slice B3 (N - (k + n)) (C - (k + n))] 22)).drew) ((RdL.three (hY.pure_ hp0) (hr'.pure_ hp0) (hZ.pure_ hp0)).pure_ (Only.refl _ _).drew) (by omega) hsm).mono ?_; rintro e w5 ⟨A5, n5, c5, rfl, hR5, hp5⟩; have hb5 := ((hb.alloc _).drew).pure_ hp5; have e0 : w5.cell? ⟨w.heap.size, 0, none⟩ = some (.int .i64 (k : Int)) := hb5.cell 0; have e1 : w5.cell? ⟨w.heap.size, 1, none⟩ = some (.slice A n c) := hb5.cell 1; have e2 : w5.cell? ⟨w.heap.size, 2, none⟩ = some (.slice A' n' c') := hb5.cell 2))
            go_wp2
            go_ret2
            have hp5' := (((Only.refl (fun _ => False) w0).alloc _).drew).trans hp5
            have hs5 := (((Only.refl (fun _ => False) w0).alloc (.cells #[.slice AL k C, .slice A' n' c', .slice B3 (N - (k + n)) (C - (k + n))] 22)).drew).size
            have hs0 := hp0.size
            refine ⟨A5, n5, c5, by rw [HC.out]; rfl, ?_, hp0.trans hp5'⟩
            rw [← HR.out]
            exact own_base hR5 (by omega)

end Go.Proofs.Ytinlpmgchcbjpaa
