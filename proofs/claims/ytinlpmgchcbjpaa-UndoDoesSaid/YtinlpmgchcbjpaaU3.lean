/- The reference's Apply answers the same. -/
import Derived.Test.YtinlpmgchcbjpaaU2
namespace Go.Proofs.Ytinlpmgchcbjpaa
open Go Go.RowKit
set_option maxHeartbeats 1000000
set_option maxRecDepth 100000

/-- The reference's clone, as a row of the call's own. -/
def OutRow (w : World) (xs : List Int) (e : Ending) (w' : World) : Prop :=
  ∃ A n c, e = .returned (.slice A n c) ∧ w'.ownsRow w.heap.size 21 1 (.slice A n c) n (xs.map (Value.int .i32)) ∧ Pure w w'
theorem rclone_own (A : Option Addr) (n c : Nat) (xs : List Int) (S : Nat → Prop) (w : World) (hr : RdI w S A n c xs) (hn : small n) :
    Calls Try.prog 75 #[.slice A n c] w (OutRow w xs) := by
  go_enter Try.func75, Try.ntmps75
  go_wp2_with (at_builtin; refine appendI _ _ rfl rfl w.heap.size (.slice none 0 0) 0 [] rfl (World.ownsRow_nil _ _ _ _) S A n c _ rfl hr (oneI xs) (by simpa using hn.maxLen) (by simpa using hn.bytes) (Nat.le_refl _) ?_; intro A' c' w' ho hp _; simp only [Nat.zero_add, List.nil_append] at ho)
  go_ret
  exact ⟨_, _, _, rfl, ho, hp.mono fun b _ e => by simp [Value.ownBlock] at e⟩

set_option maxHeartbeats 2000000 in
theorem rapply_any (AL : Option Addr) (N C : Nat) (line : List Int) (SL : Nat → Prop) (at0 : Int) (A : Option Addr) (n c : Nat) (del : List Int) (S : Nat → Prop) (A' : Option Addr) (n' c' : Nat) (ins : List Int) (S' : Nat → Prop) (w : World)
    (hL : RdI w SL AL N C line) (hr : RdI w S A n c del) (hr' : RdI w S' A' n' c' ins) (hN : small N) (hn : small n) (hn' : small n') :
    Calls Try.prog 31 #[.slice AL N C, .agg #[.int .i64 at0, .slice A n c, .slice A' n' c']] w (AppDid w line ⟨at0, del, ins⟩) := by
  have hNI : (N : Int) ≤ 35184372088832 := by unfold small at hN; omega
  have hnI : (n : Int) ≤ 35184372088832 := by unfold small at hn; omega
  have hnI' : (n' : Int) ≤ 35184372088832 := by unfold small at hn'; omega
  have HL := hid hL.len
  have HD := hid hr.len
  have HI := hid hr'.len
  have hp1 : Pure w (w.alloc (.cells #[.int .i64 at0, .slice A n c, .slice A' n' c'] 60)) := (Only.refl _ w).alloc _
  by_cases h0 : at0 < 0
  · have hbad : ¬ appOk line ⟨at0, del, ins⟩ := fun h => by have := h.1; simp only at this; omega
    have hd : decide (at0 < 0) = true := decide_eq_true h0
    go_enter Try.func31, Try.ntmps31
    go_wp2
    go_quiet (fail)
    go_wp2
    go_ret2
    exact AppDid.bad hbad (hp1.drewN _)
  · obtain ⟨k, rfl⟩ : ∃ k : Nat, at0 = (k : Int) := ⟨at0.toNat, by omega⟩
    by_cases h1 : N < k
    · have hbad : ¬ appOk line ⟨k, del, ins⟩ := fun h => by have := h.2.1; simp only at this; rw [HL.out] at this; omega
      have hd0 : decide ((k : Int) < 0) = false := decide_eq_false (by omega)
      have hd1 : decide ((N : Int) < (k : Int)) = true := decide_eq_true (by omega)
      go_enter Try.func31, Try.ntmps31
      go_wp2
      go_quiet (fail)
      go_wp2
      go_ret2
      exact AppDid.bad hbad (hp1.drewN _)
    · have hd0 : decide ((k : Int) < 0) = false := decide_eq_false (by omega)
      have hd1 : decide ((N : Int) < (k : Int)) = false := decide_eq_false (by omega)
      by_cases h2 : N < k + n
      · have hbad : ¬ appOk line ⟨k, del, ins⟩ := fun h => by have := h.2.1; simp only at this; rw [HL.out, HD.out] at this; omega
        have hsub : IntKind.i64.wrap ((N : Int) - (k : Int)) = (N : Int) - (k : Int) := IntWalk.i64_in _ (by omega)
        have hd2 : decide ((N : Int) - (k : Int) < (n : Int)) = true := decide_eq_true (by omega)
        go_enter Try.func31, Try.ntmps31
        go_wp2
        go_quiet (fail)
        go_wp2
        go_ret2
        exact AppDid.bad hbad (hp1.drewN _)
      · have hsub : IntKind.i64.wrap ((N : Int) - (k : Int)) = (N : Int) - (k : Int) := IntWalk.i64_in _ (by omega)
        have hd2 : decide ((N : Int) - (k : Int) < (n : Int)) = false := decide_eq_false (by omega)
        have hX := hL.sub k (k + n) (by omega) (by omega)
        have hcapL := hL.cap
        rw [show k + n - k = n by omega] at hX
        obtain ⟨B1, hB1⟩ : ∃ B1, (if C = k then AL else Option.map (fun x => x.add k) AL) = B1 := ⟨_, rfl⟩
        rw [hB1] at hX
        obtain ⟨X, hXe⟩ : ∃ X, X = (line.drop k).take n := ⟨_, rfl⟩
        rw [← hXe] at hX
        have HX := hid hXe
        clear hXe
        have hsum : IntKind.i64.wrap ((k : Int) + (n : Int)) = (k : Int) + (n : Int) := IntWalk.i64_in _ (by omega)
        have hsum0 : (0 : Int) ≤ (k : Int) + (n : Int) := by omega
        have hsumN : ((k : Int) + (n : Int)).toNat = k + n := by omega
        have hle : (k : Int) ≤ (k : Int) + (n : Int) := by omega
        have hcap1 : (k : Int) + (n : Int) ≤ (C : Int) := by omega
        have hkk : k + n - k = n := by omega
        cases hXd : eqL X del
        · have hbad : ¬ appOk line ⟨k, del, ins⟩ := fun h => by
            have h1 := h.2.2
            simp only [Int.toNat_natCast] at h1
            rw [HD.out, ← HX.out] at h1
            unfold eqL at hXd
            simp [h1] at hXd
          go_enter Try.func31, Try.ntmps31
          go_wp2
          go_quiet ((go_at_call 35; refine Calls.quiet_of (runes_any B1 n (C - k) X SL A n c del S _ (hX.pure_ (hp1.drewN _)) (hr.pure_ (hp1.drewN _)) hn)))
          go_wp2
          go_ret2
          exact AppDid.bad hbad (hp1.drewN _)
        · have hok : appOk line ⟨k, del, ins⟩ := by
            have hXd' : X = del := by unfold eqL at hXd; simpa using hXd
            refine ⟨by simp only; omega, by simp only; rw [HL.out, HD.out]; omega, ?_⟩
            simp only [Int.toNat_natCast]
            rw [HD.out, ← HX.out]; exact hXd'
          by_cases hlong : 1024 < (N : Int) - n + n'
          · have hl : 1024 < (line.length : Int) - del.length + ins.length := by rw [HL.out, HD.out, HI.out]; exact hlong
            go_enter Try.func31, Try.ntmps31
            go_wp2
            go_quiet ((go_at_call 35; refine Calls.quiet_of (runes_any B1 n (C - k) X SL A n c del S _ (hX.pure_ (hp1.drewN _)) (hr.pure_ (hp1.drewN _)) hn)))
            go_wp2
            go_ret2
            exact AppDid.long hok hl (hp1.drewN _)
          · have hfit : (N : Int) - n + n' ≤ 1024 := by omega
            have hZ := hL.sub (k + n) N (by omega) (Nat.le_refl _)
            have hY := hL.pre (k := k) (by omega)
            obtain ⟨B3, hB3⟩ : ∃ B3, (if C = k + n then AL else Option.map (fun x => x.add (k + n)) AL) = B3 := ⟨_, rfl⟩
            rw [hB3, List.take_of_length_le (by simp; rw [HL.out]; omega)] at hZ
            have hsm : small [line.take k, ins, line.drop (k + n)].flatten.length := by
              simp [HL.out, HI.out]
              unfold small; omega
            have hrun : [line.take k, ins, line.drop (k + n)].flatten = appOut line ⟨k, del, ins⟩ := by
              have hc : appCode line ⟨k, del, ins⟩ = 0 := by unfold appCode; rw [if_neg (fun x => x hok), if_neg]; simp only; rw [HL.out, HD.out, HI.out]; omega
              unfold appOut appRun; rw [hc, if_pos rfl]; simp [HD.out]
            have hcode : appCode line ⟨k, del, ins⟩ = 0 := by unfold appCode; rw [if_neg (fun x => x hok), if_neg]; simp only; rw [HL.out, HD.out, HI.out]; omega
            have HR := hid hrun
            have HC := hid hcode
            clear hrun hcode
            go_enter Try.func31, Try.ntmps31
            go_wp2
            go_quiet ((go_at_call 35; refine Calls.quiet_of (runes_any B1 n (C - k) X SL A n c del S _ (hX.pure_ (hp1.drewN _)) (hr.pure_ (hp1.drewN _)) hn)))
            go_wp2_with fail
            obtain ⟨w0, hw0⟩ : ∃ w0, w0 = (w.alloc (.cells #[.int .i64 (k : Int), .slice A n c, .slice A' n' c'] 60)).drewN nq := ⟨_, rfl⟩
            rw [← hw0]
            have hp0 : Pure w w0 := by rw [hw0]; exact hp1.drewN _
            have hb : Blk w0 w.heap.size 60 #[.int .i64 (k : Int), .slice A n c, .slice A' n' c'] := by rw [hw0]; exact (Blk.new w _ _).drewN _
            have d0 : w0.cell? ⟨w.heap.size, 0, none⟩ = some (.int .i64 (k : Int)) := hb.cell 0
            have d1 : w0.cell? ⟨w.heap.size, 1, none⟩ = some (.slice A n c) := hb.cell 1
            have d2 : w0.cell? ⟨w.heap.size, 2, none⟩ = some (.slice A' n' c') := hb.cell 2
            have hkN : (k : Int) ≤ (C : Int) := by omega
            have hkn : (k : Int) + (n : Int) ≤ (N : Int) := by omega
            clear hw0
            have hfit1 : (n' : Int) ≤ 1024 - ((N : Int) - n) := by omega
            refine (rclone_own AL k C (line.take k) SL w0 (hY.pure_ hp0) (by unfold small; omega)).mono ?_
            rintro e w5 ⟨A5, n5, c5, rfl, hO5, hp5⟩
            have hn5 : n5 = k := by have h9 := hO5.1; simp [HL.out] at h9; omega
            subst hn5
            have hb5 := hb.pure_ hp5
            have e0 : w5.cell? ⟨w.heap.size, 0, none⟩ = some (.int .i64 (n5 : Int)) := hb5.cell 0
            have e1 : w5.cell? ⟨w.heap.size, 1, none⟩ = some (.slice A n c) := hb5.cell 1
            have e2 : w5.cell? ⟨w.heap.size, 2, none⟩ = some (.slice A' n' c') := hb5.cell 2
            have s0 := hp0.size
            have s5 := hp5.size
            have hlb := hb.lt
            have hI5 := (hr'.pure_ hp0).pure_ hp5
            have hZ5 := (hZ.pure_ hp0).pure_ hp5
            clear d0 d1 d2
            go_wp2_with (first
              | (at_builtin; refine appendI (.tmp 60) (.tmp 62) rfl rfl w0.heap.size (.slice A5 n5 c5) n5 _ rfl hO5 S' A' n' c' _ rfl hI5 (oneI ins) (by unfold maxLen; omega) (by omega) s5 ?_; intro A6 c6 w6 ho6 hp6 hat6; rw [← List.map_append] at ho6; have hp06 : Pure w0 w6 := hp5.then_ hp6 fun i hi e => by { have := (hO5.lt i e).1; omega }; have hb6 := hb.pure_ hp06; have f0 : w6.cell? ⟨w.heap.size, 0, none⟩ = some (.int .i64 (n5 : Int)) := hb6.cell 0; have f1 : w6.cell? ⟨w.heap.size, 1, none⟩ = some (.slice A n c) := hb6.cell 1; have s6 := hp06.size)
              | (at_builtin; refine appendI (.tmp 64) (.tmp 72) rfl rfl w0.heap.size (.slice A6 (n5 + n') c6) (n5 + n') _ rfl ho6 SL B3 (N - (n5 + n)) (C - (n5 + n)) _ rfl ((hZ.pure_ hp0).pure_ hp06) (oneI (line.drop (n5 + n))) (by unfold maxLen; omega) (by omega) s6 ?_; intro A7 c7 w7 ho7 hp7 hat7; rw [← List.map_append] at ho7))
            go_ret2
            have hp07 : Pure w0 w7 := hp06.then_ hp7 fun i hi e => by have := (ho6.lt i e).1; omega
            refine ⟨A7, _, c7, by rw [HC.out]; rfl, ?_, hp0.trans hp07⟩
            rw [← HR.out]
            have h8 := own_new (own_base ho7 (Nat.le_refl _))
            have h9 : RdI w7 (fun b => w0.heap.size ≤ b) A7 (n5 + n' + (N - (n5 + n))) c7 (line.take n5 ++ ins ++ line.drop (n5 + n)) := h8
            simpa using RdI.mono h9 fun b _ hb => Nat.le_trans s0 hb

end Go.Proofs.Ytinlpmgchcbjpaa
