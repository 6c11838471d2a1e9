/- Apply: what it answers. -/
import Derived.Test.YtinlpmgchcbjpaaU1
import Derived.BigQuiet
namespace Go.Proofs.Ytinlpmgchcbjpaa
open Go Go.RowKit
set_option maxHeartbeats 1000000
set_option maxRecDepth 100000

/-- A slice of a slice. -/
theorem RdI.sub {w : World} {S : Nat → Prop} {A : Option Addr} {n c : Nat} {xs : List Int} (h : RdI w S A n c xs) (lo hi : Nat) (h1 : lo ≤ hi) (h2 : hi ≤ n) :
    RdI w S (if c = lo then A else Option.map (fun x => x.add lo) A) (hi - lo) (c - lo) ((xs.drop lo).take (hi - lo)) := by
  have hl := h.len
  obtain ⟨k1, k2, k3, k4⟩ := h
  refine ⟨by simp [hl]; omega, by omega, by omega, fun hn => ?_⟩
  obtain ⟨g, off, e, hS, hg, hc⟩ := k4 (by omega)
  subst e
  rw [if_neg (by omega)]
  refine ⟨g, off + lo, by simp [addr_add], hS, hg, fun j u hu => ?_⟩
  rw [Nat.add_assoc]
  refine hc (lo + j) u ?_
  rw [List.getElem?_map] at hu ⊢
  by_cases hj : j < hi - lo
  · rw [List.getElem?_take_of_lt hj, List.getElem?_drop] at hu; exact hu
  · rw [List.getElem?_eq_none (by simp; omega)] at hu; simp at hu

theorem RdI.pre {w : World} {S : Nat → Prop} {A : Option Addr} {n c : Nat} {xs : List Int} (h : RdI w S A n c xs) {k : Nat} (hk : k ≤ n) : RdI w S A k c (xs.take k) := by
  have hl := h.len
  obtain ⟨h1, h2, h3, h4⟩ := h
  refine ⟨by simp [hl]; omega, by omega, h3, fun hn => ?_⟩
  obtain ⟨g, off, e, hS, hg, hc⟩ := h4 (by omega)
  refine ⟨g, off, e, hS, hg, fun j u hu => hc j u ?_⟩
  rw [List.getElem?_map] at hu ⊢
  by_cases hj : j < k
  · rwa [List.getElem?_take_of_lt hj] at hu
  · rw [List.getElem?_eq_none (by simp; omega)] at hu; simp at hu

theorem RdL.three {W : World} {S S' S'' : Nat → Prop} {a a' a'' : Option Addr} {m d m' d' m'' d'' : Nat} {x y z : List Int} (h : RdI W S a m d x) (h' : RdI W S' a' m' d' y) (h'' : RdI W S'' a'' m'' d'' z) :
    RdL (W.alloc (.cells #[.slice a m d, .slice a' m' d', .slice a'' m'' d''] 22)) (fun b => (S b ∨ S' b ∨ S'' b) ∨ b = W.heap.size) (some ⟨W.heap.size, 0, none⟩) 3 3 [x, y, z] := by
  have hb : Blk (W.alloc (.cells #[.slice a m d, .slice a' m' d', .slice a'' m'' d''] 22)) W.heap.size 22 #[.slice a m d, .slice a' m' d', .slice a'' m'' d''] := Blk.new _ _ _
  have hp : Pure W (W.alloc (.cells #[.slice a m d, .slice a' m' d', .slice a'' m'' d''] 22)) := (Only.refl _ W).alloc _
  refine ⟨rfl, [.slice a m d, .slice a' m' d', .slice a'' m'' d''], ⟨rfl, Nat.le_refl _, by unfold maxLen; omega, fun _ => ⟨W.heap.size, 0, rfl, .inr rfl, by simp, fun j u hj => ?_⟩⟩, fun k hk => ?_⟩
  · rw [hb.cell, Nat.zero_add]; simpa using hj
  · match k, hk with
    | 0, _ => exact ⟨a, m, d, rfl, (h.pure_ hp).mono fun b _ hS => .inl (.inl hS)⟩
    | 1, _ => exact ⟨a', m', d', rfl, (h'.pure_ hp).mono fun b _ hS => .inl (.inr (.inl hS))⟩
    | 2, _ => exact ⟨a'', m'', d'', rfl, (h''.pure_ hp).mono fun b _ hS => .inl (.inr (.inr hS))⟩

def appOk (line : List Int) (e : Ed) : Prop := 0 ≤ e.at_ ∧ e.at_ + e.del.length ≤ line.length ∧ (line.drop e.at_.toNat).take e.del.length = e.del
instance (line : List Int) (e : Ed) : Decidable (appOk line e) := by unfold appOk; exact inferInstance
def appCode (line : List Int) (e : Ed) : Int := if ¬ appOk line e then 1 else if 1024 < (line.length : Int) - e.del.length + e.ins.length then 3 else 0
def appRun (line : List Int) (e : Ed) : List Int := line.take e.at_.toNat ++ e.ins ++ line.drop (e.at_.toNat + e.del.length)
def appOut (line : List Int) (e : Ed) : List Int := if appCode line e = 0 then appRun line e else []
def AppDid (w : World) (line : List Int) (e : Ed) (r : Ending) (w' : World) : Prop :=
  ∃ A n c, r = .returned (.tuple #[.slice A n c, .int .i64 (appCode line e)]) ∧ RdI w' (fun b => w.heap.size ≤ b) A n c (appOut line e) ∧ Pure w w'

theorem AppDid.bad {w w' : World} {line : List Int} {e : Ed} (h : ¬ appOk line e) (hp : Pure w w') : AppDid w line e (.returned (.tuple #[.slice none 0 0, .int .i64 1])) w' := by
  have hc : appCode line e = 1 := by unfold appCode; rw [if_pos h]
  exact ⟨none, 0, 0, by rw [hc], by unfold appOut; rw [hc, if_neg (by decide)]; exact RdI.nil _ _ _ _ (Nat.zero_le _), hp⟩
theorem AppDid.long {w w' : World} {line : List Int} {e : Ed} (h : appOk line e) (hl : 1024 < (line.length : Int) - e.del.length + e.ins.length) (hp : Pure w w') : AppDid w line e (.returned (.tuple #[.slice none 0 0, .int .i64 3])) w' := by
  have hc : appCode line e = 3 := by unfold appCode; rw [if_neg (fun x => x h), if_pos hl]
  exact ⟨none, 0, 0, by rw [hc], by unfold appOut; rw [hc, if_neg (by decide)]; exact RdI.nil _ _ _ _ (Nat.zero_le _), hp⟩

set_option maxHeartbeats 2000000 in
theorem apply_any (AL : Option Addr) (N C : Nat) (line : List Int) (SL : Nat → Prop) (at0 : Int) (A : Option Addr) (n c : Nat) (del : List Int) (S : Nat → Prop) (A' : Option Addr) (n' c' : Nat) (ins : List Int) (S' : Nat → Prop) (w : World)
    (hL : RdI w SL AL N C line) (hr : RdI w S A n c del) (hr' : RdI w S' A' n' c' ins) (hN : small N) (hn : small n) (hn' : small n') :
    Calls Try.prog 30 #[.slice AL N C, .agg #[.int .i64 at0, .slice A n c, .slice A' n' c']] w (AppDid w line ⟨at0, del, ins⟩) := by
  have hNI : (N : Int) ≤ 35184372088832 := by unfold small at hN; omega
  have hnI : (n : Int) ≤ 35184372088832 := by unfold small at hn; omega
  have hnI' : (n' : Int) ≤ 35184372088832 := by unfold small at hn'; omega
  have HL := hid hL.len
  have HD := hid hr.len
  have HI := hid hr'.len
  have hp1 : Pure w (w.alloc (.cells #[.int .i64 at0, .slice A n c, .slice A' n' c'] 60)) := (Only.refl _ w).alloc _
  by_cases h0 : at0 < 0
  · have hbad : ¬ appOk line ⟨at0, del, ins⟩ := fun h => by have := h.1; simp only at this; omega
    have hd : decide (at0 < 0) = true := decide_eq_true h0
    go_enter Try.func30, Try.ntmps30
    go_wp2
    go_quiet (fail)
    go_wp2
    go_ret2
    exact AppDid.bad hbad (hp1.drewN _)
  · obtain ⟨k, rfl⟩ : ∃ k : Nat, at0 = (k : Int) := ⟨at0.toNat, by omega⟩
    by_cases h1 : N < k
    · have hbad : ¬ appOk line ⟨k, del, ins⟩ := fun h => by have := h.2.1; simp only at this; rw [HL.out] at this; omega
      have hd0 : decide ((k : Int) < 0) = false := decide_eq_false (by omega)
      have hd1 : decide ((N : Int) < (k : Int)) = true := decide_eq_true (by omega)
      go_enter Try.func30, Try.ntmps30
      go_wp2
      go_quiet (fail)
      go_wp2
      go_ret2
      exact AppDid.bad hbad (hp1.drewN _)
    · have hd0 : decide ((k : Int) < 0) = false := decide_eq_false (by omega)
      have hd1 : decide ((N : Int) < (k : Int)) = false := decide_eq_false (by omega)
      by_cases h2 : N < k + n
      · have hbad : ¬ appOk line ⟨k, del, ins⟩ := fun h => by have := h.2.1; simp only at this; rw [HL.out, HD.out] at this; omega
        have hsub : IntKind.i64.wrap ((N : Int) - (k : Int)) = (N : Int) - (k : Int) := IntWalk.i64_in _ (by omega)
        have hd2 : decide ((N : Int) - (k : Int) < (n : Int)) = true := decide_eq_true (by omega)
        go_enter Try.func30, Try.ntmps30
        go_wp2
        go_quiet (fail)
        go_wp2
        go_ret2
        exact AppDid.bad hbad (hp1.drewN _)
      · have hsub : IntKind.i64.wrap ((N : Int) - (k : Int)) = (N : Int) - (k : Int) := IntWalk.i64_in _ (by omega)
        have hd2 : decide ((N : Int) - (k : Int) < (n : Int)) = false := decide_eq_false (by omega)
        have hX := hL.sub k (k + n) (by omega) (by omega)
        have hcapL := hL.cap
        rw [show k + n - k = n by omega] at hX
        obtain ⟨B1, hB1⟩ : ∃ B1, (if C = k then AL else Option.map (fun x => x.add k) AL) = B1 := ⟨_, rfl⟩
        rw [hB1] at hX
        obtain ⟨X, hXe⟩ : ∃ X, X = (line.drop k).take n := ⟨_, rfl⟩
        rw [← hXe] at hX
        have HX := hid hXe
        clear hXe
        have hsum : IntKind.i64.wrap ((k : Int) + (n : Int)) = (k : Int) + (n : Int) := IntWalk.i64_in _ (by omega)
        have hsum0 : (0 : Int) ≤ (k : Int) + (n : Int) := by omega
        have hsumN : ((k : Int) + (n : Int)).toNat = k + n := by omega
        have hle : (k : Int) ≤ (k : Int) + (n : Int) := by omega
        have hcap1 : (k : Int) + (n : Int) ≤ (C : Int) := by omega
        have hkk : k + n - k = n := by omega
        cases hXd : eqL X del
        · have hbad : ¬ appOk line ⟨k, del, ins⟩ := fun h => by
            have h1 := h.2.2
            simp only [Int.toNat_natCast] at h1
            rw [HD.out, ← HX.out] at h1
            unfold eqL at hXd
            simp [h1] at hXd
          go_enter Try.func30, Try.ntmps30
          go_wp2
          go_quiet ((go_at_call 19; refine Calls.quiet_of (equal_any B1 n (C - k) X SL A n c del S _ (hX.pure_ (hp1.drewN _)) (hr.pure_ (hp1.drewN _)) hn)))
          go_wp2
          go_ret2
          exact AppDid.bad hbad (hp1.drewN _)
        · have hok : appOk line ⟨k, del, ins⟩ := by
            have hXd' : X = del := by unfold eqL at hXd; simpa using hXd
            refine ⟨by simp only; omega, by simp only; rw [HL.out, HD.out]; omega, ?_⟩
            simp only [Int.toNat_natCast]
            rw [HD.out, ← HX.out]; exact hXd'
          by_cases hlong : 1024 < (N : Int) - n + n'
          · have hl : 1024 < (line.length : Int) - del.length + ins.length := by rw [HL.out, HD.out, HI.out]; exact hlong
            go_enter Try.func30, Try.ntmps30
            go_wp2
            go_quiet ((go_at_call 19; refine Calls.quiet_of (equal_any B1 n (C - k) X SL A n c del S _ (hX.pure_ (hp1.drewN _)) (hr.pure_ (hp1.drewN _)) hn)))
            go_wp2
            go_ret2
            exact AppDid.long hok hl (hp1.drewN _)
          · have hfit : (N : Int) - n + n' ≤ 1024 := by omega
            have hZ := hL.sub (k + n) N (by omega) (Nat.le_refl _)
            have hY := hL.pre (k := k) (by omega)
            obtain ⟨B3, hB3⟩ : ∃ B3, (if C = k + n then AL else Option.map (fun x => x.add (k + n)) AL) = B3 := ⟨_, rfl⟩
            rw [hB3, List.take_of_length_le (by simp; rw [HL.out]; omega)] at hZ
            have hsm : small [line.take k, ins, line.drop (k + n)].flatten.length := by
              simp [HL.out, HI.out]
              unfold small; omega
            have hrun : [line.take k, ins, line.drop (k + n)].flatten = appOut line ⟨k, del, ins⟩ := by
              have hc : appCode line ⟨k, del, ins⟩ = 0 := by unfold appCode; rw [if_neg (fun x => x hok), if_neg]; simp only; rw [HL.out, HD.out, HI.out]; omega
              unfold appOut appRun; rw [hc, if_pos rfl]; simp [HD.out]
            have hcode : appCode line ⟨k, del, ins⟩ = 0 := by unfold appCode; rw [if_neg (fun x => x hok), if_neg]; simp only; rw [HL.out, HD.out, HI.out]; omega
            have HR := hid hrun
            have HC := hid hcode
            clear hrun hcode
            go_enter Try.func30, Try.ntmps30
            go_wp2
            go_quiet ((go_at_call 19; refine Calls.quiet_of (equal_any B1 n (C - k) X SL A n c del S _ (hX.pure_ (hp1.drewN _)) (hr.pure_ (hp1.drewN _)) hn)))
            go_wp2
            obtain ⟨w0, hw0⟩ : ∃ w0, w0 = (w.alloc (.cells #[.int .i64 (k : Int), .slice A n c, .slice A' n' c'] 60)).drewN nq := ⟨_, rfl⟩
            rw [← hw0]
            have hp0 : Pure w w0 := by rw [hw0]; exact hp1.drewN _
            have hb : Blk w0 w.heap.size 60 #[.int .i64 (k : Int), .slice A n c, .slice A' n' c'] := by rw [hw0]; exact (Blk.new w _ _).drewN _
            have d0 : w0.cell? ⟨w.heap.size, 0, none⟩ = some (.int .i64 (k : Int)) := hb.cell 0
            have d1 : w0.cell? ⟨w.heap.size, 1, none⟩ = some (.slice A n c) := hb.cell 1
            have d2 : w0.cell? ⟨w.heap.size, 2, none⟩ = some (.slice A' n' c') := hb.cell 2
            have hkN : (k : Int) ≤ (C : Int) := by omega
            have hkn : (k : Int) + (n : Int) ≤ (N : Int) := by omega
            clear hw0
            go_region_held3 (fun X => X.cell? ⟨w.heap.size, 0, none⟩ = some (.int .i64 (k : Int)) ∧ X.cell? ⟨w.heap.size, 1, none⟩ = some (.slice A n c) ∧ X.cell? ⟨w.heap.size, 2, none⟩ = some (.slice A' n' c'))
                (first | go_keep | exact ⟨d0, d1, d2⟩ | exact ⟨e0, e1, e2⟩)
                (first
                  | (go_at_call 69; refine (concat_any (some ⟨w0.heap.size, 0, none⟩) 3 3 [line.take k, ins, line.drop (k + n)] _ ((w0.alloc (.cells #[.slice AL k C, .slice A' n' c', .slice B3 (N - (k + n)) (C - (k + n))] 22)).drew) ((RdL.three (hY.pure_ hp0) (hr'.pure_ hp0) (hZ.pure_ hp0)).pure_ (Only.refl _ _).drew) (by omega) hsm).mono ?_; rintro e w5 ⟨A5, n5, c5, rfl, hR5, hp5⟩; have hb5 := ((hb.alloc _).drew).pure_ hp5; have e0 : w5.cell? ⟨w.heap.size, 0, none⟩ = some (.int .i64 (k : Int)) := hb5.cell 0; have e1 : w5.cell? ⟨w.heap.size, 1, none⟩ = some (.slice A n c) := hb5.cell 1; have e2 : w5.cell? ⟨w.heap.size, 2, none⟩ = some (.slice A' n' c') := hb5.cell 2))
            go_wp2
            go_ret2
            have hp5' := (((Only.refl (fun _ => False) w0).alloc _).drew).trans hp5
            have hs5 := (((Only.refl (fun _ => False) w0).alloc (.cells #[.slice AL k C, .slice A' n' c', .slice B3 (N - (k + n)) (C - (k + n))] 22)).drew).size
            have hs0 := hp0.size
            refine ⟨A5, n5, c5, by rw [HC.out]; rfl, ?_, hp0.trans hp5'⟩
            rw [← HR.out]
            exact RdI.mono hR5 fun b _ hb => by
              have h9 : ((w0.alloc (.cells #[.slice AL k C, .slice A' n' c', .slice B3 (N - (k + n)) (C - (k + n))] 22)).drew).heap.size ≤ b := hb
              omega

end Go.Proofs.Ytinlpmgchcbjpaa
