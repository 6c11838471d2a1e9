/- (*Ring).Kill, whole; Rotate, Yank, New, Clone. -/
import Derived.Test.YtinlpmgchcbjpaaK3
namespace Go.Proofs.Ytinlpmgchcbjpaa
open Go Go.RowKit
set_option maxHeartbeats 400000
set_option maxRecDepth 100000

theorem kill_any (g : Nat) (S S' : Nat → Prop) (es : List (List Int)) (place : Nat) (way : Int) (A : Option Addr) (n c : Nat) (l : List Int) (w : World) (hR : Ring w S g es place) (hr : RdI w S' A n c l) (hS' : ¬ S' g) :
    Calls Try.prog 17 #[.pointer (some ⟨g, 0, none⟩), .int .i64 way, .slice A n c] w (KillDid w S g es place way l) := by
  have hl := hr.len
  have hmax : n ≤ 9223372036854775807 := by have h1 := hr.cap; have h2 := hr.capMax; unfold maxLen at h2; omega
  by_cases hw : way < 0 ∨ 2 < way
  · exact kill_bad g S es place way A n c l w hR hw
  by_cases hn : 1024 < n
  · exact kill_long g S es place way A n c l w hR (by omega) (by omega) hl hn (by omega)
  rcases es with _ | ⟨e0, es⟩
  · by_cases h0 : way = 0 ∧ n = 0
    · obtain ⟨rfl, rfl⟩ := h0
      obtain rfl : l = [] := List.eq_nil_of_length_eq_zero hl
      exact kill_none g S [] place A c w hR
    · refine kill_push g S S' [] place way A n c l w hR (by omega) (by omega) hr hS' (by omega) ?_
      by_cases h : way = 0
      · left; omega
      · right; exact ⟨h, rfl⟩
  · by_cases hw0 : way = 0
    · subst hw0
      by_cases h0 : n = 0
      · subst h0
        obtain rfl : l = [] := List.eq_nil_of_length_eq_zero hl
        exact kill_none g S _ place A c w hR
      · exact kill_push g S S' _ place 0 A n c l w hR (by omega) (by omega) hr hS' (by omega) (.inl ⟨rfl, by omega⟩)
    · by_cases ho : 1024 < n + e0.length
      · exact kill_over g S e0 es place way A n c l w hR (by omega) (by omega) hl (by omega) ho
      · have hcode : killCode way l (e0 :: es) = 0 := by unfold killCode; rw [if_neg hw, if_neg (by omega), if_neg]; rintro ⟨_, _, h⟩; simp at h; omega
        have hpl : killPl way l (e0 :: es) place = 0 := by unfold killPl; rw [hcode, if_neg (by simp), if_neg]; exact fun h => hw0 h.1
        unfold KillDid
        rw [hcode, hpl]
        obtain rfl | rfl : way = 1 ∨ way = 2 := by omega
        · have hes : killEs 1 l (e0 :: es) = (e0 ++ l) :: es := by unfold killEs; rw [hcode]; simp
          rw [hes]; exact kill_append g S S' e0 es place A n c l w hR hr (by omega)
        · have hes : killEs 2 l (e0 :: es) = (l ++ e0) :: es := by unfold killEs; rw [hcode]; simp
          rw [hes]; exact kill_prepend g S S' e0 es place A n c l w hR hr (by omega)

/-- The place behind a rotation. -/
def rotPl (n : Int) (many place : Nat) : Nat := (((place : Int) + n.tmod many).tmod many % many).toNat
theorem rotPl_lt (n : Int) {many : Nat} (place : Nat) (h : 0 < many) : rotPl n many place < many := by
  have h1 := Int.emod_lt_of_pos (((place : Int) + n.tmod many).tmod many) (b := (many : Int)) (by omega)
  have h2 := Int.emod_nonneg (((place : Int) + n.tmod many).tmod many) (b := (many : Int)) (by omega)
  unfold rotPl; omega
theorem rotPl_eq (n : Int) {many : Nat} (place : Nat) (h : 0 < many) : ((place : Int) + n.tmod many).tmod many % many = ((rotPl n many place : Nat) : Int) := by
  have h2 := Int.emod_nonneg (((place : Int) + n.tmod many).tmod many) (b := (many : Int)) (by omega)
  unfold rotPl; omega


theorem rot_none (g : Nat) (S : Nat → Prop) (place : Nat) (n : Int) (w : World) (hR : Ring w S g [] place) :
    Calls Try.prog 21 #[.pointer (some ⟨g, 0, none⟩), .int .i64 n] w fun e w' => e = .returned (.tuple #[.slice none 0 0, .int .i64 6]) ∧ w = w' := by
  have c0 := hR.c0
  have c62 := hR.c62
  simp only [List.length_nil] at c62
  have h62 : w.cell? ⟨g, 62, none⟩ = some (.int .i64 0) := c62
  clear c62
  go_enter Try.func21, Try.ntmps21
  go_wp2_with (go_at_call 66; refine (none_made _ _ c0).mono ?_; rintro e w' ⟨rfl, rfl⟩)
  go_ret2
  exact ⟨rfl, rfl⟩

theorem rot_ok (g : Nat) (S : Nat → Prop) (es : List (List Int)) (place : Nat) (n : Int) (w : World) (hR : Ring w S g es place) (he : es ≠ []) :
    Calls Try.prog 21 #[.pointer (some ⟨g, 0, none⟩), .int .i64 n] w fun e w' => ∃ A m c, e = .returned (.tuple #[.slice A m c, .int .i64 0]) ∧
      RdI w' (fun b => w.heap.size ≤ b) A m c (es[rotPl n es.length place]?.getD []) ∧ Ring w' S g es (rotPl n es.length place) ∧ Only (fun b => b = g) w w' := by
  have c0 := hR.c0
  have c62 := hR.c62
  have c63 := hR.c63
  have f63 := hR.fz 63
  obtain ⟨E, hE⟩ : ∃ E, E = es.length := ⟨_, rfl⟩
  have hle := hR.le60
  have hpl := hR.pl
  have hE0 : 0 < E := by rw [hE]; exact List.length_pos_iff.2 he
  rw [← hE] at c62 hle hpl ⊢
  have hE1 : (1 : Int) ≤ (E : Int) := by omega
  have hE60 : (E : Int) ≤ 60 := by omega
  have hp60 : (place : Int) ≤ 60 := by omega
  have hp0 : (0 : Int) ≤ (place : Int) := by omega
  have hne : ((E : Int) == 0) = false := by rw [beq_eq_false_iff_ne]; omega
  have HE := hid hE
  clear hE hpl hle
  go_enter Try.func21, Try.ntmps21
  go_wp2_with (go_at_call 66; refine (none_made _ _ c0).mono ?_; rintro e w' ⟨rfl, rfl⟩)
  have b1 := Int.tmod_lt_of_pos n (b := (E : Int)) (by omega)
  have b2 := Int.lt_tmod_of_pos n (b := (E : Int)) (by omega)
  have q1 := Int.tmod_lt_of_pos ((place : Int) + n.tmod E) (b := (E : Int)) (by omega)
  have q2 := Int.lt_tmod_of_pos ((place : Int) + n.tmod E) (b := (E : Int)) (by omega)
  have h1 : IntKind.i64.wrap ((place : Int) + n.tmod E) = (place : Int) + n.tmod E := IntWalk.i64_in _ (by omega)
  have h2 : IntKind.i64.wrap (((place : Int) + n.tmod E).tmod E + E) = ((place : Int) + n.tmod E).tmod E + E := IntWalk.i64_in _ (by omega)
  have hE00 : ¬ (E : Int) = 0 := by omega
  go_region
  clear h1 h2 q1 q2 b1 b2
  go_wp2_with fail
  rw [rotPl_eq n place hE0]
  have hP := rotPl_lt n place hE0
  obtain ⟨P, hPe⟩ : ∃ P, P = rotPl n E place := ⟨_, rfl⟩
  rw [← hPe] at hP ⊢
  obtain ⟨w1, hw1⟩ : ∃ w1, w1 = (w.setCell ⟨g, 63, none⟩ (.int .i64 (P : Int))).drew := ⟨_, rfl⟩
  rw [← hw1]
  have hR1 : Ring w1 S g es P := by
    rw [hw1]; exact (hR.setPlace P (.inl (by rw [← HE.out]; exact hP))).pure_ ((Only.refl _ _).drew)
  have ho1 : Only (fun b => b = g) w w1 := by rw [hw1]; exact ((Only.refl _ w).set _ _).drew
  have HP := hid hPe
  clear hw1 hPe hR c0 c62 c63 f63
  have hR1' := hR1
  obtain ⟨hSg, cs, head, hB, k1, k2, k3, k4, k5, k6, k7, k8, k9⟩ := hR1'
  obtain ⟨a, m, d, hv, hr, hm⟩ := k9 P (by rw [← HE.out]; exact hP)
  have e61 := (hB.cell 61).trans k3
  have ev := (hB.cell (1 + (head + P) % 60)).trans hv
  clear k1 k2 k3 k4 k5 k7 k8 k9 hv hB
  refine (at_any g head P a m d w1 k6 (by omega) e61 ev).mono ?_
  rintro e w' ⟨rfl, q, rfl⟩
  go_wp2_with (go_at_call 70; refine (clone_any a m d _ S (w1.drewN q) (hr.pure_ ((Only.refl _ w1).drewN q)) (by unfold small; omega)).mono ?_; rintro e w2 ⟨A1, n1, c1, rfl, hR2, hp2⟩)
  go_ret2
  have hp2' := hp2.ofDrewN
  rw [HP.out] at hR1 hR2
  refine ⟨A1, n1, c1, rfl, RdI.mono hR2 fun b _ hb => ?_, hR1.pure_ hp2', ho1.trans (Only.of_pure hp2')⟩
  have h1 : w1.heap.size ≤ b := hb
  have h2 := ho1.size
  omega

/-- Rotate, at whatever ring. -/
def rotErr (es : List (List Int)) : Int := if es = [] then 6 else 0
def rotTxt (n : Int) (es : List (List Int)) (place : Nat) : List Int := if es = [] then [] else es[rotPl n es.length place]?.getD []
def rotNew (n : Int) (es : List (List Int)) (place : Nat) : Nat := if es = [] then place else rotPl n es.length place
def RotDid (w : World) (S : Nat → Prop) (g : Nat) (es : List (List Int)) (place : Nat) (n : Int) (e : Ending) (w' : World) : Prop :=
  ∃ A m c, e = .returned (.tuple #[.slice A m c, .int .i64 (rotErr es)]) ∧
    RdI w' (fun b => w.heap.size ≤ b) A m c (rotTxt n es place) ∧ Ring w' S g es (rotNew n es place) ∧ Only (fun b => b = g) w w'
theorem rot_any (g : Nat) (S : Nat → Prop) (es : List (List Int)) (place : Nat) (n : Int) (w : World) (hR : Ring w S g es place) :
    Calls Try.prog 21 #[.pointer (some ⟨g, 0, none⟩), .int .i64 n] w (RotDid w S g es place n) := by
  unfold RotDid rotErr rotTxt rotNew
  by_cases he : es = []
  · subst he
    refine (rot_none g S place n w hR).mono ?_
    rintro e w' ⟨rfl, rfl⟩
    exact ⟨none, 0, 0, rfl, RdI.nil _ _ _ _ (Nat.zero_le _), hR, Only.refl _ _⟩
  · refine (rot_ok g S es place n w hR he).mono ?_
    rintro e w' ⟨A, m, c, rfl, h1, h2, h3⟩
    exact ⟨A, m, c, by rw [if_neg he], by rw [if_neg he]; exact h1, by rw [if_neg he]; exact h2, h3⟩

theorem yank_any (g : Nat) (S : Nat → Prop) (es : List (List Int)) (place : Nat) (w : World) (hR : Ring w S g es place) :
    Calls Try.prog 18 #[.pointer (some ⟨g, 0, none⟩)] w (RotDid w S g es place 0) := by
  go_enter Try.func18, Try.ntmps18
  go_wp2_with (go_at_call 21; refine (rot_any g S es place 0 w hR).mono ?_; rintro e w' ⟨A, m, c, rfl, h1, h2, h3⟩)
  go_ret2
  exact ⟨A, m, c, rfl, h1, h2, h3⟩

/-- A ring without entries. -/
def ring0 : Array Value := #[.bool true] ++ Array.replicate 60 (.slice none 0 0) ++ #[.int .i64 0, .int .i64 0, .int .i64 0]
theorem ring0_one (i : Nat) (u : Value) (h : ring0[i]? = some u) : u.oneCell' = true := by
  have hm := Array.mem_of_getElem? h
  have : ring0.all (·.oneCell') = true := by kernel_rfl
  exact (Array.all_eq_true_iff_forall_mem.1 this) u hm
theorem RingCells.none_ (w : World) (S : Nat → Prop) : RingCells w S ring0 0 [] 0 := by
  refine ⟨⟨by decide, fun i u hu => ring0_one i u hu⟩, rfl, rfl, rfl, rfl, by omega, by simp, .inr rfl, fun i hi => absurd hi (by simp)⟩

theorem new_any (w : World) : Calls Try.prog 15 #[] w fun e w' => e = .returned (.pointer (some ⟨w.heap.size, 0, none⟩)) ∧ w' = w.alloc (.cells ring0 38) := by
  go_enter Try.func15, Try.ntmps15
  go_wp2
  go_ret
  exact ⟨rfl, rfl⟩

def NewDid (w : World) (e : Ending) (w' : World) : Prop := ∃ g, e = .returned (.pointer (some ⟨g, 0, none⟩)) ∧ w.heap.size ≤ g ∧ Ring w' (fun _ => False) g [] 0 ∧ Pure w w'
theorem new_ring (w : World) : Calls Try.prog 15 #[] w (NewDid w) :=
  (new_any w).mono fun _ _ ⟨he, hw⟩ => ⟨w.heap.size, he, Nat.le_refl _, by rw [hw]; exact ⟨fun x => x, ring0, 0, Blk.new _ _ _, RingCells.none_ _ _⟩, by rw [hw]; exact (Only.refl _ w).alloc _⟩

end Go.Proofs.Ytinlpmgchcbjpaa
