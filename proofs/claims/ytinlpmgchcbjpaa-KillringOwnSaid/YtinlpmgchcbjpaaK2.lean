/- (*Ring).Kill: its ways. -/
import Derived.Test.YtinlpmgchcbjpaaK1
namespace Go.Proofs.Ytinlpmgchcbjpaa
open Go Go.RowKit
set_option maxHeartbeats 400000
set_option maxRecDepth 100000

theorem at_zero (g head : Nat) (A : Option Addr) (m c : Nat) (w : World) (hh : head < 60) (h61 : w.cell? ⟨g, 61, none⟩ = some (.int .i64 (head : Int)))
    (hv : w.cell? ⟨g, 1 + head, none⟩ = some (.slice A m c)) :
    Calls Try.prog 67 #[.pointer (some ⟨g, 0, none⟩), .int .i64 0] w fun e w' => e = .returned (.slice A m c) ∧ ∃ q, w' = w.drewN q :=
  at_any g head 0 A m c w hh (by omega) h61 (by rw [show (head + 0) % 60 = head by omega]; exact hv)

/-- What a kill answers, and what it leaves. -/
def killCode (way : Int) (l : List Int) (es : List (List Int)) : Int :=
  if way < 0 ∨ 2 < way then 1 else if 1024 < l.length then 3 else if way ≠ 0 ∧ es ≠ [] ∧ 1024 < l.length + (es.headD []).length then 3 else 0
def killEs (way : Int) (l : List Int) (es : List (List Int)) : List (List Int) :=
  if killCode way l es ≠ 0 then es else if way ≠ 0 ∧ es ≠ [] then (if way = 1 then es.headD [] ++ l else l ++ es.headD []) :: es.tail else if way = 0 ∧ l = [] then es else pushE l es
def killPl (way : Int) (l : List Int) (es : List (List Int)) (place : Nat) : Nat :=
  if killCode way l es ≠ 0 then place else if way = 0 ∧ l = [] then place else 0

def KillDid (w : World) (S : Nat → Prop) (g : Nat) (es : List (List Int)) (place : Nat) (way : Int) (l : List Int) (e : Ending) (w' : World) : Prop :=
  Did w S g (killEs way l es) (killPl way l es place) (.int .i64 (killCode way l es)) e w'

theorem Did.same {w w' : World} {S : Nat → Prop} {g : Nat} {es : List (List Int)} {place : Nat} {v : Value} (h : Ring w S g es place) (hw : ∃ q, w' = w.drewN q) : Did w S g es place v (.returned v) w' := by
  obtain ⟨q, rfl⟩ := hw
  refine ⟨rfl, ?_, (Only.refl _ w).drewN q⟩
  have hl := h.lt
  have h' : Ring (w.drewN q) S g es place := h.pure_ ((Only.refl _ w).drewN q)
  refine h'.mono (fun b _ hb => .inl hb) ?_
  rintro (h1 | h1)
  · exact h.1 h1
  · omega

theorem kill_bad (g : Nat) (S : Nat → Prop) (es : List (List Int)) (place : Nat) (way : Int) (A : Option Addr) (n c : Nat) (l : List Int) (w : World) (hR : Ring w S g es place) (hw : way < 0 ∨ 2 < way) :
    Calls Try.prog 17 #[.pointer (some ⟨g, 0, none⟩), .int .i64 way, .slice A n c] w (KillDid w S g es place way l) := by
  have hcode : killCode way l es = 1 := by unfold killCode; rw [if_pos hw]
  have hes : killEs way l es = es := by unfold killEs; rw [hcode]; rfl
  have hpl : killPl way l es place = place := by unfold killPl; rw [hcode]; rfl
  unfold KillDid
  rw [hcode, hes, hpl]
  clear hcode hes hpl
  have hR0 := hR
  obtain ⟨hSg, cs, head, hB, hC⟩ := hR
  obtain ⟨k1, k2, k3, k4, k5, k6, k7, k8, k9⟩ := hC
  have c0 := (hB.cell 0).trans k2
  clear k1 k2 k3 k4 k5 k6 k7 k8 k9 hSg hB
  rcases hw with hw | hw
  · go_enter Try.func17, Try.ntmps17
    go_wp2_with (go_at_call 66; refine (none_made _ _ c0).mono ?_; rintro e w' ⟨rfl, rfl⟩)
    go_ret
    exact Did.same hR0 ⟨0, rfl⟩
  · have hw' : ¬ way < 0 := by omega
    go_enter Try.func17, Try.ntmps17
    go_wp2_with (go_at_call 66; refine (none_made _ _ c0).mono ?_; rintro e w' ⟨rfl, rfl⟩)
    go_ret
    exact Did.same hR0 ⟨0, rfl⟩

theorem kill_long (g : Nat) (S : Nat → Prop) (es : List (List Int)) (place : Nat) (way : Int) (A : Option Addr) (n c : Nat) (l : List Int) (w : World) (hR : Ring w S g es place) (hw0 : 0 ≤ way) (hw2 : way ≤ 2) (hl : l.length = n) (hn : 1024 < n) (hc : (n : Int) ≤ 9223372036854775807) :
    Calls Try.prog 17 #[.pointer (some ⟨g, 0, none⟩), .int .i64 way, .slice A n c] w (KillDid w S g es place way l) := by
  have hcode : killCode way l es = 3 := by unfold killCode; rw [if_neg (by omega), if_pos (by omega)]
  have hes : killEs way l es = es := by unfold killEs; rw [hcode]; rfl
  have hpl : killPl way l es place = place := by unfold killPl; rw [hcode]; rfl
  unfold KillDid
  rw [hcode, hes, hpl]
  clear hcode hes hpl hl
  have hR0 := hR
  obtain ⟨hSg, cs, head, hB, hC⟩ := hR
  obtain ⟨k1, k2, k3, k4, k5, k6, k7, k8, k9⟩ := hC
  have c0 := (hB.cell 0).trans k2
  have c62 := (hB.cell 62).trans k4
  clear k1 k2 k3 k4 k5 k6 k7 k8 k9 hSg hB
  have h1 : (1024 : Int) < n := by omega
  obtain rfl | h0 : way = 0 ∨ 1 ≤ way := by omega
  · go_enter Try.func17, Try.ntmps17
    go_wp2_with (go_at_call 66; refine (none_made _ _ c0).mono ?_; rintro e w' ⟨rfl, rfl⟩)
    go_ret
    exact Did.same hR0 ⟨0, rfl⟩
  · have h0' : (way != 0) = true := by rw [bne_iff_ne]; omega
    go_enter Try.func17, Try.ntmps17
    go_wp2_with (go_at_call 66; refine (none_made _ _ c0).mono ?_; rintro e w' ⟨rfl, rfl⟩)
    go_ret
    exact Did.same hR0 ⟨0, rfl⟩

theorem kill_over (g : Nat) (S : Nat → Prop) (e0 : List Int) (es : List (List Int)) (place : Nat) (way : Int) (A : Option Addr) (n c : Nat) (l : List Int) (w : World) (hR : Ring w S g (e0 :: es) place) (hw0 : 1 ≤ way) (hw2 : way ≤ 2) (hl : l.length = n) (hn : n ≤ 1024) (ho : 1024 < n + e0.length) :
    Calls Try.prog 17 #[.pointer (some ⟨g, 0, none⟩), .int .i64 way, .slice A n c] w (KillDid w S g (e0 :: es) place way l) := by
  have hcode : killCode way l (e0 :: es) = 3 := by unfold killCode; rw [if_neg (by omega), if_neg (by omega), if_pos ⟨by omega, by simp, by simp; omega⟩]
  have hes : killEs way l (e0 :: es) = e0 :: es := by unfold killEs; rw [hcode]; rfl
  have hpl : killPl way l (e0 :: es) place = place := by unfold killPl; rw [hcode]; rfl
  unfold KillDid
  rw [hcode, hes, hpl]
  clear hcode hes hpl hl
  have hR0 := hR
  obtain ⟨hSg, cs, head, hB, hC⟩ := hR
  obtain ⟨k1, k2, k3, k4, k5, k6, k7, k8, k9⟩ := hC
  obtain ⟨a, m, d, hv, hr, hm⟩ := k9 0 (by simp)
  rw [show (head + 0) % 60 = head by omega] at hv
  have hlen := hr.len
  simp only [List.getElem?_cons_zero, Option.getD_some] at hlen
  rw [hlen] at ho
  have c0 := (hB.cell 0).trans k2
  have c61 := (hB.cell 61).trans k3
  have c62 := (hB.cell 62).trans k4
  have cv := (hB.cell (1 + head)).trans hv
  obtain ⟨E, hE⟩ : ∃ E, E = (e0 :: es).length := ⟨_, rfl⟩
  rw [← hE] at c62
  have hE1 : (0 : Int) < (E : Int) := by rw [hE]; simp
  clear k1 k2 k3 k4 k5 k7 k8 k9 hSg hB hv hr hlen hE
  have h1 : (n : Int) ≤ 1024 := by omega
  have h2 : (1024 : Int) - (m : Int) < (n : Int) := by omega
  have h3 : (m : Int) ≤ 1024 := by omega
  have h0' : (way != 0) = true := by rw [bne_iff_ne]; omega
  go_enter Try.func17, Try.ntmps17
  go_wp2_with (first | (go_at_call 66; refine (none_made _ _ c0).mono ?_; rintro e w' ⟨rfl, rfl⟩) | (go_at_call 67; refine (at_zero g head a m d _ k6 c61 cv).mono ?_; rintro e w' ⟨rfl, q, rfl⟩))
  go_ret
  exact Did.same hR0 ⟨_, rfl⟩

theorem kill_none (g : Nat) (S : Nat → Prop) (es : List (List Int)) (place : Nat) (A : Option Addr) (c : Nat) (w : World) (hR : Ring w S g es place) :
    Calls Try.prog 17 #[.pointer (some ⟨g, 0, none⟩), .int .i64 0, .slice A 0 c] w (KillDid w S g es place 0 []) := by
  have hcode : killCode 0 [] es = 0 := by unfold killCode; simp
  have hes : killEs 0 [] es = es := by unfold killEs; rw [hcode]; simp
  have hpl : killPl 0 [] es place = place := by unfold killPl; rw [hcode]; simp
  unfold KillDid
  rw [hcode, hes, hpl]
  clear hcode hes hpl
  have hR0 := hR
  obtain ⟨hSg, cs, head, hB, hC⟩ := hR
  obtain ⟨k1, k2, k3, k4, k5, k6, k7, k8, k9⟩ := hC
  have c0 := (hB.cell 0).trans k2
  clear k1 k2 k3 k4 k5 k6 k7 k8 k9 hSg hB
  go_enter Try.func17, Try.ntmps17
  go_wp2_with (go_at_call 66; refine (none_made _ _ c0).mono ?_; rintro e w' ⟨rfl, rfl⟩)
  go_ret
  exact Did.same hR0 ⟨0, rfl⟩

theorem Did.of_push {w w' : World} {S : Nat → Prop} {g : Nat} {es : List (List Int)} {place : Nat} {v : Value} {e : Ending} (h : Did w S g es place v e w') : e = .returned v ∧ Ring w' (Plus S w.heap.size) g es place ∧ Only (fun b => b = g) w w' := h

/-- A kill that makes a new entry. -/
theorem kill_push (g : Nat) (S S' : Nat → Prop) (es : List (List Int)) (place : Nat) (way : Int) (A : Option Addr) (n c : Nat) (l : List Int) (w : World) (hR : Ring w S g es place) (hw0 : 0 ≤ way) (hw2 : way ≤ 2)
    (hr : RdI w S' A n c l) (hS' : ¬ S' g) (hn : n ≤ 1024) (hcase : (way = 0 ∧ 0 < n) ∨ (way ≠ 0 ∧ es = [])) :
    Calls Try.prog 17 #[.pointer (some ⟨g, 0, none⟩), .int .i64 way, .slice A n c] w (KillDid w S g es place way l) := by
  have hl := hr.len
  have hcode : killCode way l es = 0 := by
    unfold killCode; rw [if_neg (by omega), if_neg (by omega), if_neg]
    rintro ⟨h1, h2, _⟩
    rcases hcase with ⟨h, _⟩ | ⟨_, h⟩
    · exact h1 h
    · exact h2 h
  have hl0 : way = 0 → l ≠ [] := by
    rintro h rfl
    simp at hl; omega
  have hnot : ¬ (way ≠ 0 ∧ es ≠ []) := by rintro ⟨h1, h2⟩; rcases hcase with ⟨h, _⟩ | ⟨_, h⟩; exact h1 h; exact h2 h
  have hnot2 : ¬ (way = 0 ∧ l = []) := fun h => hl0 h.1 h.2
  have hes : killEs way l es = pushE l es := by unfold killEs; rw [hcode, if_neg (by simp), if_neg hnot, if_neg hnot2]
  have hpl : killPl way l es place = 0 := by unfold killPl; rw [hcode, if_neg (by simp), if_neg hnot2]
  unfold KillDid
  rw [hcode, hes, hpl]
  clear hcode hes hpl hl hnot hnot2 hl0
  have hR0 := hR
  obtain ⟨hSg, cs, head, hB, hC⟩ := hR
  obtain ⟨k1, k2, k3, k4, k5, k6, k7, k8, k9⟩ := hC
  have c0 := (hB.cell 0).trans k2
  have c62 := (hB.cell 62).trans k4
  clear k1 k2 k3 k4 k5 k6 k7 k8 k9 hSg hB
  have h1 : (n : Int) ≤ 1024 := by omega
  rcases hcase with ⟨rfl, h0⟩ | ⟨h0, rfl⟩
  · have h0' : ((n : Int) == 0) = false := by rw [beq_eq_false_iff_ne]; omega
    go_enter Try.func17, Try.ntmps17
    go_wp2_with (first | (go_at_call 66; refine (none_made _ _ c0).mono ?_; rintro e w' ⟨rfl, rfl⟩) | (go_at_call 68; refine (push_any g S S' es place A n c l _ hR0 hr hS' hn).mono ?_; rintro e w' h; obtain ⟨rfl, hR1, ho1⟩ := h.of_push; clear h; have d63 := hR1.c63; have f63 := hR1.fz 63))
    go_ret
    exact ⟨rfl, hR1.setPlace 0 (.inr rfl), ho1.set _ _⟩
  · have h0' : (way != 0) = true := by rw [bne_iff_ne]; omega
    have h1' : 1 ≤ way := by omega
    go_enter Try.func17, Try.ntmps17
    go_wp2_with (first | (go_at_call 66; refine (none_made _ _ c0).mono ?_; rintro e w' ⟨rfl, rfl⟩) | (go_at_call 68; refine (push_any g S S' [] place A n c l _ hR0 hr hS' hn).mono ?_; rintro e w' h; obtain ⟨rfl, hR1, ho1⟩ := h.of_push; clear h; have d63 := hR1.c63; have f63 := hR1.fz 63))
    go_ret
    exact ⟨rfl, hR1.setPlace 0 (.inr rfl), ho1.set _ _⟩

end Go.Proofs.Ytinlpmgchcbjpaa
