/- The list of edits: Add. -/
import Derived.Test.YtinlpmgchcbjpaaU9
namespace Go.Proofs.Ytinlpmgchcbjpaa
open Go Go.RowKit
set_option maxHeartbeats 1000000
set_option maxRecDepth 100000

def addCode (e : Ed) (t : Nat) : Int := if (e.del = [] ∧ e.ins = []) ∨ e.at_ < 0 then 1 else if 16384 ≤ t then 3 else 0
def addG (gs : List (List Ed)) (op : Int) (e : Ed) : List (List Ed) := if 0 < op then gs else gs ++ [[e]]
def addN (now : List Ed) (op : Int) (e : Ed) : List Ed := if 0 < op then now ++ [e] else now
def AddDid (w : World) (S : Nat → Prop) (g : Nat) (gs : List (List Ed)) (now : List Ed) (op : Int) (e : Ed) (r : Ending) (w' : World) : Prop :=
  if addCode e (tot gs now) = 0 then ULDid w S g (addG gs op e) (addN now op e) op (.int .i64 0) r w' else ULDid w S g gs now op (.int .i64 (addCode e (tot gs now))) r w'

theorem ULDid.same {w w' : World} {S : Nat → Prop} {g : Nat} {gs : List (List Ed)} {now : List Ed} {op : Int} {v : Value} (h : UL w S g gs now op) (hp : Pure w w') : ULDid w S g gs now op v (.returned v) w' :=
  ⟨rfl, (h.pure_ hp).plus h.lt, hp.mono fun _ _ x => x.elim⟩

theorem uadd_bad (g : Nat) (S : Nat → Prop) (gs : List (List Ed)) (now : List Ed) (op : Int) (at0 : Int) (A : Option Addr) (n c : Nat) (del : List Int) (A' : Option Addr) (n' c' : Nat) (ins : List Int) (T T' : Nat → Prop) (w : World)
    (hU : UL w S g gs now op) (hr : RdI w T A n c del) (hr' : RdI w T' A' n' c' ins) (hn : small n) (hn' : small n') (hbad : (del = [] ∧ ins = []) ∨ at0 < 0) :
    Calls Try.prog 42 #[.pointer (some ⟨g, 0, none⟩), .agg #[.int .i64 at0, .slice A n c, .slice A' n' c']] w (AddDid w S g gs now op ⟨at0, del, ins⟩) := by
  have hcode : addCode ⟨at0, del, ins⟩ (tot gs now) = 1 := by unfold addCode; rw [if_pos hbad]
  have hpost : AddDid w S g gs now op ⟨at0, del, ins⟩ = ULDid w S g gs now op (.int .i64 1) := by funext r w'; unfold AddDid; rw [hcode, if_neg (by decide)]
  rw [hpost]
  have hnI : (n : Int) ≤ 35184372088832 := by unfold small at hn; omega
  have hnI' : (n' : Int) ≤ 35184372088832 := by unfold small at hn'; omega
  have hp1 : Pure w (w.alloc (.cells #[.int .i64 at0, .slice A n c, .slice A' n' c'] 60)) := (Only.refl _ w).alloc _
  have c4 := (hU.pure_ hp1).c4
  have h1 := hr.len
  have h2 := hr'.len
  by_cases h0 : n = 0 ∧ n' = 0
  · obtain ⟨rfl, rfl⟩ := h0
    clear h1 h2 hpost hcode
    go_enter Try.func42, Try.ntmps42
    go_wp2_with (go_at_call 78; refine (unone_made g _ c4).mono ?_; rintro e w' ⟨rfl, rfl⟩)
    go_ret
    exact ULDid.same hU hp1
  · have hs0 : ((n : Int) + (n' : Int) == 0) = false := by rw [beq_eq_false_iff_ne]; omega
    have hat : at0 < 0 := by
      rcases hbad with ⟨rfl, rfl⟩ | h
      · simp at h1 h2; omega
      · exact h
    clear h1 h2 hpost hcode h0
    go_enter Try.func42, Try.ntmps42
    go_wp2_with (go_at_call 78; refine (unone_made g _ c4).mono ?_; rintro e w' ⟨rfl, rfl⟩)
    go_ret
    exact ULDid.same hU hp1

theorem uadd_full (g : Nat) (S : Nat → Prop) (gs : List (List Ed)) (now : List Ed) (op : Int) (at0 : Int) (A : Option Addr) (n c : Nat) (del : List Int) (A' : Option Addr) (n' c' : Nat) (ins : List Int) (T T' : Nat → Prop) (w : World)
    (hU : UL w S g gs now op) (hr : RdI w T A n c del) (hr' : RdI w T' A' n' c' ins) (hn : small n) (hn' : small n') (hok : ¬ ((del = [] ∧ ins = []) ∨ at0 < 0)) (hfull : 16384 ≤ tot gs now) :
    Calls Try.prog 42 #[.pointer (some ⟨g, 0, none⟩), .agg #[.int .i64 at0, .slice A n c, .slice A' n' c']] w (AddDid w S g gs now op ⟨at0, del, ins⟩) := by
  have hcode : addCode ⟨at0, del, ins⟩ (tot gs now) = 3 := by unfold addCode; rw [if_neg hok, if_pos hfull]
  have hpost : AddDid w S g gs now op ⟨at0, del, ins⟩ = ULDid w S g gs now op (.int .i64 3) := by funext r w'; unfold AddDid; rw [hcode, if_neg (by decide)]
  rw [hpost]
  have hnI : (n : Int) ≤ 35184372088832 := by unfold small at hn; omega
  have hnI' : (n' : Int) ≤ 35184372088832 := by unfold small at hn'; omega
  have hp1 : Pure w (w.alloc (.cells #[.int .i64 at0, .slice A n c, .slice A' n' c'] 60)) := (Only.refl _ w).alloc _
  have c4 := (hU.pure_ hp1).c4
  have c3 := (hU.pure_ hp1).c3
  have h1 := hr.len
  have h2 := hr'.len
  have hat : ¬ at0 < 0 := fun h => hok (.inr h)
  have hs0 : ((n : Int) + (n' : Int) == 0) = false := by
    rw [beq_eq_false_iff_ne]; intro h
    exact hok (.inl ⟨List.eq_nil_of_length_eq_zero (by omega), List.eq_nil_of_length_eq_zero (by omega)⟩)
  have hfI : (16384 : Int) ≤ (tot gs now : Nat) := by omega
  clear h1 h2 hpost hcode hok
  go_enter Try.func42, Try.ntmps42
  go_wp2_with (go_at_call 78; refine (unone_made g _ c4).mono ?_; rintro e w' ⟨rfl, rfl⟩)
  go_ret
  exact ULDid.same hU hp1

end Go.Proofs.Ytinlpmgchcbjpaa
