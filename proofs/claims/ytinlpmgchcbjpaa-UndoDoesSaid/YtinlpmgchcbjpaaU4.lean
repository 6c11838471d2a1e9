/- Same: two edits compared. -/
import Derived.Test.YtinlpmgchcbjpaaU1
namespace Go.Proofs.Ytinlpmgchcbjpaa
open Go Go.RowKit
set_option maxHeartbeats 1000000
set_option maxRecDepth 100000

def sameE (a b : Ed) : Bool := decide (a.at_ = b.at_) && (eqL a.del b.del && eqL a.ins b.ins)

theorem same_edit (at0 : Int) (A : Option Addr) (n c : Nat) (del : List Int) (A' : Option Addr) (n' c' : Nat) (ins : List Int) (S S' : Nat → Prop)
    (at1 : Int) (B : Option Addr) (m d : Nat) (del1 : List Int) (B' : Option Addr) (m' d' : Nat) (ins1 : List Int) (T T' : Nat → Prop) (w : World)
    (hr : RdI w S A n c del) (hr' : RdI w S' A' n' c' ins) (hn : small n) (hn' : small n') (hq : RdI w T B m d del1) (hq' : RdI w T' B' m' d' ins1) :
    Calls Try.prog 36 #[.agg #[.int .i64 at0, .slice A n c, .slice A' n' c'], .agg #[.int .i64 at1, .slice B m d, .slice B' m' d']] w fun e w' => e = .returned (.bool (sameE ⟨at0, del, ins⟩ ⟨at1, del1, ins1⟩)) ∧ Pure w w' := by
  have hp : Pure w ((w.alloc (.cells #[.int .i64 at0, .slice A n c, .slice A' n' c'] 60)).alloc (.cells #[.int .i64 at1, .slice B m d, .slice B' m' d'] 60)) := ((Only.refl _ w).alloc _).alloc _
  have hs : sameE ⟨at0, del, ins⟩ ⟨at1, del1, ins1⟩ = (decide (at0 = at1) && (eqL del del1 && eqL ins ins1)) := rfl
  rw [hs]
  clear hs
  by_cases hat : at0 = at1
  · subst hat
    have h0 : (at0 == at0) = true := by simp
    cases h1 : eqL del del1
    · go_enter Try.func36, Try.ntmps36
      go_wp2_with (go_at_call 35; refine (runes_any A n c del S B m d del1 T _ (hr.pure_ hp) (hq.pure_ hp) hn).mono ?_; rintro e w4 ⟨rfl, q, rfl⟩; rw [h1])
      go_ret
      exact ⟨ret_bool (by simp), hp.drewN _⟩
    · go_enter Try.func36, Try.ntmps36
      go_wp2_with (first
        | (go_at_call 35; refine (runes_any A' n' c' ins S' B' m' d' ins1 T' _ (hr'.pure_ (hp.drewN q)) (hq'.pure_ (hp.drewN q)) hn').mono ?_; rintro e w5 ⟨rfl, q2, rfl⟩)
        | (go_at_call 35; refine (runes_any A n c del S B m d del1 T _ (hr.pure_ hp) (hq.pure_ hp) hn).mono ?_; rintro e w4 ⟨rfl, q, rfl⟩; rw [h1]))
      go_ret
      exact ⟨ret_bool (by simp), hp.drewN _⟩
  · have h0 : (at0 == at1) = false := by rw [beq_eq_false_iff_ne]; exact hat
    go_enter Try.func36, Try.ntmps36
    go_wp2
    go_ret
    exact ⟨ret_bool (by simp [hat]), hp⟩

end Go.Proofs.Ytinlpmgchcbjpaa
