/- The reference: SameList, where the lists are the same. -/
import Derived.Test.YtinlpmgchcbjpaaU29
import Derived.Test.YtinlpmgchcbjpaaU4
namespace Go.Proofs.Ytinlpmgchcbjpaa
open Go Go.RowKit
set_option maxHeartbeats 2000000
set_option maxRecDepth 100000

theorem sameE_refl (e : Ed) : sameE e e = true := by simp [sameE, eqL]

theorem samelist_same (A : Option Addr) (n c : Nat) (S : Nat → Prop) (A' : Option Addr) (c' : Nat) (S' : Nat → Prop) (es : List Ed) (w : World)
    (hL : RdE w S A n c es) (hL' : RdE w S' A' n c' es) (hn : n ≤ 16384) (hf : ∀ e ∈ es, e.fit) :
    Calls Try.prog 58 #[.slice A n c, .slice A' n c'] w fun e w' => e = .returned (.bool true) ∧ Pure w w' := by
  have hnI : (n : Int) ≤ 16384 := by omega
  have hlen : es.length = n := hL.1
  have HL := hid hlen
  clear hlen
  have hnn : ((n : Int) != (n : Int)) = false := by simp
  go_enter Try.func58, Try.ntmps58
  go_wp2
  go_loopw [5] (fun i wr => ∃ k : Nat, k ≤ n ∧ i = .int .i64 k ∧ Pure w wr) (fun i _ => n - (intOf i).toNat)
  case atStart => exact ⟨0, Nat.zero_le _, rfl, Only.refl _ _⟩
  case round =>
    obtain ⟨k, hk, rfl, hp⟩ := hrel
    by_cases hlt : k < n
    · have hkI : (k : Int) < n := by omega
      have hLk := RdK'.pure_ hL hp
      have hLk' := RdK'.pure_ hL' hp
      obtain ⟨g1, o1, a1, m1, d1, b1, p1, q1, rfl, hg1, _, e0, e1, e2, hx1, hy1⟩ := RdE.at_ hLk hlt
      obtain ⟨g2, o2, a2, m2, d2, b2, p2, q2, rfl, hg2, _, f0, f1, f2, hx2, hy2⟩ := RdE.at_ hLk' hlt
      have hfk : (es[k]?.getD Ed.none).fit := by
        rw [List.getElem?_eq_getElem (by rw [HL.out]; exact hlt)]; exact hf _ (List.getElem_mem _)
      obtain ⟨ek, hek⟩ : ∃ v, v = es[k]?.getD Ed.none := ⟨_, rfl⟩
      rw [← hek] at e0 hx1 hy1 f0 hx2 hy2 hfk
      have hsm : small m1 := by rw [← hx1.len]; exact hfk.1
      have hsp : small p1 := by rw [← hy1.len]; exact hfk.2
      clear hek hfk hLk hLk'
      go_wp2
      go_region_law (first
        | (go_simp; go_at_call 36; refine (same_edit ek.at_ a1 m1 d1 ek.del b1 p1 q1 ek.ins S S ek.at_ a2 m2 d2 ek.del b2 p2 q2 ek.ins S' S' wr.drew (hx1.pure_ (Only.refl _ _).drew) (hy1.pure_ (Only.refl _ _).drew) hsm hsp (hx2.pure_ (Only.refl _ _).drew) (hy2.pure_ (Only.refl _ _).drew)).mono ?_; rintro e w3 ⟨rfl, hp3⟩; rw [show sameE ⟨ek.at_, ek.del, ek.ins⟩ ⟨ek.at_, ek.del, ek.ins⟩ = true from sameE_refl _]; have hp3' := hp.trans hp3.ofDrew))
      all_goals
        go_wp2
        go_roundw
        case rel => exact ⟨k + 1, by omega, by go_num, hp3'⟩
        case measure => simp [intOf] <;> omega
    · obtain rfl : k = n := by omega
      go_wp2
      go_ret
      exact ⟨rfl, hp⟩

end Go.Proofs.Ytinlpmgchcbjpaa
