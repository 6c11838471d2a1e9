/- Both lists: what the reference's Add leaves; both through a range. -/
import Derived.Test.YtinlpmgchcbjpaaU36
import Derived.Test.YtinlpmgchcbjpaaU37
import Derived.Test.YtinlpmgchcbjpaaRg
namespace Go.Proofs.Ytinlpmgchcbjpaa
open Go Go.RowKit
set_option maxRecDepth 100000

theorem RAddDid.any {w w' : World} {S : Nat → Prop} {g : Nat} {gs : List (List Ed)} {nw : List Ed} {op : Int} {e : Ed} {r : Ending} (h : RAddDid w S g gs nw op e r w') :
    r = .returned (.int .i64 (addCode e (tot gs nw))) ∧ RL w' (Plus S w.heap.size) g (gsA gs nw op e) (nwA gs nw op e) op ∧ Only (fun b => S b ∨ b = g) w w' := by
  unfold RAddDid at h
  unfold gsA nwA
  split at h
  · rename_i hc
    rw [if_pos hc, if_pos hc, hc]; exact h
  · rename_i hc
    rw [if_neg hc, if_neg hc]; exact h

theorem Pr.keptB {w X Y : World} {g g2 B : Nat} {gs gs2 : List (List Ed)} {nw nw2 : List Ed} {op op2 : Int} {S S2 : Nat → Prop} (h : Pr w g g2 gs nw op gs2 nw2 op2 S S2 X) (k : KeptB B X Y) (hB : w.heap.size ≤ B) : Pr w g g2 gs nw op gs2 nw2 op2 S S2 Y := by
  obtain ⟨⟨u0, Ag, ng, cg, An, nn, cn, Sg, Sn, u1, u2, u3, u4⟩, ⟨r0, Bg, mg, dg, Bn, mn, dn, Tg, Tn, r1, r2, r3, r4⟩, h3, h4, h5, h6, h7, h8⟩ := h
  have hs := k.size
  exact ⟨⟨u0, Ag, ng, cg, An, nn, cn, Sg, Sn, u1.keptB k, OwnG.keptB u2 k, OwnE.keptB u3 k, u4⟩, ⟨r0, Bg, mg, dg, Bn, mn, dn, Tg, Tn, r1.keptB k, OwnG.keptB r2 k, OwnE.keptB r3 k, r4⟩,
    fun b hb => ⟨(h3 b hb).1, Nat.lt_of_lt_of_le (h3 b hb).2.1 hs, (h3 b hb).2.2⟩, fun b hb => ⟨(h4 b hb).1, Nat.lt_of_lt_of_le (h4 b hb).2.1 hs, (h4 b hb).2.2⟩, h5, h6, h7, h8.keptB k hB⟩

theorem UL.all {w : World} {g : Nat} {S : Nat → Prop} {gs : List (List Ed)} {now : List Ed} {op : Int} (hU : UL w S g gs now op) : (∀ x ∈ allG gs now, x.length ≤ 16384 ∧ ∀ e ∈ x, e.fit) ∧ (allG gs now).length ≤ 16385 := by
  obtain ⟨_, _, _, _, _, _, _, _, _, _, _, _, _, _, _, h4, h5, h6, h7⟩ := hU
  refine ⟨?_, ?_⟩
  · intro x hx
    unfold allG nowG at hx
    unfold tot at h4
    have hx' : x ∈ gs ∨ x = now := by
      rcases List.mem_append.1 hx with hx | hx
      · split at hx
        · simp at hx
        · exact .inr (by simpa using hx)
      · exact .inl (by simpa using hx)
    rcases hx' with hx | rfl
    · exact ⟨by have := len_le_sum hx; omega, h6 x hx⟩
    · exact ⟨by omega, h7⟩
  · have h1 := tot_groups (now := now) h5
    unfold allG nowG
    rw [List.length_append, List.length_reverse]
    split <;> simp <;> omega

theorem halt_ {p : Prop} (h : True → p) : p := h trivial

end Go.Proofs.Ytinlpmgchcbjpaa
