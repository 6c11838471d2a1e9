/- The list of edits: Undo. -/
import Derived.Test.YtinlpmgchcbjpaaU14
namespace Go.Proofs.Ytinlpmgchcbjpaa
open Go Go.RowKit
set_option maxHeartbeats 1000000
set_option maxRecDepth 100000

/-- A row of the call's own, shorter. -/
theorem own_pre {w : World} {base : Nat} {e : TypeId} {size n c : Nat} {A : Option Addr} {xs : List Value} (h : w.ownsRow base e size (.slice A n c) n xs) {k : Nat} (hk : k ≤ n) : w.ownsRow base e size (.slice A k c) k (xs.take (k * size)) := by
  have hl := h.1
  have hm := Nat.mul_le_mul_right size hk
  refine ⟨by rw [List.length_take]; omega, ?_⟩
  rcases h.2 with ⟨hv, hn⟩ | ⟨g, cap, cur, hv, hb, hh, hnc, hcm, hcs, htk⟩
  · injection hv with h1 h2 h3
    obtain rfl : k = 0 := by omega
    subst h1 h3
    exact .inl ⟨rfl, rfl⟩
  · injection hv with h1 h2 h3
    subst h1 h3
    exact .inr ⟨g, c, cur, rfl, hb, hh, by omega, hcm, hcs, by rw [← htk, List.take_take]; congr 1; omega⟩

theorem OwnK.pre {α : Type} {K : Kind α} {e : TypeId} {k : Nat} {z : α} {base : Nat} {w : World} {A : Option Addr} {n c : Nat} {xs : List α} {Se : Nat → Prop} (h : OwnK K e k z base w A n c xs Se) {m : Nat} (hm : m ≤ n) : OwnK K e k z base w A m c (xs.take m) Se := by
  obtain ⟨h1, vs, h2, h3, h4, h5⟩ := h
  have hl := h2.1
  refine ⟨by rw [List.length_take]; omega, vs.take (m * k), own_pre h2 hm, fun j hj => ?_, fun b hb e => h4 b hb ?_, h5⟩
  · have hjk : j * k + k ≤ m * k := by have := Nat.mul_le_mul_right k (show j + 1 ≤ m by omega); rwa [Nat.add_mul, Nat.one_mul] at this
    have e1 : ((vs.take (m * k)).drop (j * k)).take k = (vs.drop (j * k)).take k := by
      rw [List.drop_take, List.take_take]; congr 1; omega
    have e2 : (xs.take m)[j]? = xs[j]? := by rw [List.getElem?_take, if_pos hj]
    rw [e1, e2]; exact h3 j (by omega)
  · cases A <;> simp [Value.ownBlock] at e ⊢ <;> exact e

/-- A group of an own row of groups. -/
theorem OwnG.at_ {base : Nat} {w : World} {A : Option Addr} {n c : Nat} {gs : List (List Ed)} {Se : Nat → Prop} (h : OwnG base w A n c gs Se) {k : Nat} (hk : k < n) : ∃ b a m d, A = some ⟨b, 0, none⟩ ∧ w.cell? ⟨b, k, none⟩ = some (.slice a m d) ∧ RdE w Se a m d (gs[k]?.getD []) := by
  obtain ⟨h1, vs, h2, h3, _⟩ := h
  obtain ⟨a, m, d, e, hr⟩ := h3 k hk
  rcases h2.2 with ⟨hv, hn⟩ | ⟨g, cap, cur, hv, _⟩
  · omega
  · injection hv with hA hn hc
    subst hA
    have := h2.cells (g := g) rfl (k * 1 + 0) _ (row_get (j := 0) e rfl)
    rw [addr_add] at this
    exact ⟨g, a, m, d, rfl, by simpa using this, hr⟩

def undoG (gs : List (List Ed)) (now : List Ed) : List (List Ed) := (closeG gs now).dropLast
def undoOut (gs : List (List Ed)) (now : List Ed) : List Ed := invs ((closeG gs now).getLast?.getD [])

/-- What Undo answers where there is something to undo. -/
def UndoDid (w : World) (S : Nat → Prop) (g : Nat) (gs : List (List Ed)) (now : List Ed) (r : Ending) (w' : World) : Prop :=
  ∃ A n c, r = .returned (.tuple #[.slice A n c, .int .i64 0]) ∧ RdE w' (fun b => w.heap.size ≤ b) A n c (undoOut gs now) ∧ UL w' (Plus S w.heap.size) g (undoG gs now) [] 0 ∧ Only (fun b => S b ∨ b = g) w w'

theorem uundo_bell (g : Nat) (S : Nat → Prop) (op : Int) (w : World) (hU : UL w S g [] [] op) :
    Calls Try.prog 54 #[.pointer (some ⟨g, 0, none⟩)] w (ULDid w S g [] [] op (.tuple #[.slice none 0 0, .int .i64 6])) := by
  have hU0 := hU
  have c4 := hU.c4
  obtain ⟨h0, Ag, ng, cg, An, nn, cn, Sg, Sn, hB, hG, hE, hS, _⟩ := hU
  obtain rfl : nn = 0 := by have := hE.len; simpa using this.symm
  obtain rfl : ng = 0 := by have := hG.len; simpa using this.symm
  have c0 : w.cell? ⟨g, 0, none⟩ = some (.slice Ag 0 cg) := hB.cell 0
  have c1 : w.cell? ⟨g, 1, none⟩ = some (.slice An 0 cn) := hB.cell 1
  clear hB hG hE hS
  go_enter Try.func54, Try.ntmps54
  go_wp2_with (go_at_call 78; refine (unone_made g w c4).mono ?_; rintro e w' ⟨rfl, rfl⟩)
  go_quiet (fail)
  go_wp2
  go_ret2
  exact ULDid.same hU0 ((Only.refl _ w).drewN _)

theorem tot_last (ys : List (List Ed)) (y : List Ed) : tot (ys ++ [y]) [] = tot ys [] + y.length := by
  unfold tot; simp

set_option maxHeartbeats 2000000 in
theorem uundo_some (g : Nat) (S : Nat → Prop) (gs : List (List Ed)) (now : List Ed) (op : Int) (w : World) (hU : UL w S g gs now op) (hne : ¬ (gs = [] ∧ now = [])) :
    Calls Try.prog 54 #[.pointer (some ⟨g, 0, none⟩)] w (UndoDid w S g gs now) := by
  have c4 := hU.c4
  have hU0 := hU
  obtain ⟨h0, Ag0, ng0, cg0, An0, nn0, cn0, Sg0, Sn0, hB, hG, hE, hS, _, _, h3, h4, _⟩ := hU
  have hle := tot_groups (now := now) h4
  have c0 : w.cell? ⟨g, 0, none⟩ = some (.slice Ag0 ng0 cg0) := hB.cell 0
  have c1 : w.cell? ⟨g, 1, none⟩ = some (.slice An0 nn0 cn0) := hB.cell 1
  have hlg := hG.len
  have hln := hE.len
  have hsI : ((ng0 : Int) + (nn0 : Int) == 0) = false := by
    rw [beq_eq_false_iff_ne]; intro h
    exact hne ⟨List.eq_nil_of_length_eq_zero (by omega), List.eq_nil_of_length_eq_zero (by omega)⟩
  have hngI : (ng0 : Int) ≤ 16384 := by omega
  have hnnI : (nn0 : Int) ≤ 16384 := by omega
  have hwr : IntKind.i64.wrap ((ng0 : Int) + (nn0 : Int)) = (ng0 : Int) + (nn0 : Int) := IntWalk.i64_in _ (by omega)
  clear hB hG hE hS h3 h4 hle hlg hln
  go_enter Try.func54, Try.ntmps54
  go_wp2_with (go_at_call 78; refine (unone_made g w c4).mono ?_; rintro e w' ⟨rfl, rfl⟩)
  go_quiet (fail)
  go_wp2_with fail
  refine (uclose_any g S gs now op (w.drewN nq) (hU0.pure_ ((Only.refl _ w).drewN _))).mono ?_
  rintro e w1 ⟨rfl, hU1, ho1⟩
  obtain ⟨ys, y, hys⟩ : ∃ ys y, closeG gs now = ys ++ [y] := by
    rcases List.eq_nil_or_concat (closeG gs now) with h | ⟨ys, y, h⟩
    · exfalso
      unfold closeG at h
      split at h
      · rename_i hn; exact hne ⟨h, hn⟩
      · simp at h
    · exact ⟨ys, y, by simpa using h⟩
  have hUG : undoG gs now = ys := by unfold undoG; rw [hys]; simp
  have hUO : undoOut gs now = invs y := by unfold undoOut; rw [hys]; simp
  rw [hys] at hU1
  have HUG := hid hUG
  have HUO := hid hUO
  have ho1' : Only (fun b => S b ∨ b = g) w w1 := ho1.ofDrewN
  have hw1 := ho1'.size
  have hgl := hU0.lt
  clear hys hUG hUO ho1 c4 c0 c1 hU0 hsI hngI hnnI hwr
  obtain ⟨k0, Ag, ng, cg, An, nn, cn, Sg, Sn, hB, hG, hE, hS, q1, q2, q3, q4, q5, q6⟩ := hU1
  obtain rfl : nn = 0 := by have := hE.len; simpa using this.symm
  have hng : ng = ys.length + 1 := by have := hG.len; simp at this; omega
  subst hng
  obtain ⟨k, hk⟩ : ∃ k, ys.length = k := ⟨_, rfl⟩
  rw [hk] at hG hB hS q2
  obtain ⟨gb, a, m, d, rfl, ck, hR⟩ := OwnG.at_ hG (k := k) (by omega)
  have hGp := hG.pre (m := k) (by omega)
  have hyk : (ys ++ [y])[k]?.getD [] = y := by rw [List.getElem?_append_right (by omega)]; simp [hk]
  have hyt : (ys ++ [y]).take k = ys := by rw [← hk]; simp
  rw [hyk] at hR
  rw [hyt] at hGp
  have hml := hR.len
  have htl := tot_last ys y
  have hm : m ≤ 16384 := by omega
  obtain ⟨t, ht⟩ : ∃ t, t = tot ys [] := ⟨_, rfl⟩
  rw [htl, ← ht, hml] at hB
  rw [htl, ← ht, hml] at q3
  have b0 : w1.cell? ⟨g, 0, none⟩ = some (.slice (some ⟨gb, 0, none⟩) (k + 1) cg) := hB.cell 0
  have b3 : w1.cell? ⟨g, 3, none⟩ = some (.int .i64 ((t + m : Nat) : Int)) := hB.cell 3
  have f0 := hB.frozen 0
  have f3 := hB.frozen 3
  have hcap := hG.2.choose_spec.1.2
  have hkc : k + 1 ≤ cg := by
    rcases hcap with ⟨hv, h⟩ | ⟨_, _, _, hv, _, _, h, _⟩
    · omega
    · injection hv with _ _ hc; omega
  have hkI : (k : Int) ≤ 16384 := by
    have := tot_groups (gs := ys ++ [y]) (now := []) q4
    rw [htl, ← ht, hml] at this
    simp at this; omega
  have hkC : (k : Int) ≤ (cg : Int) := by omega
  have htI : (t : Int) ≤ 16384 := by omega
  have hmI : (m : Int) ≤ 16384 := by omega
  have hgb : gb ≠ g := fun e => k0 (hS g (.inr (.inr (.inl (by rw [e]; rfl)))))
  have HB := hid hB
  have HK := hid hk
  have HT := hid ht
  have HTL := hid htl
  have HML := hid hml
  have HYK := hid hyk
  have HE := hid hE
  clear hB hk ht htl hml hyk hyt hcap hE
  go_wp2_with fail
  obtain ⟨w2, hw2⟩ : ∃ w2, w2 = (w1.setCell ⟨g, 0, none⟩ (.slice (some ⟨gb, 0, none⟩) k cg)).setCell ⟨g, 3, none⟩ (.int .i64 (t : Int)) := ⟨_, rfl⟩
  rw [← hw2]
  have ho2 : Only (fun b => b = g) w1 w2 := by rw [hw2]; exact ((Only.refl _ w1).set 0 _).set 3 _
  have hB2 : Blk w2 g 102 #[.slice (some ⟨gb, 0, none⟩) k cg, .slice An 0 cn, .int .i64 0, .int .i64 (t : Int), .bool true] := by
    rw [hw2]; simpa using (HB.out.set_ 0 (.slice (some ⟨gb, 0, none⟩) k cg)).set_ 3 (.int .i64 (t : Int))
  have hSg : ∀ b, Sg b → b ≠ g := fun b hb e => k0 (e ▸ hS b (.inl hb))
  have hR2 := RdK'.only hR ho2 fun b hb _ e => hSg b hb e
  have hG2 := hGp.only ho2 (fun b hb e => hSg b hb e) (fun b hb e => by simp [Value.ownBlock] at hb; omega)
  have hy5 : ∀ e ∈ y, e.fit := fun e he => q5 y (by simp) e he
  refine (inverses_any a m d y Sg w2 hR2 hm hy5).mono ?_
  rintro e w3 ⟨A3, n3, c3, rfl, hR3, hp3⟩
  clear hw2 b0 b3 f0 f3 ck
  go_wp2
  go_ret2
  have hs2 := ho2.size
  have ho3 : Only (fun b => S b ∨ b = g) w w3 := (ho1'.trans (ho2.mono fun _ _ e => .inr e)).trans (Only.of_pure hp3)
  refine ⟨A3, n3, c3, rfl, by rw [HUO.out]; exact RdK'.mono hR3 fun b _ hb => by omega, ?_, ho3⟩
  rw [HUG.out]
  refine ⟨k0, some ⟨gb, 0, none⟩, k, cg, An, 0, cn, Sg, Sn, ?_, hG2.pure_ hp3, ?_, ?_, ?_, ?_, ?_, ?_, ?_, ?_⟩
  · rw [← HT.out]; exact hB2.pure_ hp3
  · exact (HE.out.only ho2 (fun b hb e => k0 (e ▸ hS b (.inr (.inl hb)))) (fun b hb e => k0 (e ▸ hS b (.inr (.inr (.inr hb)))))).pure_ hp3
  · rintro b (hb | hb | hb | hb)
    · exact hS b (.inl hb)
    · exact hS b (.inr (.inl hb))
    · exact hS b (.inr (.inr (.inl hb)))
    · exact hS b (.inr (.inr (.inr hb)))
  · intro b hb; exact q1 b hb
  · intro b hb; exact q2 b hb
  · rw [← HT.out]; omega
  · intro x hx; exact q4 x (by simp [hx])
  · intro x hx; exact q5 x (by simp [hx])
  · simp

end Go.Proofs.Ytinlpmgchcbjpaa
