/- The reference list: Undo. -/
import Derived.Test.YtinlpmgchcbjpaaU30
import Derived.Test.YtinlpmgchcbjpaaU26
namespace Go.Proofs.Ytinlpmgchcbjpaa
open Go Go.RowKit
set_option maxHeartbeats 2000000
set_option maxRecDepth 100000

theorem halt3 {p : Prop} (h : True → p) : p := h trivial

theorem invs_len' (es : List Ed) : (invs es).length = es.length := by unfold invs; simp

/-- What the reference's Undo answers where there is something to undo. -/
def RUndoDid (w : World) (S : Nat → Prop) (g : Nat) (gs : List (List Ed)) (now : List Ed) (r : Ending) (w' : World) : Prop :=
  ∃ A n c B, r = .returned (.tuple #[.slice A n c, .int .i64 0]) ∧ w.heap.size ≤ B ∧ RdE w' (fun b => B ≤ b) A n c (undoOut gs now) ∧ RL w' (fun b => Plus S w.heap.size b ∧ b < B) g (undoG gs now) [] 0 ∧ Only (fun b => S b ∨ b = g) w w'

theorem rundo_bell (g : Nat) (S : Nat → Prop) (op : Int) (w : World) (hU : RL w S g [] [] op) :
    Calls Try.prog 57 #[.pointer (some ⟨g, 0, none⟩)] w (RLDid w S g [] [] op (.tuple #[.slice none 0 0, .int .i64 6])) := by
  go_enter Try.func57, Try.ntmps57
  go_wp2_with (go_at_call 62; refine (rlen_any g S [] [] op w hU).mono ?_; rintro e w' ⟨rfl, rfl⟩)
  go_ret2
  exact RLDid.same hU (Only.refl _ _)

theorem invs_cons' (e : Ed) (es : List Ed) : invs (e :: es) = invs es ++ [e.inv] := by unfold invs; simp

theorem invs_drop (y : List Ed) {j : Nat} (hj : j < y.length) : invs (y.drop j) = invs (y.drop (j + 1)) ++ [(y[j]?.getD Ed.none).inv] := by
  rw [List.getElem?_eq_getElem hj, List.drop_eq_getElem_cons hj, invs_cons']; rfl

set_option maxHeartbeats 4000000 in
theorem rundo_some (g : Nat) (S : Nat → Prop) (gs : List (List Ed)) (now : List Ed) (op : Int) (w : World) (hU : RL w S g gs now op) (hne : ¬ (gs = [] ∧ now = [])) :
    Calls Try.prog 57 #[.pointer (some ⟨g, 0, none⟩)] w (RUndoDid w S g gs now) := by
  have hU0 := hU
  have hgl := hU0.lt
  have hsI : (((gs.length + min 1 now.length : Nat) : Int) == 0) = false := by
    rw [beq_eq_false_iff_ne]; intro h
    have h1 : gs.length + min 1 now.length = 0 := by omega
    exact hne ⟨List.eq_nil_of_length_eq_zero (by omega), List.eq_nil_of_length_eq_zero (by omega)⟩
  obtain ⟨L0, hL0⟩ : ∃ L0, L0 = gs.length + min 1 now.length := ⟨_, rfl⟩
  rw [← hL0] at hsI
  have HL0 := hid hL0
  clear hL0 hU
  go_enter Try.func57, Try.ntmps57
  go_wp2_with (first
    | (go_at_call 62; refine (rlen_any g S gs now op w hU0).mono ?_; rintro e w' ⟨rfl, rfl⟩; rw [← HL0.out])
    | (go_at_call 84; refine (rclose_any g S gs now op w hU0).mono ?_; rintro e w1 ⟨rfl, hU1, ho1⟩))
  obtain ⟨ys, y, hys⟩ : ∃ ys y, closeG gs now = ys ++ [y] := by
    rcases List.eq_nil_or_concat (closeG gs now) with h | ⟨ys, y, h⟩
    · exfalso
      unfold closeG at h
      split at h
      · rename_i hn; exact hne ⟨h, hn⟩
      · simp at h
    · exact ⟨ys, y, by simpa using h⟩
  have hUG : undoG gs now = ys := by unfold undoG; rw [hys]; simp
  have hUO : undoOut gs now = invs y := by unfold undoOut; rw [hys]; simp
  rw [hys] at hU1
  have HUG := hid hUG
  have HUO := hid hUO
  have hw1 := ho1.size
  clear hys hUG hUO hU0 hsI hne
  obtain ⟨k0, Ag, ng, cg, An, nn, cn, Sg, Sn, hB, hG, hE, hS, q1, q2, q3, q4, q5, q6⟩ := hU1.tight
  obtain rfl : nn = 0 := by have := hE.len; simpa using this.symm
  have hng : ng = ys.length + 1 := by have := hG.len; simp at this; omega
  subst hng
  obtain ⟨k, hk⟩ : ∃ k, ys.length = k := ⟨_, rfl⟩
  rw [hk] at hG hB hS q2
  obtain ⟨gb, a, m, d, rfl, ck, hR⟩ := OwnG.at_ hG (k := k) (by omega)
  have hGp := hG.pre (m := k) (by omega)
  have hyk : (ys ++ [y])[k]?.getD [] = y := by rw [List.getElem?_append_right (by omega)]; simp [hk]
  have hyt : (ys ++ [y]).take k = ys := by rw [← hk]; simp
  rw [hyk] at hR
  rw [hyt] at hGp
  have hml : y.length = m := hR.1
  have htl := tot_last ys y
  have hm : m ≤ 16384 := by omega
  have hkl : k + y.length ≤ 16384 := by
    have := tot_groups (gs := ys) (now := []) (fun x hx => q4 x (by simp [hx]))
    simp at this; omega
  have b0 : w1.cell? ⟨g, 0, none⟩ = some (.slice (some ⟨gb, 0, none⟩) (k + 1) cg) := hB.cell 0
  have f0 := hB.frozen 0
  have hcap := hG.2.choose_spec.1.2
  have hkc : k + 1 ≤ cg := by
    rcases hcap with ⟨hv, h⟩ | ⟨_, _, _, hv, _, _, h, _⟩
    · omega
    · injection hv with _ _ hc; omega
  have hkI : (k : Int) ≤ 16384 := by omega
  have hkC : (k : Int) ≤ (cg : Int) := by omega
  have hmI : (m : Int) ≤ 16384 := by omega
  have hgb : gb ≠ g := fun e => k0 (hS g (.inr (.inr (.inl (by rw [e]; rfl)))))
  have hgbl : gb < w1.heap.size := hG.lt gb rfl
  have hgl1 := hB.lt
  have HB := hid hB
  have HML := hid hml
  have HE := hid hE
  have HTL := hid htl
  have HK := hid hk
  clear hB hk htl hml hyk hyt hcap hE hkl
  go_quiet (fail)
  go_wp2

  go_region
  all_goals
    obtain ⟨w2, hw2⟩ : ∃ w2, w2 = (w1.drewN (nq + 1)).setCell ⟨g, 0, none⟩ (.slice (some ⟨gb, 0, none⟩) k cg) := ⟨_, rfl⟩
    rw [← hw2]
    have ho2 : Only (fun b => b = g) w1 w2 := by rw [hw2]; exact ((Only.refl _ w1).drewN _).set 0 _
    have hB2 : Blk w2 g 77 #[.slice (some ⟨gb, 0, none⟩) k cg, .int .i64 0, .slice An 0 cn] := by
      rw [hw2]; simpa using (HB.out.drewN _).set_ 0 (.slice (some ⟨gb, 0, none⟩) k cg)
    have hSg : ∀ b, Sg b → b ≠ g := fun b hb e => k0 (e ▸ hS b (.inl hb))
    have hR2 := RdK'.only hR ho2 fun b hb _ e => hSg b hb e
    have hG2 := hGp.only ho2 (fun b hb e => hSg b hb e) (fun b hb e => by simp [Value.ownBlock] at hb; omega)
    have hy5 : ∀ e ∈ y, e.fit := fun e he => q5 y (by simp) e he
    have hs2 := ho2.size
    clear hw2 b0 f0 ck hR hGp hG
    go_wp2
    go_loopw [5, 6] (fun v i wr => ∃ (z n2 : Nat) (A2 : Option Addr) (c2 : Nat) (Se : Nat → Prop), z ≤ m ∧ i = .int .i64 ((z : Int) - 1) ∧ v = .slice A2 n2 c2 ∧ OwnE w2.heap.size wr A2 n2 c2 (invs (y.drop z)) Se ∧ (∀ b, Se b → w2.heap.size ≤ b) ∧ Pure w2 wr) (fun _ i _ => (intOf i + 1).toNat)
    case atStart => exact ⟨m, 0, none, 0, fun _ => False, Nat.le_refl _, by go_num, rfl, by rw [← HML.out, List.drop_length]; exact OwnK.nil _ _, fun _ h => h.elim, Only.refl _ _⟩
    case round =>
      obtain ⟨z, n2, A2, c2, Se, hz, rfl, rfl, hO, hSe, hp⟩ := hrel
      have hn2 : n2 ≤ 16384 := by
        have h1 := hO.len
        rw [invs_len', List.length_drop] at h1
        have h2 := HML.out
        omega
      cases z with
      | zero =>
        have hz1 : ((0 : Nat) : Int) - 1 = -1 := rfl
        rw [hz1]
        rw [List.drop_zero] at hO
        go_wp2
        go_ret2
        have hs3 := hp.size
        refine ⟨A2, n2, c2, w1.heap.size, rfl, hw1, ?_, ?_, (ho1.trans (ho2.mono fun _ _ e => .inr e)).trans (Only.of_pure hp)⟩
        · rw [HUO.out]
          exact RdK'.mono hO.rd fun b _ hb => by
            rcases hb with hb | hb
            · have := hSe b hb; omega
            · have := (hO.2.choose_spec.1.lt b hb).1; omega
        rw [HUG.out]
        refine ⟨k0, some ⟨gb, 0, none⟩, k, cg, An, 0, cn, Sg, Sn, hB2.pure_ hp, hG2.pure_ hp, ?_, ?_, ?_, ?_, ?_, ?_, ?_, ?_⟩
        · exact (HE.out.only ho2 (fun b hb e => k0 (e ▸ hS b (.inr (.inl hb)))) (fun b hb e => k0 (e ▸ hS b (.inr (.inr (.inr hb)))))).pure_ hp
        · rintro b (hb | hb | hb | hb)
          · exact hS b (.inl hb)
          · exact hS b (.inr (.inl hb))
          · exact hS b (.inr (.inr (.inl hb)))
          · exact hS b (.inr (.inr (.inr hb)))
        · intro b hb; exact q1 b hb
        · intro b hb; exact q2 b hb
        · have := HTL.out; omega
        · intro x hx; exact q4 x (by simp [hx])
        · intro x hx; exact q5 x (by simp [hx])
        · simp
      | succ j =>
        have hj1 : ((j + 1 : Nat) : Int) - 1 = (j : Int) := by omega
        rw [hj1]
        have hjI : (0 : Int) ≤ (j : Int) := by omega
        have hjm : j < m := by omega
        have hjm' : (j : Int) < (m : Int) := by omega
        obtain ⟨gx, ox, a1, m1, d1, a2, m2, d2, rfl, hgx, _, hc0, hc1, hc2, hx, hy⟩ := RdE.at_ (RdK'.pure_ hR2 hp) hjm
        have hdr := invs_drop y (j := j) (by rw [HML.out]; exact hjm)
        have hfj : (y[j]?.getD Ed.none).fit := by
          rw [List.getElem?_eq_getElem (by rw [HML.out]; exact hjm)]; exact hy5 _ (List.getElem_mem _)
        obtain ⟨ej, hej⟩ : ∃ v, v = y[j]?.getD Ed.none := ⟨_, rfl⟩
        rw [← hej] at hc0 hx hy hfj hdr
        have s1 : small m1 := by rw [← hx.len]; exact hfj.1
        have s2 : small m2 := by rw [← hy.len]; exact hfj.2
        obtain ⟨hl, vs, hown, hes, hd1, hd2⟩ := hO
        have HL := hid hl
        have HDR := hid hdr
        have hsw := hp.size
        have hAl : ∀ b, (Value.slice A2 n2 c2).ownBlock = some b → w2.heap.size ≤ b ∧ b < wr.heap.size := fun b hb => hown.lt b hb
        clear hj1 hl hdr hej hfj
        go_wp2_with (first
          | (go_at_call 38; refine (rinv_edit ej.at_ a1 m1 d1 ej.del a2 m2 d2 ej.ins _ _ wr hx hy s1 s2).mono ?_; rintro e w3 ⟨A3, n3, c3, A4, n4, c4, rfl, hR3, hR4, hp3⟩; have hs3 := hp3.size)
          | (at_builtin; refine halt3 ?_))
        intro _
        refine appendE (.tmp 45) (.tmp 51) rfl rfl w2.heap.size (.slice A2 n2 c2) n2 vs rfl (own_only hown (hp3.trans ((Only.refl (fun _ => False) w3).alloc _)) fun _ _ x => x) _ (some ⟨w3.heap.size, 0, none⟩) 1 1 [.int .i64 ej.at_, .slice A3 n3 c3, .slice A4 n4 c4] (by rfl) (Rd.row w3 60 #[.int .i64 ej.at_, .slice A3 n3 c3, .slice A4 n4 c4]) (by simp [Value.oneCell']) (by unfold maxLen; omega) (by omega) (by simp; omega) ?_
        intro A5 c5 w5 ho5 hp5 hat5
        have hR3t := RdI.mono hR3 (S' := fun b => wr.heap.size ≤ b ∧ b < w3.heap.size) fun b hb h => ⟨h, hb⟩
        have hR4t := RdI.mono hR4 (S' := fun b => wr.heap.size ≤ b ∧ b < w3.heap.size) fun b hb h => ⟨h, hb⟩
        have hst := OwnK.step (K := edKind) (z := Ed.none) (Se := Se) HL.out hown hes hd1 hd2 hp3 (x := ej.inv) (Sx := fun b => wr.heap.size ≤ b ∧ b < w3.heap.size) ⟨A3, n3, c3, A4, n4, c4, rfl, hR3t, hR4t⟩ rfl (fun b hb => ⟨by omega, fun e => by have := hAl b e; omega⟩) ((Only.refl (fun _ => False) _).alloc _) ho5 hp5 hat5
        rw [← HDR.out] at hst
        have hp5' : Pure w2 w5 := (hp.trans (hp3.trans ((Only.refl (fun _ => False) w3).alloc _))).then_ hp5 fun i hi e => by have := (hAl i e).1; omega
        clear ho5 hp5 hat5 hown hes
        go_wp2
        go_roundw
        case rel => exact ⟨j, n2 + 1, A5, c5, _, by omega, by go_num, rfl, hst, fun b hb => by
          rcases hb with hb | hb
          · exact hSe b hb
          · omega, hp5'⟩
        case measure => simp [intOf] <;> omega

end Go.Proofs.Ytinlpmgchcbjpaa
