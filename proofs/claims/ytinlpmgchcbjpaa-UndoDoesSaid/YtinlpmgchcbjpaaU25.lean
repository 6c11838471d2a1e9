/- The list of edits: Clone. -/
import Derived.Test.YtinlpmgchcbjpaaU24
namespace Go.Proofs.Ytinlpmgchcbjpaa
open Go Go.RowKit
set_option maxHeartbeats 1000000
set_option maxRecDepth 100000
attribute [local go_sem ↓] Go.wp_at_zero Go.wp_at_succ

/-- A list that is a copy: the box p, all of it new. -/
def CloneDid (w : World) (gs : List (List Ed)) (now : List Ed) (op : Int) (e : Ending) (w' : World) : Prop :=
  ∃ p, e = .returned (.pointer (some ⟨p, 0, none⟩)) ∧ w.heap.size ≤ p ∧ UL w' (fun b => w.heap.size ≤ b ∧ b ≠ p) p gs now op ∧ Pure w w'

/-- While Clone gathers: the box, the open group, the first k groups. -/
def Cloning (w : World) (p : Nat) (gs : List (List Ed)) (now : List Ed) (op : Int) (t k : Nat) (X : World) : Prop :=
  ∃ A c Se An nn cn Sn, Blk X p 102 #[.slice A k c, .slice An nn cn, .int .i64 op, .int .i64 (t : Int), .bool true] ∧ OwnG 0 X A k c (gs.take k) Se ∧ OwnE 0 X An nn cn now Sn ∧
    (∀ b, Se b ∨ Sn b ∨ (Value.slice A k c).ownBlock = some b ∨ (Value.slice An nn cn).ownBlock = some b → w.heap.size ≤ b ∧ b ≠ p) ∧
    (∀ b, (Value.slice An nn cn).ownBlock = some b → ¬ Se b) ∧ (∀ b, (Value.slice A k c).ownBlock = some b → ¬ Sn b) ∧ Pure w X

set_option maxHeartbeats 4000000 in
theorem uclone_any (g : Nat) (S : Nat → Prop) (gs : List (List Ed)) (now : List Ed) (op : Int) (w : World) (hU : UL w S g gs now op) :
    Calls Try.prog 51 #[.pointer (some ⟨g, 0, none⟩)] w (CloneDid w gs now op) := by
  have hgw := hU.lt
  have c4 := hU.c4
  obtain ⟨h0, Ag, N, cg, An0, nn0, cn0, Sg, Sn0, hB, hG, hE, hS, q1, q2, q3, q4, q5, q6⟩ := hU.tight
  have hle := tot_groups (now := now) q4
  have hlg := hG.len
  have hln := hE.len
  have hN : N ≤ 16384 := by omega
  have hnn : nn0 ≤ 16384 := by omega
  have hGr : RdG w (fun b => b < w.heap.size) Ag N cg gs := RdK'.mono hG.rd fun b hb _ => hb
  have hEr : RdE w (fun b => b < w.heap.size) An0 nn0 cn0 now := RdK'.mono hE.rd fun b hb _ => hb
  have e0 : w.cell? ⟨g, 0, none⟩ = some (.slice Ag N cg) := hB.cell 0
  have e1 : w.cell? ⟨g, 1, none⟩ = some (.slice An0 nn0 cn0) := hB.cell 1
  have e2 : w.cell? ⟨g, 2, none⟩ = some (.int .i64 op) := hB.cell 2
  obtain ⟨t, ht⟩ : ∃ t, t = tot gs now := ⟨_, rfl⟩
  rw [← ht] at hB
  have e3 : w.cell? ⟨g, 3, none⟩ = some (.int .i64 (t : Int)) := hB.cell 3
  have hNI : (N : Int) ≤ 16384 := by omega
  have hfg : ∀ x ∈ gs, x.length ≤ 16384 ∧ ∀ e ∈ x, e.fit := fun x hx => ⟨by
    have h9 : x.length ≤ (gs.map List.length).sum := len_le_sum hx
    unfold tot at q3; omega, q5 x hx⟩
  have HLG := hid hlg
  have HT := hid ht
  have HQ3 := hid q3
  clear hG hE hS q1 q2 q3 h0 hU hle hlg hln hB ht
  go_enter Try.func51, Try.ntmps51
  go_wp2_with (go_at_call 78; refine (unone_made g w c4).mono ?_; rintro e w' ⟨rfl, rfl⟩)
  obtain ⟨W1, hW1⟩ : ∃ W1, W1 = w.alloc (.cells #[.slice Ag N cg, .slice An0 nn0 cn0, .int .i64 op, .int .i64 (t : Int), .bool true] 102) := ⟨_, rfl⟩
  rw [← hW1]
  have hp1 : Pure w W1 := by rw [hW1]; exact (Only.refl _ w).alloc _
  have hb1 : Blk W1 w.heap.size 102 #[.slice Ag N cg, .slice An0 nn0 cn0, .int .i64 op, .int .i64 (t : Int), .bool true] := by rw [hW1]; exact Blk.new _ _ _
  have hs1 : W1.heap.size = w.heap.size + 1 := by rw [hW1]; simp
  clear hW1
  refine (copied_any An0 nn0 cn0 now _ W1 (RdK'.pure_ hEr hp1) hnn q6).mono ?_
  rintro e W2 ⟨An, nn, cn, Sn, rfl, hR2, hSn, hp2⟩
  have hb2 := hb1.pure_ hp2
  have b0 : W2.cell? ⟨w.heap.size, 0, none⟩ = some (.slice Ag N cg) := hb2.cell 0
  have b1 : W2.cell? ⟨w.heap.size, 1, none⟩ = some (.slice An0 nn0 cn0) := hb2.cell 1
  have f0 := hb2.frozen 0
  have f1 := hb2.frozen 1
  have hgp : ¬ g = w.heap.size := by omega
  have hpg : ¬ w.heap.size = g := by omega
  have hp12 := hp1.trans hp2
  have g0 : W2.cell? ⟨g, 0, none⟩ = some (.slice Ag N cg) := (hp12.cell (p := ⟨g, 0, none⟩) hgw (fun x => x)).trans e0
  clear e0 e1 e2 e3 c4
  go_wp2
  obtain ⟨W3, hW3⟩ : ∃ W3, W3 = (W2.setCell ⟨w.heap.size, 0, none⟩ (.slice none 0 0)).setCell ⟨w.heap.size, 1, none⟩ (.slice An nn cn) := ⟨_, rfl⟩
  rw [← hW3]
  have ho3 : Only (fun b => b = w.heap.size) W2 W3 := by rw [hW3]; exact ((Only.refl _ W2).set 0 _).set 1 _
  have hb3 : Blk W3 w.heap.size 102 #[.slice none 0 0, .slice An nn cn, .int .i64 op, .int .i64 (t : Int), .bool true] := by
    rw [hW3]; simpa using (hb2.set_ 0 (.slice none 0 0)).set_ 1 (.slice An nn cn)
  clear hW3 b0 b1 f0 f1 g0
  have hp3 : Pure w W3 := hp12.then_ ho3 fun i hi e => by omega
  have hlowN : ∀ b, Sn b ∨ (Value.slice An nn cn).ownBlock = some b → w.heap.size ≤ b ∧ b ≠ w.heap.size := by
    rintro b (hb | hb)
    · have := hSn b hb; omega
    · have := (hR2.2.choose_spec.1.lt b hb).1; omega
  have hC0 : Cloning w w.heap.size gs now op t 0 W3 := by
    refine ⟨none, 0, fun _ => False, An, nn, cn, Sn, hb3, OwnK.nil _ _, OwnK.low (hR2.ed.only ho3 (fun b hb e => (hlowN b (.inl hb)).2 e) (fun b hb e => (hlowN b (.inr hb)).2 e)) (Nat.zero_le _), ?_, fun _ _ h => h, ?_, hp3⟩
    · rintro b (hb | hb | hb | hb)
      · exact hb.elim
      · exact hlowN b (.inl hb)
      · simp [Value.ownBlock] at hb
      · exact hlowN b (.inr hb)
    · intro b hb; simp [Value.ownBlock] at hb
  clear hb3 hb2 hb1 ho3 hp3 hR2 hSn hlowN hEr hp1 hp2 hp12 hs1
  go_loopw [27] (fun i wr => ∃ k : Nat, k ≤ N ∧ i = .int .i64 k ∧ Cloning w w.heap.size gs now op t k wr) (fun i _ => N - (intOf i).toNat)
  case atStart => exact ⟨0, Nat.zero_le _, rfl, hC0⟩
  case round =>
    clear hC0
    obtain ⟨k, hk, rfl, A, c, Se, An, nn, cn, Sn, hB, hO, hE, hlow, r1, r2, hpw⟩ := hrel
    by_cases hlt : k < N
    · obtain ⟨gx, ox, a, m, d, rfl, _, _, hc, hx⟩ := RdG.at_ (RdK'.pure_ hGr hpw) hlt
      have hkI : (k : Int) < N := by omega
      have ht := take_ed gs [] k (by rw [HLG.out]; exact hlt)
      have hmem := hfg (gs[k]?.getD []) (by rw [List.getElem?_eq_getElem (by rw [HLG.out]; exact hlt)]; exact List.getElem_mem _)
      obtain ⟨x, hxe⟩ : ∃ x, x = gs[k]?.getD [] := ⟨_, rfl⟩
      rw [← hxe] at ht hx hmem
      have hm : m ≤ 16384 := by have h9 : x.length = m := hx.1; omega
      have HTK := hid ht
      clear hxe ht
      obtain ⟨hl2, vs, hown, hes, hd1, hd2⟩ := hO
      have HL2 := hid hl2
      have b0 : wr.cell? ⟨w.heap.size, 0, none⟩ = some (.slice A k c) := hB.cell 0
      have hnb : ¬ (Value.slice A k c).ownBlock = some w.heap.size := fun e => (hlow w.heap.size (.inr (.inr (.inl e)))).2 rfl
      have hBl := hB.lt
      have hAl : ∀ b, (Value.slice A k c).ownBlock = some b → b < wr.heap.size := fun b hb => (hown.lt b hb).2
      clear hl2
      go_wp2
      go_region_law (first
        | ((refine stepG (.tmp 33) (.tmp 36) (by rfl) (by rfl) 0 (.slice A k c) k vs (by go_simp) (own_only hown (h3.trans ((Only.refl (fun _ => False) w3).alloc _)) fun _ _ x => x) _ (some ⟨w3.heap.size, 0, none⟩) 1 1 [.slice A3 n3 c3] (by go_simp) (Rd.one w3 _ _) (by simp [Value.oneCell']) (by unfold maxLen; omega) (by omega) (Nat.zero_le _) ?_; intro A5 c5 w5 ho5 hp5 hat5; have hq5 : Only (fun b => (Value.slice A k c).ownBlock = some b) wr w5 := (Only.of_pure (h3.trans ((Only.refl (fun _ => False) w3).alloc _))).then_ hp5 fun i _ e => e; have hB5 := hB.only hq5 hnb; have b5 : w5.cell? ⟨w.heap.size, 0, none⟩ = some (.slice A k c) := hB5.cell 0; have j5 := hB5.frozen 0))
        | (go_simp; go_at_call 79; refine (copied_any a m d x _ wr.drew (RdK'.pure_ hx (Only.refl _ _).drew) hm hmem.2).mono ?_; rintro e w3 ⟨A3, n3, c3, Se3, rfl, hR3, hSe3, h3'⟩; have h3 := h3'.ofDrew; have b3 : w3.cell? ⟨w.heap.size, 0, none⟩ = some (.slice A k c) := (hB.pure_ h3).cell 0; have hb3l := Nat.lt_of_lt_of_le hBl h3.size))
      all_goals
        have hSx : ∀ b, (Se3 b ∨ (Value.slice A3 n3 c3).ownBlock = some b) → wr.heap.size ≤ b ∧ b < w3.heap.size := by
          rintro b (hb | hb)
          · exact ⟨hSe3 b hb, hR3.2.choose_spec.2.2.2 b hb⟩
          · exact hR3.2.choose_spec.1.lt b hb
        have hst := OwnK.step (K := grKind) (z := []) HL2.out hown hes hd1 hd2 h3 (x := x) (Sx := fun b => Se3 b ∨ (Value.slice A3 n3 c3).ownBlock = some b) ⟨A3, n3, c3, rfl, hR3.ed.rd⟩ rfl (fun b hb => ⟨(hSx b hb).2, fun e => by have := hAl b e; have := (hSx b hb).1; omega⟩) ((Only.refl (fun _ => False) _).alloc _) ho5 hp5 hat5
        rw [← HTK.out] at hst
        have ho : Only (fun b => b = w.heap.size) w5 (w5.setCell ⟨w.heap.size, 0, none⟩ (.slice A5 (k + 1) c5)) := (Only.refl _ w5).set 0 _
        have hws := hpw.size
        have hBn : Blk (w5.setCell ⟨w.heap.size, 0, none⟩ (.slice A5 (k + 1) c5)) w.heap.size 102 #[.slice A5 (k + 1) c5, .slice An nn cn, .int .i64 op, .int .i64 (t : Int), .bool true] := by simpa using hB5.set_ 0 (.slice A5 (k + 1) c5)
        have hSA : ∀ b, (Value.slice A5 (k + 1) c5).ownBlock = some b → (Value.slice A k c).ownBlock = some b ∨ w3.heap.size ≤ b := by
          intro b hb
          rcases hat5 with h | h
          · rw [h] at hb; exact .inl hb
          · rw [h] at hb; injection hb with hb; simp at hb; exact .inr (by omega)
        have hEl := hE.lt
        have hSnl : ∀ b, Sn b → b < wr.heap.size := hE.2.choose_spec.2.2.2
        have hC1 : Cloning w w.heap.size gs now op t (k + 1) (w5.setCell ⟨w.heap.size, 0, none⟩ (.slice A5 (k + 1) c5)) := by
          refine ⟨A5, c5, _, An, nn, cn, Sn, hBn, hst.only ho (fun b hb e => ?_) (fun b hb e => ?_), (hE.only hq5 (fun b hb e => r2 b e hb) (fun b hb e => own_types hE.2.choose_spec.1 hown (by decide) b hb e)).only ho (fun b hb e => (hlow b (.inr (.inl hb))).2 e) (fun b hb e => (hlow b (.inr (.inr (.inr hb)))).2 e), ?_, ?_, ?_, (hpw.then_ hq5 fun i hi e => by have := (hlow i (.inr (.inr (.inl e)))).1; omega).then_ ho fun i hi e => by omega⟩
          · rcases hb with hb | hb
            · exact (hlow b (.inl hb)).2 e
            · have := (hSx b hb).1; omega
          · rcases hSA b hb with h | h
            · exact hnb (e ▸ h)
            · omega
          · rintro b ((hb | hb) | hb | hb | hb)
            · exact hlow b (.inl hb)
            · have := (hSx b hb).1; omega
            · exact hlow b (.inr (.inl hb))
            · rcases hSA b hb with h | h
              · exact hlow b (.inr (.inr (.inl h)))
              · have := h3.size; omega
            · exact hlow b (.inr (.inr (.inr hb)))
          · intro b hb h
            rcases h with h | h
            · exact r1 b hb h
            · have := (hSx b h).1; have := hEl b hb; omega
          · intro b hb h
            rcases hSA b hb with h2 | h2
            · exact r2 b h2 h
            · have := hSnl b h; have := h3.size; omega
        clear hst ho5 hp5 hat5 hown hes hB5 b3 b5 j5 hq5 hBn hSA hR3 hSx hx
        go_wp2
        go_roundw
        case rel => exact ⟨k + 1, by omega, by go_num, hC1⟩
        case measure => simp [intOf]; omega
    · obtain rfl : k = N := by omega
      rw [List.take_of_length_le (by rw [HLG.out]; exact Nat.le_refl _)] at hO
      go_wp2
      go_ret
      refine ⟨w.heap.size, rfl, Nat.le_refl _, ⟨fun h => h.2 rfl, A, k, c, An, nn, cn, Se, Sn, by rw [← HT.out]; exact hB, hO, hE, hlow, r1, r2, HQ3.out, q4, q5, q6⟩, hpw⟩

end Go.Proofs.Ytinlpmgchcbjpaa
