/- The law's own first look at a list of edits: 'begun'. -/
import Derived.Test.YtinlpmgchcbjpaaU15
import Derived.Laws.IdiomStrings
namespace Go.Proofs.Ytinlpmgchcbjpaa
open Go Go.RowKit
set_option maxHeartbeats 1000000
set_option maxRecDepth 100000

theorem runesA : Conv.runesFrom ⟨#[97]⟩ (ByteArray.mk #[97]).size 0 #[] = #[.int .i32 97] := by kernel_rfl
theorem runesB : Conv.runesFrom ⟨#[98]⟩ (ByteArray.mk #[98]).size 0 #[] = #[.int .i32 98] := by kernel_rfl

theorem rd_padded (w : World) (x : Int) (c n : Nat) (hc : c ≤ maxLen) (h1 : 1 ≤ c) : RdI (w.drew.alloc (.cells (#[.int .i32 x] ++ Array.replicate n (.int .i32 0)) 21)) (fun b => w.heap.size ≤ b) (some ⟨w.heap.size, 0, none⟩) 1 c [x] := by
  have hb : Blk (w.drew.alloc (.cells (#[.int .i32 x] ++ Array.replicate n (.int .i32 0)) 21)) w.heap.size 21 (#[.int .i32 x] ++ Array.replicate n (.int .i32 0)) := Blk.new w.drew _ _
  refine ⟨rfl, h1, hc, fun _ => ⟨w.heap.size, 0, rfl, Nat.le_refl _, by simp, fun j u hj => ?_⟩⟩
  rw [hb.cell, Nat.zero_add]
  match j, hj with
  | 0, hj => rw [Array.getElem?_append_left (by simp)]; simpa using hj
  | j + 1, hj => simp at hj

theorem runesOf_a (w : World) : Calls Try.prog 76 #[.string ⟨#[97]⟩] w (OutI w [97]) := by
  have h := run_runes_of_string (P := Try.prog) w 9 22 21 ⟨#[97]⟩ Try.underlying9 Try.underlying22 Try.underlying21 (by rw [runesA]; decide)
  rw [runesA] at h
  have hge := grownCap_ge w 1 0 21
  have hle := grownCap_le_maxLen w 1 0 21 (by unfold maxLen; omega)
  obtain ⟨c, hc⟩ : ∃ c, c = grownCap w 1 0 21 := ⟨_, rfl⟩
  have hs : (#[Value.int .i32 97] : Array Value).size = 1 := rfl
  rw [hs, ← hc] at h
  rw [← hc] at hge hle
  clear hc hs
  go_enter Try.func76, Try.ntmps76
  go_wp2
  go_ret
  exact ⟨_, _, _, rfl, rd_padded w 97 c _ hle hge, ((Only.refl _ w).drew).alloc _⟩

theorem runesOf_b (w : World) : Calls Try.prog 76 #[.string ⟨#[98]⟩] w (OutI w [98]) := by
  have h := run_runes_of_string (P := Try.prog) w 9 22 21 ⟨#[98]⟩ Try.underlying9 Try.underlying22 Try.underlying21 (by rw [runesB]; decide)
  rw [runesB] at h
  have hge := grownCap_ge w 1 0 21
  have hle := grownCap_le_maxLen w 1 0 21 (by unfold maxLen; omega)
  obtain ⟨c, hc⟩ : ∃ c, c = grownCap w 1 0 21 := ⟨_, rfl⟩
  have hs : (#[Value.int .i32 98] : Array Value).size = 1 := rfl
  rw [hs, ← hc] at h
  rw [← hc] at hge hle
  clear hc hs
  go_enter Try.func76, Try.ntmps76
  go_wp2
  go_ret
  exact ⟨_, _, _, rfl, rd_padded w 98 c _ hle hge, ((Only.refl _ w).drew).alloc _⟩

theorem convert_a (w : World) (S : Nat → Prop) (A : Option Addr) (n c : Nat) (hr : RdI w S A n c [97]) : (convert 22 9 (.slice A n c)).run Try.prog w = .ok (.string ⟨#[97]⟩) w := by
  have hl := hr.len
  simp at hl
  subst hl
  obtain ⟨g, off, u, rfl, _, _, h0, c0⟩ := Rd.at_ hr (k := 0) (by omega)
  simp at h0
  subst h0
  have := run_convert_runes (P := Try.prog) w 22 9 21 ⟨g, off, none⟩ 1 c [97] (by simp) Try.underlying22 Try.underlying21 Try.underlying9 (by
    intro j hj
    match j, hj with
    | 0, _ => rw [addr_add]; exact c0)
  rw [this]
  rfl

theorem AddDid.ok {w : World} {S : Nat → Prop} {g : Nat} {gs : List (List Ed)} {now : List Ed} {op : Int} {e : Ed} {r : Ending} {w' : World} (h : AddDid w S g gs now op e r w') (hc : addCode e (tot gs now) = 0) : ULDid w S g (addG gs op e) (addN now op e) op (.int .i64 0) r w' := by
  unfold AddDid at h; rwa [if_pos hc] at h

theorem begun_any (w : World) : Calls Try.prog 34 #[] w fun e w' => e = .returned (.bool true) ∧ Pure w w' := by
  have hap : appCode [98] ⟨0, [], [97]⟩ = 0 := by decide
  have hao : appOut [98] ⟨0, [], [97]⟩ = [97, 98] := by decide
  have hac : addCode ⟨0, [], [97]⟩ (tot [] []) = 0 := by decide
  have hag : addG [] 0 ⟨0, [], [97]⟩ = [[⟨0, [], [97]⟩]] := rfl
  have han : addN [] 0 ⟨0, [], [97]⟩ = [] := rfl
  have huo : undoOut [[⟨0, [], [97]⟩]] [] = [⟨0, [97], []⟩] := rfl
  have HAP := hid hap
  have HAO := hid hao
  have HAC := hid hac
  have HAG := hid hag
  have HAN := hid han
  have HUO := hid huo
  clear hap hao hac hag han huo
  go_enter Try.func34, Try.ntmps34
  go_wp2_with (first
    | (go_at_call 40; refine (unew_any w).mono ?_; rintro e w1 h; obtain ⟨g, rfl, hg0, hU1, ho1⟩ := h)
    | (go_at_call 76; refine (runesOf_a w1).mono ?_; rintro e w2 ⟨A, n, c, rfl, hR2, hp2⟩))
  have hlen1 : n = 1 := by have := hR2.len; simpa using this.symm
  subst hlen1
  obtain ⟨w3, hw3⟩ : ∃ w3, w3 = w2.alloc (.cells #[.int .i64 0, .slice none 0 0, .slice A 1 c] 60) := ⟨_, rfl⟩
  rw [← hw3]
  have hp3 : Pure w2 w3 := by rw [hw3]; exact (Only.refl _ w2).alloc _
  have hb3 : Blk w3 w2.heap.size 60 #[.int .i64 0, .slice none 0 0, .slice A 1 c] := by rw [hw3]; exact Blk.new _ _ _
  clear hw3
  have d0 : w3.cell? ⟨w2.heap.size, 0, none⟩ = some (.int .i64 0) := hb3.cell 0
  have d1 : w3.cell? ⟨w2.heap.size, 1, none⟩ = some (.slice none 0 0) := hb3.cell 1
  have d2 : w3.cell? ⟨w2.heap.size, 2, none⟩ = some (.slice A 1 c) := hb3.cell 2
  have hR3 := hR2.pure_ hp3
  have hU3 := (hU1.pure_ hp2).pure_ hp3
  have ho3 := (ho1.trans hp2).trans hp3
  have hs1 : small 1 := by unfold small; omega
  have hs0 : small 0 := by unfold small; omega
  have hgl := hU1.lt
  go_region_law (first
    | (go_simp; go_at_call 30; refine (apply_any A4 n4 c4 [98] _ 0 none 0 0 [] (fun _ => False) A 1 c [97] _ w4 hR4 (RdI.nil _ _ _ _ (Nat.zero_le _)) (hR3.pure_ hp4.ofDrew) (by have := hR4.len; simp at this; rw [← this]; exact hs1) hs0 hs1).mono ?_; rintro e w5 ⟨A5, n5, c5, rfl, hR5, hp5⟩; rw [HAP.out]; rw [HAO.out] at hR5; have hb5 := (hb3.pure_ hp4.ofDrew).pure_ hp5; have f0 : w5.cell? ⟨w2.heap.size, 0, none⟩ = some (.int .i64 0) := hb5.cell 0; have f1 : w5.cell? ⟨w2.heap.size, 1, none⟩ = some (.slice none 0 0) := hb5.cell 1; have f2 : w5.cell? ⟨w2.heap.size, 2, none⟩ = some (.slice A 1 c) := hb5.cell 2)
    | (go_simp; go_at_call 76; refine (runesOf_b w3.drew).mono ?_; rintro e w4 ⟨A4, n4, c4, rfl, hR4, hp4⟩; have hb4 := hb3.pure_ hp4.ofDrew; have e0 : w4.cell? ⟨w2.heap.size, 0, none⟩ = some (.int .i64 0) := hb4.cell 0; have e1 : w4.cell? ⟨w2.heap.size, 1, none⟩ = some (.slice none 0 0) := hb4.cell 1; have e2 : w4.cell? ⟨w2.heap.size, 2, none⟩ = some (.slice A 1 c) := hb4.cell 2))
  all_goals
    have hcv := convert_ab w5 _ A5 n5 c5 hR5
    have hp35 := hp4.ofDrew.trans hp5
    have hU5 := hU3.pure_ hp35
    have hR5' := hR3.pure_ hp35
    clear hR3 hU3 hb4 hb5 d0 d1 d2 e0 e1 e2 hb3 hR4 hU1
    go_wp2_with fail
    refine (uadd_any g _ [] [] 0 0 none 0 0 [] A 1 c [97] (fun _ => False) _ w5 hU5 (RdI.nil _ _ _ _ (Nat.zero_le _)) hR5' hs0 hs1 (fun x => x) (fun h => by have h9 : w1.heap.size ≤ g := h; omega)).mono ?_
    rintro e w6 h
    obtain ⟨rfl, hU6, ho6⟩ := h.ok HAC.out
    rw [HAG.out, HAN.out] at hU6
    clear h hcv
    go_wp2_with fail
    refine (ulen_any g _ _ _ _ w6 hU6).mono ?_
    rintro e w7 ⟨rfl, q7, rfl⟩
    have hU7 := hU6.pure_ ((Only.refl _ w6).drewN q7)
    simp only [List.length_cons, List.length_nil, Nat.reduceAdd, Nat.min_zero, Nat.add_zero]
    go_wp2_with fail
    refine (uundo_some g _ _ _ _ _ hU7 (by simp)).mono ?_
    rintro e w8 ⟨A8, n8, c8, rfl, hR8, hU8, ho8⟩
    rw [HUO.out] at hR8
    obtain rfl : n8 = 1 := by have := RdK'.len hR8; simpa using this.symm
    obtain ⟨gb, off, a, m, d, a', m', d', rfl, _, _, k0, k1, k2, hx, _⟩ := RdE.at_ hR8 (k := 0) (by omega)
    simp only [Nat.zero_mul, Nat.add_zero, List.getElem?_cons_zero, Option.getD_some] at k1 hx
    have hcv := convert_a w8 _ a m d hx
    go_wp2
    go_ret
    refine ⟨rfl, ((ho3.trans hp35).then_ ho6 fun i hi e => ?_).then_ (ho8.ofDrewN) fun i hi e => ?_⟩
    · rcases e with e | e
      · exact e
      · omega
    · have h9 := (ho3.trans hp35).size
      rcases e with (e | e) | e
      · exact e
      · omega
      · omega

end Go.Proofs.Ytinlpmgchcbjpaa
