/- The law UndoNone, walked. -/
import Derived.Test.YtinlpmgchcbjpaaU22
namespace Go.Proofs.Ytinlpmgchcbjpaa
open Go Go.RowKit
set_option maxHeartbeats 1000000
set_option maxRecDepth 100000
attribute [local go_sem] Oper.semAt_some

theorem none_iter (n : Nat) (Bn : Nat) (I : Nat → World → Prop) (hI : ∀ i W, I i W → Blk W Bn 75 #[.slice none 0 0]) :
    Iter n Try.prog 81 #[.pointer (some ⟨Bn, 0, none⟩)] 0 (fun _ _ _ => False) I := by
  intro l J Jx W hJI hJp hY h0
  have hB := hI _ _ (hJI _ _ h0)
  have hb0 : W.cell? ⟨Bn, 0, none⟩ = some (.slice none 0 0) := hB.cell 0
  clear hB
  refine callsIn_of_wp Try.func81 rfl trivial ?_ rfl
  simp only [Try.ntmps81, List.size_toArray, List.length_cons, List.length_nil, Nat.reduceAdd, Nat.reduceSub, Array.replicate_succ, Array.replicate_zero, List.push_toArray, List.append_toArray, List.nil_append, List.cons_append]
  gi_wp2
  gi_loopw [7] (fun i wr => i = .int .i64 0 ∧ J 0 wr) (fun _ _ => 0)
  case atStart => exact ⟨rfl, h0⟩
  case round =>
    obtain ⟨rfl, hJ⟩ := hrel
    gi_wp2
    go_end0
    exact ⟨⟨_, rfl⟩, .inl hJ⟩

def NoneHead (w : World) (at0 : Int) (A : Option Addr) (n c : Nat) (A' : Option Addr) (n' c' : Nat) (q : Nat) (a' : Act) (W : World) : Prop :=
  ∃ (i : Nat) (Ds : List Nat) (u4 u5 u6 u14 u15 u16 u17 u18 u19 u20 u21 u22 u23 u24 u25 u26 u27 u28 u29 u30 u31 u32 u33 u34 u35 u36 u37 u38 u39 u40 u41 u42 u43 u44 u45 u46 u47 u48 u49 u50 u51 u52 u53 u54 u55 u56 u57 u58 u59 u60 u61 u62 u63 u64 u65 u66 u67 u68 u69 u70 u71 u72 : Value), i ≤ 2 ∧ Blk W w.heap.size 60 #[.int .i64 at0, .slice A n c, .slice A' n' c'] ∧ Blk W (w.heap.size + 1) 4 #[.bool false] ∧ Blk W q 102 #[.slice none 0 0, .slice none 0 0, .int .i64 0, .int .i64 0, .bool false] ∧
    Blk W (q + 1) 72 #[.pointer none, .pointer (some ⟨q, 0, none⟩)] ∧ Marks w.heap.size W Ds ∧ Pure w W ∧
    a' = { tmps := #[.agg #[.int .i64 at0, .slice A n c, .slice A' n' c'], .pointer (some ⟨w.heap.size, 0, none⟩), .pointer (some ⟨w.heap.size + 1, 0, none⟩), undef, u4, u5, u6, .bool true, .bool false, .agg #[.slice none 0 0, .slice none 0 0, .int .i64 0, .int .i64 0, .bool false], .pointer (some ⟨q, 0, none⟩), .slice (some ⟨q + 1, 0, none⟩) 2 2, .int .i64 2, .int .i64 (i : Int), u14, u15, u16, u17, u18, u19, u20, u21, u22, u23, u24, u25, u26, u27, u28, u29, u30, u31, u32, u33, u34, u35, u36, u37, u38, u39, u40, u41, u42, u43, u44, u45, u46, u47, u48, u49, u50, u51, u52, u53, u54, u55, u56, u57, u58, u59, u60, u61, u62, u63, u64, u65, u66, u67, u68, u69, u70, u71, u72], defers := marks Ds }

set_option maxHeartbeats 4000000 in
theorem none_law (ed : Ed) (A : Option Addr) (n c : Nat) (A' : Option Addr) (n' c' : Nat) (w : World) :
    Calls Try.prog 14 #[.agg #[.int .i64 ed.at_, .slice A n c, .slice A' n' c']] w fun e w' => e = .returned (.bool true) ∧ Pure w w' := by
  obtain ⟨at0, hat⟩ : ∃ at0, at0 = ed.at_ := ⟨_, rfl⟩
  rw [← hat]
  clear hat
  have hp1 : Pure w ((w.alloc (.cells #[.int .i64 at0, .slice A n c, .slice A' n' c'] 60)).alloc (.cells #[.bool false] 4)) := ((Only.refl _ w).alloc _).alloc _
  have hb1 : Blk ((w.alloc (.cells #[.int .i64 at0, .slice A n c, .slice A' n' c'] 60)).alloc (.cells #[.bool false] 4)) w.heap.size 60 #[.int .i64 at0, .slice A n c, .slice A' n' c'] := (Blk.new w _ _).alloc _
  have hr1 : Blk ((w.alloc (.cells #[.int .i64 at0, .slice A n c, .slice A' n' c'] 60)).alloc (.cells #[.bool false] 4)) (w.heap.size + 1) 4 #[.bool false] := by
    have := Blk.new (w.alloc (.cells #[.int .i64 at0, .slice A n c, .slice A' n' c'] 60)) 4 #[.bool false]; rwa [World.size_alloc] at this
  refine calls_of_wp_marks Try.func14 rfl ?_
  simp only [Try.ntmps14, List.size_toArray, List.length_cons, List.length_nil, Nat.reduceAdd, Nat.reduceSub, Array.replicate_succ, Array.replicate_zero, List.push_toArray, List.append_toArray, List.nil_append, List.cons_append]
  go_wp2_with fail
  refine (begun_any _).mono ?_
  rintro e w2 ⟨rfl, hp2⟩
  have hb2 := hb1.pure_ hp2
  have hr2 := hr1.pure_ hp2
  have hp02 := hp1.trans hp2
  clear hb1 hr1 hp1 hp2
  go_wp2_with fail
  obtain ⟨q, hq⟩ : ∃ q, q = w2.heap.size := ⟨_, rfl⟩
  obtain ⟨w3, hw3⟩ : ∃ w3, w3 = (w2.alloc (.cells #[.slice none 0 0, .slice none 0 0, .int .i64 0, .int .i64 0, .bool false] 102)).alloc (.cells #[.pointer none, .pointer (some ⟨w2.heap.size, 0, none⟩)] 72) := ⟨_, rfl⟩
  rw [← hw3]
  have hp23 : Pure w2 w3 := by rw [hw3]; exact ((Only.refl _ w2).alloc _).alloc _
  have hz3 : Blk w3 w2.heap.size 102 #[.slice none 0 0, .slice none 0 0, .int .i64 0, .int .i64 0, .bool false] := by rw [hw3]; exact (Blk.new w2 _ _).alloc _
  have hl3 : Blk w3 (w2.heap.size + 1) 72 #[.pointer none, .pointer (some ⟨w2.heap.size, 0, none⟩)] := by
    rw [hw3]; have := Blk.new (w2.alloc (.cells #[.slice none 0 0, .slice none 0 0, .int .i64 0, .int .i64 0, .bool false] 102)) 72 #[.pointer none, .pointer (some ⟨w2.heap.size, 0, none⟩)]; rwa [World.size_alloc] at this
  clear hw3
  rw [← hq] at hz3 hl3 ⊢
  refine wp_loop (fun a' W => NoneHead w at0 A n c A' n' c' q a' W) (fun a' _ => 2 - (intOf (a'.tmps.getD 13 undef)).toNat) ⟨0, [], _, _, _, _, _, _, _, _, _, _, _, _, _, _, _, _, _, _, _, _, _, _, _, _, _, _, _, _, _, _, _, _, _, _, _, _, _, _, _, _, _, _, _, _, _, _, _, _, _, _, _, _, _, _, _, _, _, _, _, _, _, _, Nat.zero_le _, hb2.pure_ hp23, hr2.pure_ hp23, hz3, hl3, Marks.nil _ _, hp02.trans hp23, rfl⟩ ?_
  clear hb2 hr2 hz3 hl3 hp02 hp23 hq
  rintro a' W ⟨i, Ds, u4, u5, u6, u14, u15, u16, u17, u18, u19, u20, u21, u22, u23, u24, u25, u26, u27, u28, u29, u30, u31, u32, u33, u34, u35, u36, u37, u38, u39, u40, u41, u42, u43, u44, u45, u46, u47, u48, u49, u50, u51, u52, u53, u54, u55, u56, u57, u58, u59, u60, u61, u62, u63, u64, u65, u66, u67, u68, u69, u70, u71, u72, hi, hb, hr, hz, hl, hM, hp, rfl⟩
  by_cases hlt : i < 2
  · have hiI : (i : Int) < 2 := by omega
    obtain ⟨p, hc, hN⟩ : ∃ p, W.cell? ⟨q + 1, i, none⟩ = some (.pointer p) ∧ NoneU p W := by
      obtain rfl | rfl : i = 0 ∨ i = 1 := by omega
      · exact ⟨none, hl.cell 0, .inl rfl⟩
      · exact ⟨_, hl.cell 1, .inr ⟨q, rfl, hz.cell 4, hz.lt⟩⟩
    have e0 : W.cell? ⟨w.heap.size, 0, none⟩ = some (.int .i64 at0) := hb.cell 0
    have e1 : W.cell? ⟨w.heap.size, 1, none⟩ = some (.slice A n c) := hb.cell 1
    have e2 : W.cell? ⟨w.heap.size, 2, none⟩ = some (.slice A' n' c') := hb.cell 2
    go_wp2_with (first
      | (go_at_call 54; refine (no_undo p W hN).mono ?_; rintro e w' ⟨rfl, rfl⟩)
      | (go_at_call 60; refine (no_clear p W hN).mono ?_; rintro e w' ⟨rfl, rfl⟩)
      | (go_at_call 47; refine (no_begin p W hN).mono ?_; rintro e w' ⟨rfl, rfl⟩)
      | (go_at_call 50; refine (no_end p W hN).mono ?_; rintro e w' ⟨rfl, rfl⟩)
      | (go_at_call 42; refine (no_add p _ W hN).mono ?_; rintro e W2 ⟨rfl, hp2⟩; have hN2 := hN.pure_ hp2)
      | (go_at_call 53; refine (no_revert p W2 hN2).mono ?_; rintro e w' ⟨rfl, rfl⟩)
      | (go_at_call 48; refine (no_len p W2 hN2).mono ?_; rintro e w' ⟨rfl, rfl⟩)
      | (go_at_call 49; refine (no_edits p W2 hN2).mono ?_; rintro e w' ⟨rfl, rfl⟩)
      | (go_at_call 64; refine (no_open p W2 hN2).mono ?_; rintro e w' ⟨rfl, rfl⟩)
      | (go_at_call 51; refine (no_clone p W2 hN2).mono ?_; rintro e w' ⟨rfl, rfl⟩)
      | (go_at_call 44; refine (no_groups p W2 hN2).mono ?_; rintro e W3 ⟨Bn, rfl, hg3, hBn, hp23⟩))
    have hp3 := hp2.trans hp23
    have hwl := hr.lt
    have hs3 := hp3.size
    have h03 : Blk W3 w.heap.size 60 #[.int .i64 at0, .slice A n c, .slice A' n' c'] ∧ Blk W3 (w.heap.size + 1) 4 #[.bool false] ∧ Blk W3 q 102 #[.slice none 0 0, .slice none 0 0, .int .i64 0, .int .i64 0, .bool false] ∧
        Blk W3 (q + 1) 72 #[.pointer none, .pointer (some ⟨q, 0, none⟩)] ∧ Marks w.heap.size W3 Ds ∧ Pure w W3 ∧ Blk W3 Bn 75 #[.slice none 0 0] := ⟨hb.pure_ hp3, hr.pure_ hp3, hz.pure_ hp3, hl.pure_ hp3, hM.keeps (keeps_pure hp3), hp.trans hp3, hg3⟩
    have hDlt : ∀ D ∈ Ds, D < W3.heap.size := h03.2.2.2.2.1.lt
    clear hb hr hz hl hM hp hp3 hg3 e0 e1 e2 hN hN2 hp2 hp23 hc
    refine wp_range 3 (gf := 81) (lb := #[.pointer (some ⟨Bn, 0, none⟩)]) rfl (enters_of Try.func81 (by kernel_rfl) rfl) 0 (fun _ _ _ => False)
      (fun _ X => Blk X w.heap.size 60 #[.int .i64 at0, .slice A n c, .slice A' n' c'] ∧ Blk X (w.heap.size + 1) 4 #[.bool false] ∧ Blk X q 102 #[.slice none 0 0, .slice none 0 0, .int .i64 0, .int .i64 0, .bool false] ∧
        Blk X (q + 1) 72 #[.pointer none, .pointer (some ⟨q, 0, none⟩)] ∧ Marks w.heap.size X Ds ∧ Pure w X ∧ Blk X Bn 75 #[.slice none 0 0])
      (fun _ _ => False)
      ?hI ?hIx ?hG ?hps (none_iter 3 Bn _ ?hit) h03 ?round ?done ?stop
    case hI => exact fun _ X Y h kb => ⟨h.1.keptB kb, h.2.1.keptB kb, h.2.2.1.keptB kb, h.2.2.2.1.keptB kb, h.2.2.2.2.1.low kb hDlt, h.2.2.2.2.2.1.keptB kb (by omega), h.2.2.2.2.2.2.keptB kb⟩
    case hIx => exact fun _ _ _ h _ => h
    case hG => exact fun _ _ _ _ h _ => h
    case hps => exact fun _ _ _ h => h.elim
    case hit => exact fun _ X h => h.2.2.2.2.2.2
    case round => exact fun _ _ _ _ _ h => absurd h (by omega)
    case done =>
      intro D X hD hC hk
      simp only [Exit.inBlock, Exit.then]
      obtain ⟨t1, t2, t3, t4, t5, t6, _⟩ := hC
      have hM2 := t5.cons hDlt hD (by omega) hk
      go_wp2
      refine ⟨⟨i + 1, D :: Ds, _, _, _, _, _, _, _, _, _, _, _, _, _, _, _, _, _, _, _, _, _, _, _, _, _, _, _, _, _, _, _, _, _, _, _, _, _, _, _, _, _, _, _, _, _, _, _, _, _, _, _, _, _, _, _, _, _, _, _, _, _, _, by omega, t1, t2, t3, t4, hM2, t6, rfl⟩, ?_⟩
      simp [intOf]
      omega
    case stop => exact fun D c' X _ h _ => h.elim
  · have hi2 : i = 2 := by omega
    subst hi2
    have c3 : W.cell? ⟨w.heap.size + 1, 0, none⟩ = some (.bool false) := hr.cell 0
    have f3 : W.frozen? ⟨w.heap.size + 1, 0, none⟩ = false := hr.frozen 0
    have hO : Only (fun x => x = w.heap.size + 1) W (W.setCell ⟨w.heap.size + 1, 0, none⟩ (.bool true)) := (Only.refl _ W).set 0 _
    clear hlt hi hb hz hl
    go_wp2
    refine leave_marks (B := w.heap.size) Ds _ (hM.keeps (keeps_only hO fun x e _ => ⟨#[.bool false], 4, (0, 0), e ▸ hr⟩)) fun W' hk => ?_
    have c9 : W'.cell? ⟨w.heap.size + 1, 0, none⟩ = some (.bool true) := hk.cell ((hr.set_ 0 (.bool true)).cell 0)
    refine ⟨.bool true, ?_, rfl, ?_⟩
    · exact results_bool rfl _ _ _ _ rfl c9
    · exact (hp.then_ hO fun i hi e => by omega).keptB hk (Nat.le_refl _)

end Go.Proofs.Ytinlpmgchcbjpaa
