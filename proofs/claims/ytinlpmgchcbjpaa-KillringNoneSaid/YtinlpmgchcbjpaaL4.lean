/- The law KillringNone, walked: a ring that no call made. -/
import Derived.Test.YtinlpmgchcbjpaaK8
namespace Go.Proofs.Ytinlpmgchcbjpaa
open Go Go.RowKit
set_option maxHeartbeats 1000000
set_option maxRecDepth 100000

/-- No ring: nil, or one that no call made. -/
def NoR (w : World) (v : Value) : Prop := v = .pointer none ∨ ∃ g, v = .pointer (some ⟨g, 0, none⟩) ∧ w.cell? ⟨g, 0, none⟩ = some (.bool false)
theorem NoR.pure_ {w w' : World} {v : Value} (h : NoR w v) (hp : Pure w w') : NoR w' v := by
  rcases h with h | ⟨g, h, hc⟩
  · exact .inl h
  · exact .inr ⟨g, h, (hp.cell (p := ⟨g, 0, none⟩) (World.block_lt_of_cell? w _ hc) (fun x => x)).trans hc⟩
theorem nor_none (v : Value) (w : World) (h : NoR w v) : Calls Try.prog 66 #[v] w fun e w' => e = .returned (.bool true) ∧ w = w' := by
  rcases h with rfl | ⟨g, rfl, hc⟩
  · exact none_nil w
  · exact none_zero g w hc
theorem nor_len (v : Value) (w : World) (h : NoR w v) : Calls Try.prog 20 #[v] w fun e w' => e = .returned (.int .i64 0) ∧ w = w' := by
  go_enter Try.func20, Try.ntmps20
  go_wp2_with (go_at_call 66; refine (nor_none v w h).mono ?_; rintro e w' ⟨rfl, rfl⟩)
  go_ret
  exact ⟨rfl, rfl⟩
theorem nor_rot (v : Value) (n : Int) (w : World) (h : NoR w v) : Calls Try.prog 21 #[v, .int .i64 n] w fun e w' => e = .returned (.tuple #[.slice none 0 0, .int .i64 2]) ∧ w = w' := by
  go_enter Try.func21, Try.ntmps21
  go_wp2_with (go_at_call 66; refine (nor_none v w h).mono ?_; rintro e w' ⟨rfl, rfl⟩)
  go_ret2
  exact ⟨rfl, rfl⟩
theorem nor_yank (v : Value) (w : World) (h : NoR w v) : Calls Try.prog 18 #[v] w fun e w' => e = .returned (.tuple #[.slice none 0 0, .int .i64 2]) ∧ w = w' := by
  go_enter Try.func18, Try.ntmps18
  go_wp2_with (go_at_call 21; refine (nor_rot v 0 w h).mono ?_; rintro e w' ⟨rfl, rfl⟩)
  go_ret2
  exact ⟨rfl, rfl⟩
theorem nor_kill (v way l : Value) (w : World) (h : NoR w v) : Calls Try.prog 17 #[v, way, l] w fun e w' => e = .returned (.int .i64 2) ∧ w = w' := by
  go_enter Try.func17, Try.ntmps17
  go_wp2_with (go_at_call 66; refine (nor_none v w h).mono ?_; rintro e w' ⟨rfl, rfl⟩)
  go_ret
  exact ⟨rfl, rfl⟩
theorem nor_clone (v : Value) (w : World) (h : NoR w v) : Calls Try.prog 22 #[v] w fun e w' => e = .returned (.pointer none) ∧ w = w' := by
  go_enter Try.func22, Try.ntmps22
  go_wp2_with (go_at_call 66; refine (nor_none v w h).mono ?_; rintro e w' ⟨rfl, rfl⟩)
  go_ret
  exact ⟨rfl, rfl⟩
theorem nor_all (v : Value) (w : World) (h : NoR w v) : Calls Try.prog 23 #[v] w (AllDid w (fun _ => False) []) := by
  have h1 : NoR (w.alloc (.cells #[.slice none 0 0] 23)) v := h.pure_ ((Only.refl _ w).alloc _)
  go_enter Try.func23, Try.ntmps23
  go_wp2_with (go_at_call 20; refine (nor_len v _ h1).mono ?_; rintro e w' ⟨rfl, rfl⟩)
  refine wp_loop (fun a' W => W = w.alloc (.cells #[.slice none 0 0] 23) ∧ a'.tmps = #[v, undef, .nilFunc, .pointer (some ⟨w.heap.size, 0, none⟩), undef, v, .int .i64 0, .int .i64 0] ++ Array.replicate 10 undef ∧ a'.defers = []) (fun _ _ => 0) ⟨rfl, rfl, rfl⟩ ?_
  rintro ⟨t', d'⟩ W ⟨rfl, ht, hd⟩
  simp only at ht hd
  subst ht hd
  simp only [Array.replicate_succ, Array.replicate_zero, List.push_toArray, List.append_toArray, List.nil_append, List.cons_append]
  go_wp2
  go_ret
  exact ⟨w.heap.size, none, 0, rfl, Nat.le_refl _, Blk.new _ _ _, ⟨rfl, [], Rd.nil _ _ _ _ _ (Nat.zero_le _), fun k hk => absurd hk (by simp)⟩, (Only.refl _ w).alloc _⟩

/-- What stands while the law goes on. -/
def NoneSt (w : World) (kd wy tx : Value) (nn : Int) (sp : Value) (z : Nat) (W : World) : Prop :=
  Blk W w.heap.size 35 #[kd, wy, tx, .int .i64 nn, sp] ∧ (∃ r, Blk W (w.heap.size + 1) 4 #[.bool r]) ∧ (∃ cs, Blk W z 38 cs ∧ cs[0]? = some (.bool false)) ∧ Blk W (z + 1) 24 #[.pointer none, .pointer (some ⟨z, 0, none⟩)] ∧ Pure w W
theorem NoneSt.keptB {w W W' : World} {kd wy tx : Value} {nn : Int} {sp : Value} {z B : Nat} (h : NoneSt w kd wy tx nn sp z W) (k : KeptB B W W') (hB : w.heap.size ≤ B) : NoneSt w kd wy tx nn sp z W' := by
  obtain ⟨h1, ⟨r, h2⟩, ⟨cs, h3, h3'⟩, h4, h5⟩ := h
  exact ⟨h1.keptB k, ⟨r, h2.keptB k⟩, ⟨cs, h3.keptB k, h3'⟩, h4.keptB k, h5.keptB k hB⟩

def NoneHead (w : World) (kd wy tx : Value) (nn : Int) (sp : Value) (z : Nat) (a' : Act) (W : World) : Prop :=
  ∃ (i : Nat) (Ds : List Nat) (u4 u5 u6 u7 u8 u9 u10 u11 u16 u17 u18 u19 u20 u21 u22 u23 u24 u25 u26 u27 u28 u29 u30 u31 u32 u33 u34 u35 u36 u37 u38 u39 u40 u41 u42 u43 u44 u45 u46 u47 u48 u49 u50 u51 u52 u53 u54 u55 u56 u57 u58 u59 u60 u61 u62 u63 u64 u65 u66 u67 u68 : Value), i ≤ 2 ∧ NoneSt w kd wy tx nn sp z W ∧ Marks w.heap.size W Ds ∧
    a' = { tmps := #[.agg #[kd, wy, tx, .int .i64 nn, sp], .pointer (some ⟨w.heap.size, 0, none⟩), .pointer (some ⟨w.heap.size + 1, 0, none⟩), undef, u4, u5, u6, u7, u8, u9, u10, u11, .pointer (some ⟨z, 0, none⟩), .slice (some ⟨z + 1, 0, none⟩) 2 2, .int .i64 2, .int .i64 (i : Int), u16, u17, u18, u19, u20, u21, u22, u23, u24, u25, u26, u27, u28, u29, u30, u31, u32, u33, u34, u35, u36, u37, u38, u39, u40, u41, u42, u43, u44, u45, u46, u47, u48, u49, u50, u51, u52, u53, u54, u55, u56, u57, u58, u59, u60, u61, u62, u63, u64, u65, u66, u67, u68], defers := marks Ds }

theorem none_next {w : World} {kd wy tx : Value} {nn : Int} {sp : Value} {z : Nat} {i : Nat} {Ds : List Nat} {X : World} {u4 u5 u6 u7 u8 u9 u10 u11 u16 u17 u18 u19 u20 u21 u22 u23 u24 u25 u26 u27 u28 u29 u30 u31 u32 u33 u34 u35 u36 u37 u38 u39 u40 u41 u42 u43 u44 u45 u46 u47 u48 u49 u50 u51 u52 u53 u54 u55 u56 u57 u58 u59 u60 u61 u62 u63 u64 u65 u66 u67 u68 : Value} (hi : i + 1 ≤ 2) (h1 : NoneSt w kd wy tx nn sp z X) (h2 : Marks w.heap.size X Ds) :
    NoneHead w kd wy tx nn sp z { tmps := #[.agg #[kd, wy, tx, .int .i64 nn, sp], .pointer (some ⟨w.heap.size, 0, none⟩), .pointer (some ⟨w.heap.size + 1, 0, none⟩), undef, u4, u5, u6, u7, u8, u9, u10, u11, .pointer (some ⟨z, 0, none⟩), .slice (some ⟨z + 1, 0, none⟩) 2 2, .int .i64 2, .int .i64 ((i : Int) + 1), u16, u17, u18, u19, u20, u21, u22, u23, u24, u25, u26, u27, u28, u29, u30, u31, u32, u33, u34, u35, u36, u37, u38, u39, u40, u41, u42, u43, u44, u45, u46, u47, u48, u49, u50, u51, u52, u53, u54, u55, u56, u57, u58, u59, u60, u61, u62, u63, u64, u65, u66, u67, u68], defers := marks Ds } X :=
  ⟨i + 1, Ds, u4, u5, u6, u7, u8, u9, u10, u11, u16, u17, u18, u19, u20, u21, u22, u23, u24, u25, u26, u27, u28, u29, u30, u31, u32, u33, u34, u35, u36, u37, u38, u39, u40, u41, u42, u43, u44, u45, u46, u47, u48, u49, u50, u51, u52, u53, u54, u55, u56, u57, u58, u59, u60, u61, u62, u63, u64, u65, u66, u67, u68, hi, h1, h2, by simp⟩

theorem klaw_none (kd wy tx : Value) (nn : Int) (sp : Value) (w : World) :
    Calls Try.prog 4 #[.agg #[kd, wy, tx, .int .i64 nn, sp]] w fun e w' => e = .returned (.bool true) ∧ Pure w w' := by
  have hp1 : Pure w ((w.alloc (.cells #[kd, wy, tx, .int .i64 nn, sp] 35)).alloc (.cells #[.bool false] 4)) := ((Only.refl _ w).alloc _).alloc _
  refine calls_of_wp_marks Try.func4 rfl ?_
  simp only [Try.ntmps4, List.size_toArray, List.length_cons, List.length_nil, Nat.reduceAdd, Nat.reduceSub, Array.replicate_succ, Array.replicate_zero, List.push_toArray, List.append_toArray, List.nil_append, List.cons_append]
  go_wp2_with (go_at_call 16; refine (live_any _).mono ?_; rintro e w2 ⟨rfl, hp2⟩)
  obtain ⟨w3, hw3⟩ : ∃ w3, w3 = (w2.alloc (.cells (#[.bool false] ++ Array.replicate 60 (.slice none 0 0) ++ #[.int .i64 0, .int .i64 0, .int .i64 0]) 38)).alloc (.cells #[.pointer none, .pointer (some ⟨w2.heap.size, 0, none⟩)] 24) := ⟨_, rfl⟩
  have hT : NoneSt w kd wy tx nn sp w2.heap.size w3 := by
    have b1 : Blk (w.alloc (.cells #[kd, wy, tx, .int .i64 nn, sp] 35)) w.heap.size 35 #[kd, wy, tx, .int .i64 nn, sp] := Blk.new _ _ _
    have b2 : Blk ((w.alloc (.cells #[kd, wy, tx, .int .i64 nn, sp] 35)).alloc (.cells #[.bool false] 4)) (w.heap.size + 1) 4 #[.bool false] := by have := Blk.new (w.alloc (.cells #[kd, wy, tx, .int .i64 nn, sp] 35)) 4 #[.bool false]; rwa [World.size_alloc] at this
    have b3 : Blk (w2.alloc (.cells (#[.bool false] ++ Array.replicate 60 (.slice none 0 0) ++ #[.int .i64 0, .int .i64 0, .int .i64 0]) 38)) w2.heap.size 38 (#[.bool false] ++ Array.replicate 60 (.slice none 0 0) ++ #[.int .i64 0, .int .i64 0, .int .i64 0]) := Blk.new _ _ _
    have b4 : Blk ((w2.alloc (.cells (#[.bool false] ++ Array.replicate 60 (.slice none 0 0) ++ #[.int .i64 0, .int .i64 0, .int .i64 0]) 38)).alloc (.cells #[.pointer none, .pointer (some ⟨w2.heap.size, 0, none⟩)] 24)) (w2.heap.size + 1) 24 #[.pointer none, .pointer (some ⟨w2.heap.size, 0, none⟩)] := by
      have := Blk.new (w2.alloc (.cells (#[.bool false] ++ Array.replicate 60 (.slice none 0 0) ++ #[.int .i64 0, .int .i64 0, .int .i64 0]) 38)) 24 #[.pointer none, .pointer (some ⟨w2.heap.size, 0, none⟩)]; rwa [World.size_alloc] at this
    rw [hw3]
    exact ⟨(((b1.alloc _).pure_ hp2).alloc _).alloc _, ⟨false, ((b2.pure_ hp2).alloc _).alloc _⟩, ⟨_, b3.alloc _, rfl⟩, b4, ((hp1.trans hp2).alloc _).alloc _⟩
  have HW3 := hid hw3
  clear hw3 hp1
  obtain ⟨z, hz⟩ : ∃ z, z = w2.heap.size := ⟨_, rfl⟩
  rw [← hz] at hT
  have HZ := hid hz
  clear hz
  refine wp_loop (fun a' W => NoneHead w kd wy tx nn sp z a' W) (fun a' _ => 2 - (intOf (a'.tmps.getD 15 undef)).toNat) ?start ?_
  case start =>
    have e1 := HW3.out
    have e2 := HZ.out
    subst e1 e2
    exact ⟨0, [], _, _, _, _, _, _, _, _, _, _, _, _, _, _, _, _, _, _, _, _, _, _, _, _, _, _, _, _, _, _, _, _, _, _, _, _, _, _, _, _, _, _, _, _, _, _, _, _, _, _, _, _, _, _, _, _, _, _, _, _, _, Nat.zero_le _, hT, Marks.nil _ _, rfl⟩
  clear hT
  rintro a' W ⟨i, Ds, u4, u5, u6, u7, u8, u9, u10, u11, u16, u17, u18, u19, u20, u21, u22, u23, u24, u25, u26, u27, u28, u29, u30, u31, u32, u33, u34, u35, u36, u37, u38, u39, u40, u41, u42, u43, u44, u45, u46, u47, u48, u49, u50, u51, u52, u53, u54, u55, u56, u57, u58, u59, u60, u61, u62, u63, u64, u65, u66, u67, u68, hi, hT, hM, rfl⟩
  have hT0 := hT
  obtain ⟨t1, ⟨r, t2⟩, ⟨cs, t3, t3'⟩, t4, t5⟩ := hT0
  have c1 : W.cell? ⟨w.heap.size, 1, none⟩ = some wy := t1.cell 1
  have c2 : W.cell? ⟨w.heap.size, 2, none⟩ = some tx := t1.cell 2
  have c3 : W.cell? ⟨w.heap.size, 3, none⟩ = some (.int .i64 nn) := t1.cell 3
  have cr : W.cell? ⟨w.heap.size + 1, 0, none⟩ = some (.bool r) := t2.cell 0
  have fr : W.frozen? ⟨w.heap.size + 1, 0, none⟩ = false := t2.frozen 0
  have d0 : W.cell? ⟨z + 1, 0, none⟩ = some (.pointer none) := t4.cell 0
  have d1 : W.cell? ⟨z + 1, 1, none⟩ = some (.pointer (some ⟨z, 0, none⟩)) := t4.cell 1
  have n0 : NoR W (.pointer none) := .inl rfl
  have n1 : NoR W (.pointer (some ⟨z, 0, none⟩)) := .inr ⟨z, rfl, (t3.cell 0).trans t3'⟩
  obtain ⟨m0, m1⟩ : (∃ v, W.cell? ⟨z + 1, 0, none⟩ = some v ∧ NoR W v) ∧ ∃ v, W.cell? ⟨z + 1, 1, none⟩ = some v ∧ NoR W v := ⟨⟨_, d0, n0⟩, _, d1, n1⟩
  clear n0 n1 d0 d1 t1 t3 t3' t4
  have hstep : ∀ (v : Value) (w4 : World) (Bn : Nat) (Aa : Option Addr) (ca : Nat), Blk w4 Bn 23 #[.slice Aa 0 ca] → RdL w4 (Plus (fun _ => False) W.heap.size) Aa 0 ca [] → Pure W w4 → NoneSt w kd wy tx nn sp z w4 ∧ Marks w.heap.size w4 Ds := fun v w4 Bn Aa ca _ _ hp => ⟨hT.keptB (KeptB.of_pure hp) (Nat.le_refl _), hM.keeps (keeps_pure hp)⟩
  by_cases h0 : i = 0
  · subst h0
    obtain ⟨v, d0, n0⟩ := m0
    clear m1
    go_wp2_with (first
      | (go_at_call 18; refine (nor_yank v W n0).mono ?_; rintro e w9 ⟨rfl, rfl⟩)
      | (go_at_call 21; refine (nor_rot v nn W n0).mono ?_; rintro e w9 ⟨rfl, rfl⟩)
      | (go_at_call 17; refine (nor_kill v wy tx W n0).mono ?_; rintro e w9 ⟨rfl, rfl⟩)
      | (go_at_call 20; refine (nor_len v W n0).mono ?_; rintro e w9 ⟨rfl, rfl⟩)
      | (go_at_call 22; refine (nor_clone v W n0).mono ?_; rintro e w9 ⟨rfl, rfl⟩)
      | (go_at_call 23; refine (nor_all v W n0).mono ?_; rintro e w4 ⟨Bn, Aa, ca, rfl, hBn, hBa, hLa, hpa⟩))
    obtain ⟨hT4, hM4⟩ := hstep v w4 Bn Aa ca hBa hLa hpa
    clear hT hM hstep c1 c2 c3 cr fr d0 n0 t2 t5
    refine wp_range 3 (gf := 71) (lb := #[.pointer (some ⟨Bn, 0, none⟩)]) rfl (enters_of Try.func71 (by kernel_rfl) rfl) 0 (Entry [] w4.heap.size)
      (fun _ W' => (Blk W' Bn 23 #[.slice Aa 0 ca] ∧ RdL W' (Plus (fun _ => False) W.heap.size) Aa 0 ca [] ∧ w4.heap.size ≤ W'.heap.size) ∧ NoneSt w kd wy tx nn sp z W' ∧ Marks w.heap.size W' Ds)
      (fun _ _ => False)
      ?hI0 ?hIx0 ?hG0 ?hps0 (all1_iter 3 Bn Aa 0 ca [] (Plus (fun _ => False) W.heap.size) w4.heap.size _ (by omega) (fun k => by simp [small]) ?hit0) ⟨⟨hBa, hLa, Nat.le_refl _⟩, hT4, hM4⟩ ?round0 ?done0 ?stop0
    case hI0 => exact fun k X Y h kb => ⟨⟨h.1.1.keptB kb, h.1.2.1.keptB kb, Nat.le_trans h.1.2.2 kb.size⟩, h.2.1.keptB kb (Nat.le_trans (by have := hT4.2.2.2.2.size; omega) (Nat.le_refl _)), h.2.2.low kb (fun D hD => hM4.lt D hD)⟩
    case hIx0 => exact fun c' X Y h kb => h
    case hG0 => exact fun k args X Y ⟨a, m, d, e, h⟩ kb => ⟨a, m, d, e, h.keptB kb⟩
    case hps0 => rintro k args X ⟨a, m, d, rfl, h⟩; rfl
    case hit0 => exact fun k X h => h.1
    case round0 => intro l k args X K hk; exact absurd hk (by omega)
    case done0 =>
      intro D X hD hC hk
      simp only [Exit.inBlock, Exit.then]
      have HF := hid (And.intro hC.2.1 (hC.2.2.cons (D := D) (fun D' hD' => hM4.lt D' hD') hD (by have := hT4.2.2.2.2.size; omega) hk))
      clear hC hk hD hT4 hM4 hBa hLa hpa
      go_wp2
      exact ⟨none_next (Ds := D :: Ds) (i := 0) (by omega) HF.out.1 HF.out.2, by simp [intOf]⟩
    case stop0 => exact fun D c' X _ h _ => h.elim

  · by_cases h1 : i = 1
    · subst h1
      obtain ⟨v, d0, n0⟩ := m1
      clear m0
      go_wp2_with (first
        | (go_at_call 18; refine (nor_yank v W n0).mono ?_; rintro e w9 ⟨rfl, rfl⟩)
        | (go_at_call 21; refine (nor_rot v nn W n0).mono ?_; rintro e w9 ⟨rfl, rfl⟩)
        | (go_at_call 17; refine (nor_kill v wy tx W n0).mono ?_; rintro e w9 ⟨rfl, rfl⟩)
        | (go_at_call 20; refine (nor_len v W n0).mono ?_; rintro e w9 ⟨rfl, rfl⟩)
        | (go_at_call 22; refine (nor_clone v W n0).mono ?_; rintro e w9 ⟨rfl, rfl⟩)
        | (go_at_call 23; refine (nor_all v W n0).mono ?_; rintro e w4 ⟨Bn, Aa, ca, rfl, hBn, hBa, hLa, hpa⟩))
      obtain ⟨hT4, hM4⟩ := hstep v w4 Bn Aa ca hBa hLa hpa
      clear hT hM hstep c1 c2 c3 cr fr d0 n0 t2 t5
      refine wp_range 3 (gf := 71) (lb := #[.pointer (some ⟨Bn, 0, none⟩)]) rfl (enters_of Try.func71 (by kernel_rfl) rfl) 0 (Entry [] w4.heap.size)
        (fun _ W' => (Blk W' Bn 23 #[.slice Aa 0 ca] ∧ RdL W' (Plus (fun _ => False) W.heap.size) Aa 0 ca [] ∧ w4.heap.size ≤ W'.heap.size) ∧ NoneSt w kd wy tx nn sp z W' ∧ Marks w.heap.size W' Ds)
        (fun _ _ => False)
        ?hI1 ?hIx1 ?hG1 ?hps1 (all1_iter 3 Bn Aa 0 ca [] (Plus (fun _ => False) W.heap.size) w4.heap.size _ (by omega) (fun k => by simp [small]) ?hit1) ⟨⟨hBa, hLa, Nat.le_refl _⟩, hT4, hM4⟩ ?round1 ?done1 ?stop1
      case hI1 => exact fun k X Y h kb => ⟨⟨h.1.1.keptB kb, h.1.2.1.keptB kb, Nat.le_trans h.1.2.2 kb.size⟩, h.2.1.keptB kb (Nat.le_trans (by have := hT4.2.2.2.2.size; omega) (Nat.le_refl _)), h.2.2.low kb (fun D hD => hM4.lt D hD)⟩
      case hIx1 => exact fun c' X Y h kb => h
      case hG1 => exact fun k args X Y ⟨a, m, d, e, h⟩ kb => ⟨a, m, d, e, h.keptB kb⟩
      case hps1 => rintro k args X ⟨a, m, d, rfl, h⟩; rfl
      case hit1 => exact fun k X h => h.1
      case round1 => intro l k args X K hk; exact absurd hk (by omega)
      case done1 =>
        intro D X hD hC hk
        simp only [Exit.inBlock, Exit.then]
        have HF := hid (And.intro hC.2.1 (hC.2.2.cons (D := D) (fun D' hD' => hM4.lt D' hD') hD (by have := hT4.2.2.2.2.size; omega) hk))
        clear hC hk hD hT4 hM4 hBa hLa hpa
        go_wp2
        exact ⟨none_next (Ds := D :: Ds) (i := 1) (by omega) HF.out.1 HF.out.2, by simp [intOf]⟩
      case stop1 => exact fun D c' X _ h _ => h.elim
    · obtain rfl : i = 2 := by omega
      have hO : Only (fun x => x = w.heap.size + 1) W (W.setCell ⟨w.heap.size + 1, 0, none⟩ (.bool true)) := (Only.refl _ W).set 0 _
      clear m0 m1
      go_wp2
      refine leave_marks (B := w.heap.size) Ds _ (hM.keeps (keeps_only hO fun x e _ => ⟨#[.bool r], 4, (0, 0), e ▸ t2⟩)) fun W' hk => ?_
      have c9 : W'.cell? ⟨w.heap.size + 1, 0, none⟩ = some (.bool true) := hk.cell ((t2.set_ 0 (.bool true)).cell 0)
      refine ⟨.bool true, ?_, rfl, ?_⟩
      · exact results_bool rfl _ _ _ _ rfl c9
      · exact (t5.then_ hO fun i hi e => by omega).keptB hk (Nat.le_refl _)

end Go.Proofs.Ytinlpmgchcbjpaa
