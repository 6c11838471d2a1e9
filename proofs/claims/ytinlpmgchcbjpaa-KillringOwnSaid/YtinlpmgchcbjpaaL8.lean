/- The law KillringOwn, walked. -/
import Derived.Test.YtinlpmgchcbjpaaO2
namespace Go.Proofs.Ytinlpmgchcbjpaa
open Go Go.RowKit
set_option maxHeartbeats 1000000
set_option maxRecDepth 100000
attribute [local go_sem] Oper.semAt_some

set_option maxHeartbeats 4000000 in
theorem klaw_own (AL : Option Addr) (N c : Nat) (ls : List (List Int)) (A : Option Addr) (n d : Nat) (text : List Int) (w : World) (hL : RdL w (Old w) AL N c ls) (hN : N * 24 ≤ 140737488351232) (hsm : ∀ k : Nat, (ls[k]?.getD []).length * 4 ≤ 140737488351232)
    (hT : RdI w (Old w) A n d text) (hn : n * 4 ≤ 140737488351232) :
    Calls Try.prog 8 #[.slice AL N c, .slice A n d] w fun e w' => e = .returned (.bool true) ∧ Pure w w' := by
  have hNI : (N : Int) ≤ 5864062014656 := by omega
  have hnI : (n : Int) ≤ 35184372087808 := by omega
  have HLN := hid hL.len
  refine calls_of_wp_marks Try.func8 rfl ?_
  simp only [Try.ntmps8, List.size_toArray, List.length_cons, List.length_nil, Nat.reduceAdd, Nat.reduceSub, Array.replicate_succ, Array.replicate_zero, List.push_toArray, List.append_toArray, List.nil_append, List.cons_append]
  go_wp2
  go_loopw [5, 27] (fun v i wr => ∃ (k : Nat) (A2 : Option Addr) (c2 : Nat), k ≤ N ∧ i = .int .i64 k ∧ v = .slice A2 k c2 ∧ Mine w.heap.size wr A2 k c2 (ls.take k) ∧ Pure w wr) (fun _ i _ => N - (intOf i).toNat)
  case atStart => exact ⟨0, none, 0, Nat.zero_le _, rfl, rfl, Mine.nil _ _, Only.refl _ _⟩
  case round =>
    obtain ⟨k, A2, c2, hk, rfl, rfl, hM, hp⟩ := hrel
    by_cases hlt : k < N
    · obtain ⟨gx, ox, a, m, dd, rfl, _, hgx, hc, hx⟩ := (hL.pure_ hp).at_ hlt
      have hkI : (k : Int) < N := by omega
      have hxl := hx.len
      have hm4 : m * 4 ≤ 140737488351232 := by rw [← hxl]; exact hsm k
      have ht := take_at ls k (by rw [HLN.out]; exact hlt)
      obtain ⟨x, hxe⟩ : ∃ x, x = ls[k]?.getD [] := ⟨_, rfl⟩
      rw [← hxe] at ht hx
      have HT := hid ht
      clear hxe ht hxl
      obtain ⟨hl2, vs, hown, hes⟩ := hM
      have HL2 := hid hl2
      clear hl2
      go_wp2_with (first
        | (at_builtin; refine appendI (.tmp 32) (.tmp 33) rfl rfl wr.heap.size (.slice (some ⟨wr.heap.size, 0, none⟩) 0 0) 0 [] rfl (World.ownsRow_made wr #[] 0 (Nat.le_refl _) (Nat.zero_le _) rfl) (Old w) a m dd _ rfl (hx.pure_ ((Only.refl _ wr).alloc _)) (oneI x) (by unfold maxLen; omega) (by omega) (by simp) ?_; intro A3 c3 w3 ho3 hp3 hat3; simp only [Nat.zero_add, List.nil_append] at ho3 hp3 ⊢; have h3 : Pure wr w3 := ((Only.refl _ wr).alloc _).then_ hp3 fun i hi e => by simp [Value.ownBlock] at e; omega)
        | (at_builtin; refine appendL (.tmp 31) (.tmp 35) rfl rfl w.heap.size (.slice A2 k c2) k vs rfl (own_only (own_only hown h3 fun _ _ x => x) ((Only.refl (fun _ => False) w3).alloc _) fun _ _ x => x) _ (some ⟨w3.heap.size, 0, none⟩) 1 1 [.slice A3 m c3] (by rfl) (Rd.one w3 _ _) (by simp [Value.oneCell']) (by unfold maxLen; omega) (by omega) (by have h4 := hp.size; have h5 := h3.size; simp; omega) ?_; intro A5 c5 w5 ho5 hp5 hat5))
      have hM5 := Mine.step HL2.out hp.size hown hes h3 ho3 ho5 hp5
      rw [← HT.out] at hM5
      have hp5' : Pure w w5 := ((hp.trans h3).alloc _).then_ hp5 fun i hi e => by have := (hown.lt i e).1; omega
      clear ho5 hp5 hat5 hown hes hx ho3 hp3 hat3
      go_roundw
      case rel => exact ⟨k + 1, A5, c5, by omega, by go_num, rfl, hM5, hp5'⟩
      case measure => simp [intOf]; omega
    · obtain rfl : k = N := by omega
      rw [List.take_of_length_le (by rw [HLN.out]; exact Nat.le_refl _)] at hM
      have hMd := hM.rd
      have hwr := hp.size
      by_cases ht : tooMuch ls
      · go_wp2_with (first
          | (go_at_call 28; refine (from_any A2 k c2 ls _ wr hMd (by omega) (fun _ h => h.2)).mono ?_; rintro e w1 (⟨_, rfl, rfl⟩ | ⟨hn, _⟩); rotate_left; exact absurd ht hn)
          | (go_at_call 29; refine (ref_from_any AL k c ls _ wr (hL.pure_ hp) (by omega) (fun b h => Nat.lt_of_lt_of_le h hwr) (fun j => by have := hsm j; omega)).mono ?_; rintro e w1 (⟨_, rfl, hp1⟩ | ⟨hn, _⟩); rotate_left; exact absurd ht hn)
          | (go_at_call 16; refine (live_any w1).mono ?_; rintro e w2 ⟨rfl, hp2⟩))
        refine leave_marks (B := w.heap.size) [] _ (Marks.nil _ _) fun W' hk' => ⟨_, results_tmp rfl _ _ _, rfl, ?_⟩
        exact ((hp.trans hp1).trans hp2).keptB hk' (Nat.le_refl _)
      · obtain ⟨hl2, vs, hown, hes⟩ := hM
        go_wp2_with (first
          | (go_at_call 28; refine (from_any A2 k c2 ls _ wr hMd (by omega) (fun _ h => h.2)).mono ?_; rintro e w2 (⟨hn, _⟩ | ⟨_, g, rfl, hg, hR2, hp2⟩); exact absurd hn ht)
          | (go_at_call 29; refine (ref_from_any AL k c ls _ w2 ((hL.pure_ hp).pure_ hp2) (by omega) (fun b h => Nat.lt_of_lt_of_le h (Nat.le_trans hwr hp2.size)) (fun j => by have := hsm j; omega)).mono ?_; rintro e w3 (⟨hn, _⟩ | ⟨_, g2, rfl, hg2, hQ3, hp3⟩); exact absurd hn ht)
          | (go_at_call 16; refine (live_any w3).mono ?_; rintro e w4 ⟨rfl, hp4⟩; have hgl := hR2.lt; have hgl2 := hQ3.lt; have hRt := (hR2.tight.pure_ hp3).pure_ hp4; have hQt := (hQ3.pure_ hp4).tighter; have s2 := hp2.size; have s3 := hp3.size; have s4 := hp4.size)
          | (at_builtin; refine appendI (.tmp 65) (.tmp 66) rfl rfl w4.heap.size (.slice (some ⟨w4.heap.size, 0, none⟩) 0 0) 0 [] rfl (World.ownsRow_made w4 #[] 0 (Nat.le_refl _) (Nat.zero_le _) rfl) (Old w) A n d _ rfl (((((hT.pure_ hp).pure_ hp2).pure_ hp3).pure_ hp4).pure_ ((Only.refl _ w4).alloc _)) (oneI text) (by unfold maxLen; omega) (by omega) (by simp) ?_; intro Am cm w5 hom hpm hatm; simp only [Nat.zero_add, List.nil_append] at hom hpm ⊢; have h45 : Pure w4 w5 := ((Only.refl _ w4).alloc _).then_ hpm fun i hi e => by simp [Value.ownBlock] at e; omega)
          | (go_at_call 17; refine (kill_any g _ (fun b => w4.heap.size ≤ b) ls 0 0 Am n cm text w5 (hRt.pure_ h45) (own_new hom) (fun h => by omega)).mono ?_; rintro e w6 h; obtain ⟨rfl, hR6, ho6⟩ := h.of_push; have hQ6 := (hQt.pure_ h45).only ho6 (fun b hb _ e => by subst e; omega) (by omega); have hT6 := (((((hT.pure_ hp).pure_ hp2).pure_ hp3).pure_ hp4).pure_ h45).only ho6 (fun b hb _ e => by have h1 : b < w.heap.size := hb; omega))
          | (go_at_call 24; refine (ref_kill_any g2 _ (Old w) ls 0 0 A n d text w6 hQ6 hT6).mono ?_; rintro e w7 ⟨rfl, hQ7, ho7⟩; have ho17 : Only (fun b => b = g ∨ b = g2) wr w7 := ((Only.of_pure (hp2.trans (hp3.trans (hp4.trans h45)))).trans (ho6.mono fun _ _ e => .inl e)).trans (ho7.mono fun _ _ e => .inr e); have hown7 := own_only hown ho17 (fun b hb e => by have := hown.lt b hb; omega))
          | (at_builtin; refine appendL (.tmp 75) (.tmp 77) rfl rfl w.heap.size (.slice A2 k c2) k vs rfl (own_only hown7 ((Only.refl (fun _ => False) w7).alloc _) fun _ _ x => x) _ (some ⟨w7.heap.size, 0, none⟩) 1 1 [.slice Am n cm] (by rfl) (Rd.one w7 _ _) (by simp [Value.oneCell']) (by unfold maxLen; omega) (by omega) (by have h4 := ho17.size; simp; omega) ?_; intro A8 c8 w8 ho8 hp8 hat8))
        have s5 := h45.size
        have s6 := ho6.size
        have s7 := ho7.size
        have hp78 : Only (fun b => (Value.slice A2 k c2).ownBlock = some b) w7 w8 := ((Only.refl _ w7).alloc _).then_ hp8 fun i hi e => e
        have s8 := hp78.size
        obtain ⟨es, hes0⟩ : ∃ es, es = killEs 0 text ls := ⟨_, rfl⟩
        obtain ⟨pl2, hpl0⟩ : ∃ pl2, pl2 = killPl 0 text ls 0 := ⟨_, rfl⟩
        rw [← hes0, ← hpl0] at hR6 hQ7
        clear hes0 hpl0
        have hlt := fun b hb => hown.lt b hb
        have hR8 := ((hR6.only ho7 (fun b hb _ e => by subst e; rcases hb with h | h <;> omega) (by omega)).only hp78 (fun b hb _ e => by have := hlt b e; rcases hb with h | h <;> omega) (fun e => by have := hlt g e; omega)).tight
        have hQ8 := (hQ7.only hp78 (fun b hb _ e => by have := hlt b e; rcases hb with h | h <;> omega) (fun e => by have := hlt g2 e; omega)).tighter
        obtain ⟨Sr, hSr⟩ : ∃ Sr : Nat → Prop, Sr = fun b => Plus (fun b => (wr.heap.size ≤ b ∧ b ≠ g) ∧ b < w2.heap.size) w5.heap.size b ∧ b < w8.heap.size := ⟨_, rfl⟩
        obtain ⟨Sq, hSq⟩ : ∃ Sq : Nat → Prop, Sq = fun b => Plus (fun b => (w2.heap.size ≤ b ∧ b ≠ g2) ∧ b < w4.heap.size) w6.heap.size b ∧ b < w8.heap.size := ⟨_, rfl⟩
        obtain ⟨Z, hZ⟩ : ∃ Z : Nat → Prop, Z = fun b => (w.heap.size ≤ b ∧ b < wr.heap.size) ∨ (w4.heap.size ≤ b ∧ b < w5.heap.size) ∨ w8.heap.size ≤ b := ⟨_, rfl⟩
        have hF : FreeB w Sr Sq g g2 Z := by
          intro b hb
          rw [hZ] at hb
          rw [hSr, hSq]
          refine ⟨?_, ?_, ?_, ?_, ?_⟩
          · rintro ⟨h | h, h'⟩ <;> omega
          · rintro ⟨h | h, h'⟩ <;> omega
          · omega
          · omega
          · omega
        have hqg : ¬ Sq g := by rw [hSq]; rintro ⟨h | h, h'⟩ <;> omega
        have hgg : g ≠ g2 := by omega
        have hgw : w.heap.size ≤ g := by omega
        have hZ1 : ∀ b, w8.heap.size ≤ b → Z b := fun b hb => by rw [hZ]; exact .inr (.inr hb)
        have hS8 : St w Sr Sq g g2 es pl2 w8 := by
          refine ⟨⟨pl2, by rw [hSr]; exact hR8⟩, by rw [hSq]; exact hQ8, ?_⟩
          exact (hp.then_ ho17 fun i hi e => by omega).then_ hp78 fun i hi e => by have := hlt i e; omega
        have hmore : Wr Z w8 Am n := by
          have h1 : Wr (fun b => w4.heap.size ≤ b ∧ b < w5.heap.size) w5 Am n := Wr.of_own hom fun b h1 h2 => ⟨h1, h2⟩
          exact (((h1.only ho6 fun b hb e => by omega).only ho7 fun b hb e => by omega).only hp78 fun b hb e => by have := hlt b e; omega).mono fun b hb => by rw [hZ]; exact .inr (.inl hb)
        have hRows : Rows w.heap.size Z w8 A8 (k + 1) c8 := by
          refine Rows.of_mine (ls := ls) hown7 (fun j hj => ?_) hp78 ho8 hmore fun j a m dd hj hv b hb => ?_
          · obtain ⟨a, m, dd, h1, h2⟩ := hes j hj
            exact ⟨a, m, dd, h1, own_only h2 ho17 fun b hb e => by have := h2.lt b hb; omega⟩
          · obtain ⟨a', m', d', h1, h2⟩ := hes j hj
            rw [h1] at hv; injection hv with hv; rw [← hv] at hb
            have := h2.lt b hb
            rw [hZ]; exact .inl this
        have HZ := hid hZ
        have hk1 : ((k : Int) + 1) ≤ 5864062014657 := by omega
        have hw8 : w8.heap.size ≤ w8.heap.size := Nat.le_refl _
        have hGw : w.heap.size ≤ w8.heap.size := by omega
        clear hZ hSr hSq hR8 hQ8 hmore hlt hR6 hQ7 hRt hQt hQ6 hT6 ho6 ho7 ho17 hp78 hp8 ho8 hat8 hom hpm hatm h45 hown hown7 hes hp2 hp3 hp4 hR2 hQ3 hg hg2 hgl hgl2 s2 s3 s4 s5 s6 s7 s8 hl2 hMd hwr hp
        go_loopw [80] (fun i W => ∃ j : Nat, j ≤ k + 1 ∧ i = .int .i64 j ∧ St w Sr Sq g g2 es pl2 W ∧ Rows w.heap.size Z W A8 (k + 1) c8 ∧ w8.heap.size ≤ W.heap.size) (fun i _ => k + 1 - (intOf i).toNat)
        case atStart => exact ⟨0, Nat.zero_le _, rfl, hS8, hRows, hw8⟩
        case round =>
          clear hS8 hRows hw8
          obtain ⟨j, hj, rfl, hSW, hRW, hW8⟩ := hrel
          by_cases hlj : j < k + 1
          · obtain ⟨gy, oy, a, m, dd, rfl, hcy, hWr_86⟩ := hRW.at_ hlj
            have hjI : (j : Int) < (k : Int) + 1 := by omega
            go_wp2
            have hmI_86 : (m : Int) ≤ 9223372036854775807 := by have h9 := hWr_86.1; unfold maxLen at h9; omega
            go_loopw [86] (fun i W => ∃ q : Nat, q ≤ m ∧ i = .int .i64 q ∧ St w Sr Sq g g2 es pl2 W ∧ Rows w.heap.size Z W (some ⟨gy, oy, none⟩) (k + 1) c8 ∧ w8.heap.size ≤ W.heap.size ∧ Wr Z W a m) (fun i _ => m - (intOf i).toNat)
            case atStart => exact ⟨0, Nat.zero_le _, rfl, hSW, hRW, hW8, hWr_86⟩
            case round =>
              clear hSW hRW hW8 hWr_86
              obtain ⟨q, hq, rfl, hSW, hRW, hW8, hWr⟩ := hrel
              by_cases hlq : q < m
              · obtain ⟨b, u, hbe, hbZ, hcu, hfu, cur, hBc⟩ := hWr.at_ hlq
                subst hbe
                have hqI : (q : Int) < m := by omega
                go_wp2
                go_roundw
                case rel => exact ⟨q + 1, by omega, by go_num, hSW.set hF hbZ _ _, hRW.set hBc _ _, (by simpa using hW8), hWr.set _ _ _⟩
                case measure => simp [intOf]; omega
              · obtain rfl : q = m := by omega
                go_wp2
                go_roundw
                case rel => exact ⟨j + 1, by omega, by go_num, hSW, hRW, hW8⟩
                case measure => simp [intOf]; omega
          · obtain rfl : j = k + 1 := by omega
            obtain ⟨⟨pl, hRw⟩, hQw, hpw⟩ := hSW
            go_wp2_with (first
              | (go_at_call 18; refine (yank_own g Sr es pl wr hRw).mono ?_; rintro e w9 ⟨A3, m3, c3, x3, code3, pl3, rfl, hO3, hR9, ho9⟩)
              | (go_at_call 21; refine (rot_own g Sr es pl3 0 w9 hR9).mono ?_; rintro e w10 ⟨A4, m4, c4, x4, code4, pl4, rfl, hO4, hR10, ho10⟩))
            have s9 := ho9.size
            have s10 := ho10.size
            have hS10 : St w Sr Sq g g2 es pl2 w10 := St.ring ⟨⟨pl, hRw⟩, hQw, hpw⟩ hR10 (ho9.trans ho10) hqg hgg hgw
            have hW10 : w8.heap.size ≤ w10.heap.size := by omega
            have hWr_115 : Wr Z w10 A4 m4 := Wr.of_own hO4 fun b hb _ => hZ1 b (by omega)
            have hWr_106 : Wr Z w10 A3 m3 := (Wr.of_own (M := Z) hO3 fun b hb _ => hZ1 b (by omega)).only ho10 fun b hb e => (hF b hb).2.2.1 e
            clear hO3 hO4 hR9 hR10 ho9 ho10 s9 s10 hRw hQw hpw hRW hW8
            have hmI_106 : (m3 : Int) ≤ 9223372036854775807 := by have h9 := hWr_106.1; unfold maxLen at h9; omega
            go_loopw [106] (fun i W => ∃ q : Nat, q ≤ m3 ∧ i = .int .i64 q ∧ St w Sr Sq g g2 es pl2 W ∧ Wr Z W A3 m3 ∧ Wr Z W A4 m4 ∧ w8.heap.size ≤ W.heap.size) (fun i _ => m3 - (intOf i).toNat)
            case atStart => exact ⟨0, Nat.zero_le _, rfl, hS10, hWr_106, hWr_115, hW10⟩
            case round =>
              clear hS10 hWr_115 hW10 hWr_106
              obtain ⟨q, hq, rfl, hSW, hWy, hWz, hW8⟩ := hrel
              by_cases hlq : q < m3
              · obtain ⟨b, u, hbe, hbZ, hcu, hfu, cur, hBc⟩ := hWy.at_ hlq
                subst hbe
                have hqI : (q : Int) < m3 := by omega
                go_wp2
                go_roundw
                case rel => exact ⟨q + 1, by omega, by go_num, hSW.set hF hbZ _ _, hWy.set _ _ _, hWz.set _ _ _, (by simpa using hW8)⟩
                case measure => simp [intOf]; omega
              · obtain rfl : q = m3 := by omega
                have hWr_115 := hWz
                go_wp2
                have hmI_115 : (m4 : Int) ≤ 9223372036854775807 := by have h9 := hWr_115.1; unfold maxLen at h9; omega
                go_loopw [115] (fun i W => ∃ q : Nat, q ≤ m4 ∧ i = .int .i64 q ∧ St w Sr Sq g g2 es pl2 W ∧ Wr Z W A4 m4 ∧ w8.heap.size ≤ W.heap.size) (fun i _ => m4 - (intOf i).toNat)
                case atStart => exact ⟨0, Nat.zero_le _, rfl, hSW, hWr_115, hW8⟩
                case round =>
                  clear hSW hWz hWy hW8 hWr_115
                  obtain ⟨q, hq, rfl, hSW, hWz, hW8⟩ := hrel
                  by_cases hlq : q < m4
                  · obtain ⟨b, u, hbe, hbZ, hcu, hfu, cur, hBc⟩ := hWz.at_ hlq
                    subst hbe
                    have hqI : (q : Int) < m4 := by omega
                    go_wp2
                    go_roundw
                    case rel => exact ⟨q + 1, by omega, by go_num, hSW.set hF hbZ _ _, hWz.set _ _ _, (by simpa using hW8)⟩
                    case measure => simp [intOf]; omega
                  · obtain rfl : q = m4 := by omega
                    obtain ⟨⟨pl5, hRw⟩, hQw, hpw⟩ := hSW
                    go_wp2_with (go_at_call 23; refine (all_any g Sr es pl5 wr hRw).mono ?_; rintro e w9 ⟨Bn, Aa, ca, rfl, hBn, hBa, hLa, hpa⟩)
                    have hS9 : St w Sr Sq g g2 es pl2 w9 := St.pure_ ⟨⟨pl5, hRw⟩, hQw, hpw⟩ hpa
                    have he60 := hRw.le60
                    have hsmall := hRw.smalls
                    have hW9 : w8.heap.size ≤ w9.heap.size := Nat.le_trans hW8 hpa.size
                    have hF9 : FreeB w Sr Sq g g2 (fun b => w9.heap.size ≤ b) := fun b hb => hF b (hZ1 b (Nat.le_trans hW9 hb))
                    have hLt : RdL w9 (fun b => b < w9.heap.size) Aa es.length ca es := hLa.mono fun b hb _ => hb
                    have hBlt := hBa.lt
                    have hGw9 : w.heap.size ≤ w9.heap.size := Nat.le_trans hGw hW9
                    clear hRw hQw hpw hWz hLa hBn hpa hW8
                    refine wp_range 3 (gf := 71) (lb := #[.pointer (some ⟨Bn, 0, none⟩)]) rfl (enters_of Try.func71 (by kernel_rfl) rfl) es.length (EntryO es w9.heap.size)
                      (fun _ X => Blk X Bn 23 #[.slice Aa es.length ca] ∧ RdL X (fun b => b < w9.heap.size) Aa es.length ca es ∧ w9.heap.size ≤ X.heap.size ∧ St w Sr Sq g g2 es pl2 X)
                      (fun _ _ => False)
                      ?hI ?hIx ?hG ?hps (all1_iterO 3 Bn Aa es.length ca es (fun b => b < w9.heap.size) w9.heap.size _ (by omega) (fun j => by have := hsmall j; unfold small; omega) ?hit) ⟨hBa, hLt, Nat.le_refl _, hS9⟩ ?round ?done ?stop
                    case hI => exact fun j X Y h kb => ⟨h.1.keptB kb, h.2.1.keptB kb, Nat.le_trans h.2.2.1 kb.size, h.2.2.2.keptB kb hGw9⟩
                    case hIx => exact fun _ _ _ h _ => h
                    case hG => exact fun j args X Y ⟨a, m, dd, e, h⟩ kb => ⟨a, m, dd, e, own_keptB h kb⟩
                    case hps => rintro j args X ⟨a, m, dd, rfl, h⟩; rfl
                    case hit => exact fun j X h => ⟨h.1, h.2.1, h.2.2.1⟩
                    case round =>
                      intro l j args X K hj hC hE hK
                      obtain ⟨a, m, dd, rfl, hx⟩ := hE
                      clear hx hC
                      simp only [Array.zip, Array.foldl]
                      gi_wp2
                      rintro X2 hC2 ⟨a', m', dd', e, hx⟩
                      simp only [Array.mk.injEq, List.cons.injEq, Value.slice.injEq, and_true, true_and] at e
                      obtain ⟨rfl, rfl, rfl⟩ := e
                      have hWr_128 : Wr (fun b => w9.heap.size ≤ b) X2 a m := Wr.of_own hx fun b hb _ => hb
                      clear hx
                      gi_wp2
                      have hmI_128 : (m : Int) ≤ 9223372036854775807 := by have h9 := hWr_128.1; unfold maxLen at h9; omega
                      gi_loopw [128] (fun i W => ∃ q : Nat, q ≤ m ∧ i = .int .i64 q ∧ KeepsOthers X2 W ∧ Blk W Bn 23 #[.slice Aa es.length ca] ∧ RdL W (fun b => b < w9.heap.size) Aa es.length ca es ∧ w9.heap.size ≤ W.heap.size ∧ St w Sr Sq g g2 es pl2 W ∧ Wr (fun b => w9.heap.size ≤ b) W a m) (fun i _ => m - (intOf i).toNat)
                      case atStart => exact ⟨0, Nat.zero_le _, rfl, keeps_refl X2, hC2.1, hC2.2.1, hC2.2.2.1, hC2.2.2.2, hWr_128⟩
                      case round =>
                        clear hC2 hWr_128
                        obtain ⟨q, hq, rfl, hKO, hI1, hI2, hI3, hI4, hWa⟩ := hrel
                        by_cases hlq : q < m
                        · obtain ⟨b, u, hbe, hbZ, hcu, hfu, cur, hBc⟩ := hWa.at_ hlq
                          subst hbe
                          have hqI : (q : Int) < m := by omega
                          gi_wp2
                          go_roundw
                          case rel => exact ⟨q + 1, by omega, by go_num, keeps_trans hKO (keeps_only ((Only.refl (fun x => x = b) wr).set q (.int .i32 63)) fun x e _ => ⟨cur, 21, (0, 0), e ▸ hBc⟩), hI1.far (p := ⟨b, q, none⟩) (by have h3 : w9.heap.size ≤ b := hbZ; show ¬ Bn = b; omega) _, hI2.only ((Only.refl (fun x => x = b) wr).set q (.int .i32 63)) (fun x hx _ e => by have h1 : x < w9.heap.size := hx; have h2 : x = b := e; have h3 : w9.heap.size ≤ b := hbZ; omega), (by simpa using hI3), hI4.set hF9 hbZ _ _, hWa.set _ _ _⟩
                          case measure => simp [intOf]; omega
                        · obtain rfl : q = m := by omega
                          gi_wp2
                          exact ⟨hKO, hI1, hI2, hI3, hI4⟩
                    case done =>
                      intro D X hD hC hk
                      simp only [Exit.inBlock, Exit.then]
                      obtain ⟨hI1, hI2, hI3, ⟨pl6, hRX⟩, hQX, hpX⟩ := hC
                      obtain ⟨hQ1, A9, N9, c9, hB9, hL9, hQr⟩ := hQX
                      have i0 : X.cell? ⟨g2, 0, none⟩ = some (.slice A9 N9 c9) := hB9.cell 0
                      clear hB9 hQr hI1 hI2 hI3
                      go_wp2_with (go_at_call 27; refine (told_any g Sr Sq es pl6 A9 N9 c9 0 X hRX hL9).mono ?_; rintro e w11 ⟨rfl, hp11⟩)
                      refine leave_marks (B := w.heap.size) [D] _ ⟨by simp, fun D' hD' => ?_⟩ fun W' hk' => ⟨_, results_tmp rfl _ _ _, rfl, ?_⟩
                      · obtain rfl : D' = D := by simpa using hD'
                        exact ⟨Nat.le_trans hGw9 hD, (keeps_pure hp11).same _ _ hk rfl⟩
                      · exact (hpX.trans hp11).keptB hk' (Nat.le_refl _)
                    case stop => exact fun D c' X _ h _ => h.elim

end Go.Proofs.Ytinlpmgchcbjpaa
