/- The law UndoTakesBack, walked. -/
import Derived.Test.YtinlpmgchcbjpaaU28
import Derived.Test.YtinlpmgchcbjpaaU25
import Derived.Test.YtinlpmgchcbjpaaRt
namespace Go.Proofs.Ytinlpmgchcbjpaa
open Go Go.RowKit
set_option maxHeartbeats 1000000
set_option maxRecDepth 100000

theorem RdSt.at_ {w : World} {S : Nat → Prop} {A : Option Addr} {N c : Nat} {es : List St1} (h : RdK' stKind 5 St1.none w S A N c es) {k : Nat} (hk : k < N) : ∃ g off a m d, A = some ⟨g, off, none⟩ ∧ g < w.heap.size ∧
    w.cell? ⟨g, off + k * 5, none⟩ = some (.int .i64 (es[k]?.getD St1.none).at_) ∧ w.cell? ⟨g, off + k * 5 + 1, none⟩ = some (.int .i64 (es[k]?.getD St1.none).many) ∧ w.cell? ⟨g, off + k * 5 + 2, none⟩ = some (.slice a m d) ∧
    w.cell? ⟨g, off + k * 5 + 3, none⟩ = some (.bool (es[k]?.getD St1.none).bg) ∧ w.cell? ⟨g, off + k * 5 + 4, none⟩ = some (.bool (es[k]?.getD St1.none).en) ∧ RdI w S a m d (es[k]?.getD St1.none).ins := by
  obtain ⟨_, vs, hr, hi⟩ := h
  obtain ⟨a, m, d, h1, h2⟩ := hi k hk
  obtain ⟨g, off, e, hS, hg, hc⟩ := hr.2.2.2 (by omega)
  refine ⟨g, off, a, m, d, e, hg, ?_, ?_, ?_, ?_, ?_, h2⟩
  · exact hc (k * 5) _ (row_get (j := 0) h1 rfl)
  · exact hc (k * 5 + 1) _ (row_get (j := 1) h1 rfl)
  · exact hc (k * 5 + 2) _ (row_get (j := 2) h1 rfl)
  · exact hc (k * 5 + 3) _ (row_get (j := 3) h1 rfl)
  · exact hc (k * 5 + 4) _ (row_get (j := 4) h1 rfl)

theorem TMs.was_ {w X Y : World} {g : Nat} {gs : List (List Ed)} {nw : List Ed} {op : Int} {An : Option Addr} {nn cn : Nat} {now : List Int} {Aw A' : Option Addr} {mw cw c' : Nat} {was : List (List Int)} {S M : Nat → Prop} {vs : List Value}
    (h : TMs w g gs nw op An nn cn now Aw mw cw was S M X) (hl : was.length = mw) (hown : X.ownsRow w.heap.size 22 1 (.slice Aw mw cw) mw vs) (hes : ∀ j, j < mw → lineKind.rd X M ((vs.drop (j * 1)).take 1) (was[j]?.getD []))
    (ho5 : Y.ownsRow w.heap.size 22 1 (.slice A' (mw + 1) c') (mw + 1) (vs ++ [.slice An nn cn])) (hp5 : Only (fun b => (Value.slice Aw mw cw).ownBlock = some b) (X.alloc (.cells #[.slice An nn cn] 22)) Y)
    (hat : (Value.slice A' (mw + 1) c').ownBlock = (Value.slice Aw mw cw).ownBlock ∨ (Value.slice A' (mw + 1) c').ownBlock = some (X.alloc (.cells #[.slice An nn cn] 22)).heap.size) :
    TMs w g gs nw op An nn cn now A' (mw + 1) c' (was ++ [now]) S M Y := by
  obtain ⟨h1, h2, h3, h4, h5, h6, h7, h8⟩ := h
  obtain ⟨_, _, _, _, k4, k5⟩ := h3
  have hst := OwnK.step (K := lineKind) (z := []) hl hown hes k4 k5 (Only.refl _ X) (x := now) (Sx := M) ⟨An, nn, cn, rfl, h2⟩ rfl (fun b hb => ⟨k5 b hb, k4 b hb⟩) ((Only.refl (fun _ => False) X).alloc _) ho5 hp5 hat
  have ho : Only (fun b => (Value.slice Aw mw cw).ownBlock = some b) X Y := ((Only.refl _ X).alloc _).then_ hp5 fun i _ e => e
  have hs := ho.size
  have hgl := h1.lt
  obtain ⟨q1, vs', q2, q3, q4, q5⟩ := hst
  refine ⟨h1.only ho (fun b hb e => (h4 b hb).2.2.2 e) (fun e => h6 e), h2.only ho (fun b hb _ e => k4 b hb e), ⟨q1, vs', q2, fun j hj => lineKind.mono (q3 j hj) fun b _ hb => hb.elim id id, fun b hb => q4 b (.inl hb), fun b hb => q5 b (.inl hb)⟩, fun b hb => ⟨(h4 b hb).1, Nat.lt_of_lt_of_le (h4 b hb).2.1 hs, (h4 b hb).2.2.1, fun e => ?_⟩, h5, fun e => ?_, h7, h8.then_ ho fun i hi e => by have := (hown.lt i e).1; omega⟩
  · rcases hat with h | h
    · rw [h] at e; exact (h4 b hb).2.2.2 e
    · rw [h] at e; injection e with e; simp at e; have := (h4 b hb).2.1; omega
  · rcases hat with h | h
    · rw [h] at e; exact h6 e
    · rw [h] at e; injection e with e; simp at e; omega

theorem invs_len (es : List Ed) : (invs es).length = es.length := by unfold invs; simp
theorem invs_fit {es : List Ed} (h : ∀ e ∈ es, e.fit) : ∀ e ∈ invs es, e.fit := by
  intro e he
  unfold invs at he
  simp only [List.mem_reverse, List.mem_map] at he
  obtain ⟨x, hx, rfl⟩ := he
  exact ⟨(h x hx).2, (h x hx).1⟩

theorem halt_ {p : Prop} (h : True → p) : p := h trivial

theorem add_open (_ : List (List Ed)) (nw : List Ed) (opn : Bool) (e : Ed) (ho : opn = false → nw = []) : opn = false → addN nw (if opn then 1 else 0) e = [] := by
  intro h; subst h; rw [ho rfl]; rfl

theorem AddDid.full {w : World} {S : Nat → Prop} {g : Nat} {gs : List (List Ed)} {now : List Ed} {op : Int} {e : Ed} {r : Ending} {w' : World} (h : AddDid w S g gs now op e r w') (hc : addCode e (tot gs now) = 3) : ULDid w S g gs now op (.int .i64 3) r w' := by
  unfold AddDid at h; rw [hc] at h; rwa [if_neg (by decide)] at h


set_option maxHeartbeats 16000000 in
theorem takes_law (AL : Option Addr) (N C : Nat) (line : List Int) (A : Option Addr) (n c : Nat) (es : List St1) (w : World) (hL : RdI w (Old w) AL N C line) (hE : RdK' stKind 5 St1.none w (Old w) A n c es)
    (hN : N ≤ 35184372087808) (hn : n ≤ 35184372087808) (hf : ∀ e ∈ es, e.ins.length ≤ 35184372087808) :
    Calls Try.prog 12 #[.slice AL N C, .slice A n c] w fun e w' => e = .returned (.bool true) ∧ Pure w w' := by
  have hNI : (N : Int) ≤ 35184372087808 := by omega
  have hnI : (n : Int) ≤ 35184372087808 := by omega
  have HLN := hid hL.len
  have hlen : es.length = n := hE.1
  have HEN := hid hlen
  clear hlen
  go_enter Try.func12, Try.ntmps12
  by_cases hlong : 1024 < N
  · have hlI : (1024 : Int) < N := by omega
    go_wp2_with (first
      | (go_at_call 40; refine (unew_any w).mono ?_; rintro e w1 h; obtain ⟨g, rfl, hg0, hU1, ho1⟩ := h)
      | (go_at_call 34; refine (begun_any w1).mono ?_; rintro e w2 ⟨rfl, hp2⟩))
    go_ret
    exact ⟨rfl, ho1.trans hp2⟩
  have hlI : (N : Int) ≤ 1024 := by omega
  have hshort : line.length ≤ 1024 := by rw [HLN.out]; omega
  have HSH := hid hshort
  clear hshort
  go_wp2_with (first
    | (go_at_call 40; refine (unew_any w).mono ?_; rintro e w1 h; obtain ⟨g, rfl, hg0, hU1, ho1⟩ := h)
    | (go_at_call 34; refine (begun_any w1).mono ?_; rintro e w2 ⟨rfl, hp2⟩; have hp02 := ho1.trans hp2)
    | (at_builtin; refine appendI (.const (.slice none 0 0)) (.tmp 33) rfl rfl w2.heap.size (.slice none 0 0) 0 [] rfl (World.ownsRow_nil _ _ _ _) (Old w) AL N C _ rfl (hL.pure_ hp02) (oneI line) (by unfold maxLen; omega) (by omega) (Nat.le_refl _) ?_; intro A6 c6 w3 ho3 hp3 hat3; simp only [Nat.zero_add, List.nil_append] at ho3 hp3 ⊢))
  have hp3' : Pure w2 w3 := hp3.mono fun b _ e => by simp [Value.ownBlock] at e
  have hgl := hU1.lt
  have hs2 := hp2.size
  have hs02 := hp02.size
  have hTM0 : TM w g [] [] 0 A6 N c6 line none 0 0 [] w3 := by
    refine ⟨fun _ => False, fun b => w2.heap.size ≤ b ∧ b < w3.heap.size, (hU1.pure_ hp2).pure_ hp3', RdI.mono (own_new ho3) fun b hb h => ⟨h, hb⟩, ⟨rfl, [], World.ownsRow_nil _ _ _ _, fun j h => absurd h (by omega), fun b _ e => by simp [Value.ownBlock] at e, fun b hb => hb.2⟩, fun _ h => h.elim, fun h => by omega, fun e => by simp [Value.ownBlock] at e, hg0, hp02.trans hp3'⟩
  clear hp2 hp3 hp3' ho3 hat3 hU1 ho1 hgl hs2 hs02 hp02
  go_loopw [6, 7, 8, 37] (fun v6 v7 v8 i wr => ∃ (k : Nat) (An : Option Addr) (nn cn : Nat) (Aw : Option Addr) (mw cw : Nat) (opn : Bool) (gs : List (List Ed)) (nw : List Ed) (now : List Int) (was : List (List Int)), k ≤ n ∧ i = .int .i64 k ∧ v6 = .slice An nn cn ∧ v7 = .slice Aw mw cw ∧ v8 = .bool opn ∧
    TM w g gs nw (if opn then 1 else 0) An nn cn now Aw mw cw was wr ∧ Hist line (closeG gs nw) was now ∧ (opn = false → nw = [])) (fun _ _ _ i _ => n - (intOf i).toNat)
  case atStart => exact ⟨0, A6, N, c6, none, 0, 0, false, [], [], line, [], Nat.zero_le _, rfl, rfl, rfl, rfl, hTM0, .nil, fun _ => rfl⟩
  case round =>
    clear hTM0
    obtain ⟨k, An, nn, cn, Aw, mw, cw, opn, gs, nw, now, was, hk, rfl, rfl, rfl, rfl, hTM, hH, hop⟩ := hrel
    have hsh := hH.short HSH.out
    have hpw : Pure w wr := by obtain ⟨S, M, h⟩ := hTM; exact h.2.2.2.2.2.2.2
    have hnn : now.length = nn := by obtain ⟨S, M, h⟩ := hTM; exact h.2.1.len
    have HNN := hid hnn
    have hmw : was.length = mw := by obtain ⟨S, M, h⟩ := hTM; exact h.2.2.1.1
    have HMW := hid hmw
    have hmwI : mw ≤ 16384 := by
      obtain ⟨S, M, h⟩ := hTM
      have h1 := hH.len
      have h2 := close_len gs nw
      obtain ⟨_, _, _, _, _, _, _, _, _, _, _, _, _, _, _, h3, h4, _⟩ := h.1
      have := tot_groups (now := nw) h4
      omega
    by_cases hlt : k < n
    · obtain ⟨gx, ox, a, m, d, rfl, hgx, hc0, hc1, hc2, hc3, hc4, hx⟩ := RdSt.at_ (RdK'.pure_ hE hpw) hlt
      have hkI : (k : Int) < n := by omega
      have hmem : (es[k]?.getD St1.none).ins.length ≤ 35184372087808 := by
        rw [List.getElem?_eq_getElem (by rw [HEN.out]; exact hlt)]
        exact hf _ (List.getElem_mem _)
      obtain ⟨at0, hat0⟩ : ∃ v, v = (es[k]?.getD St1.none).at_ := ⟨_, rfl⟩
      obtain ⟨mn0, hmn0⟩ : ∃ v, v = (es[k]?.getD St1.none).many := ⟨_, rfl⟩
      obtain ⟨ins, hins⟩ : ∃ v, v = (es[k]?.getD St1.none).ins := ⟨_, rfl⟩
      obtain ⟨b0, hb0⟩ : ∃ v, v = (es[k]?.getD St1.none).bg := ⟨_, rfl⟩
      obtain ⟨b1, hb1⟩ : ∃ v, v = (es[k]?.getD St1.none).en := ⟨_, rfl⟩
      rw [← hat0] at hc0
      rw [← hmn0] at hc1
      rw [← hins] at hx hmem
      rw [← hb0] at hc3
      rw [← hb1] at hc4
      have hmm := hx.len
      have HMM := hid hmm
      have sm : small m := by unfold small; omega
      have snn : small nn := by unfold small; omega
      clear hat0 hmn0 hins hb0 hb1 hmm hnn hmw
      obtain ⟨W1, hW1⟩ : ∃ W1, W1 = wr.alloc (.cells #[.int .i64 at0, .int .i64 mn0, .slice a m d, .bool b0, .bool b1] 68) := ⟨_, rfl⟩
      have hp1 : Pure wr W1 := by rw [hW1]; exact (Only.refl _ wr).alloc _
      have hbx1 : Blk W1 wr.heap.size 68 #[.int .i64 at0, .int .i64 mn0, .slice a m d, .bool b0, .bool b1] := by rw [hW1]; exact Blk.new _ _ _
      obtain ⟨S, M, hT0⟩ := hTM
      have hT1 := hT0.pure_ hp1
      have hSl : ∀ b, S b → b < wr.heap.size := fun b hb => (hT0.2.2.2.1 b hb).2.1
      have hgl : g < wr.heap.size := hT0.1.lt
      have hAl0 : ∀ b, (Value.slice Aw mw cw).ownBlock = some b → b < wr.heap.size := hT0.2.2.1.lt
      have hs1 : W1.heap.size = wr.heap.size + 1 := by rw [hW1]; simp
      have HW1 := hid hW1
      clear hT0 hW1
      have HOP := hid hop
      clear hop
      cases b0
      · cases opn
        · cases b1
          all_goals
            go_wp2_with fail
            rw [← HW1.out]
            have HOPN := HOP
            have hT1 : TMs w g gs nw 0 An nn cn now Aw mw cw was S M W1 := hT1
            have hx2 : RdI W1 (Old w) a m d ins := hx.pure_ hp1
            have hSp : ∀ b, S b → b ≠ wr.heap.size ∧ b < W1.heap.size := fun b hb => by have := hSl b hb; exact ⟨by omega, by omega⟩
            have hp12 := hp1.size
            have hR2 := hT1.2.1
            refine (step_any at0 mn0 a m d (.bool _) (.bool _) ins An nn cn now M W1 hR2 snn).mono ?_
            rintro e W3 ⟨AX, nx, cx, rfl, hX, hp3⟩
            obtain ⟨x, hxe⟩ : ∃ x, x = stepEd at0 mn0 now ins := ⟨_, rfl⟩
            obtain ⟨kk, hkk⟩ : ∃ kk, kk = stepAt at0 now.length := ⟨_, rfl⟩
            have hkkN : kk ≤ 1024 := by rw [hkk]; have := stepAt_le at0 now.length; omega
            have hxat : x.at_ = (kk : Int) := by rw [hxe, hkk]; rfl
            have hxi : x.ins = ins := by rw [hxe]; rfl
            have hxok : appOk now x := by rw [hxe]; exact step_ok _ _ _ _
            have hxn : x.del.length ≤ now.length := by rw [hxe]; exact step_del_le _ _ _ _
            have HXN := hid hxn
            have hxd : x.del.length ≤ 1024 := by omega
            rw [← hxe] at hX
            rw [← hkk]
            have hkkI : (kk : Int) ≤ 1024 := by omega
            have hXE : (⟨(kk : Int), x.del, ins⟩ : Ed) = x := by rw [← hxat, ← hxi]
            have HXE := hid hXE
            have HXI := hid hxi
            have HXA := hid hxat
            have hnxl := hX.len
            have HNX := hid hnxl
            have snx : small nx := by unfold small; omega
            clear hxe hkk hXE hxi hxat hnxl hxn
            go_wp2_with fail
            obtain ⟨W4, hW4⟩ : ∃ W4, W4 = W3.alloc (.cells #[.int .i64 (kk : Int), .slice AX nx cx, .slice a m d] 60) := ⟨_, rfl⟩
            rw [← hW4]
            have hp34 : Pure W3 W4 := by rw [hW4]; exact (Only.refl _ W3).alloc _
            have hbq4 : Blk W4 W3.heap.size 60 #[.int .i64 (kk : Int), .slice AX nx cx, .slice a m d] := by rw [hW4]; exact Blk.new _ _ _
            clear hW4
            have hp24 := hp3.trans hp34
            have hw4 : Pure wr W4 ∨ True := .inr trivial
            have hx4 : RdI W4 (Old w) a m d ins := hx2.pure_ hp24
            refine (apply_any An nn cn now M (kk : Int) AX nx cx x.del _ a m d ins (Old w) W4 (hR2.pure_ hp24) (hX.pure_ hp34) hx4 snn snx sm).mono ?_
            rintro e W5 ⟨A5, n5, c5, rfl, hR5, hp5⟩
            rw [HXE.out] at hR5
            rw [HXE.out]
            have hp25 := hp24.trans hp5
            have hT5 := hT1.pure_ hp25
            have hs24 := hp24.size
            have hs5 := hp5.size
            have hs34 := hp34.size
            have hs3 := hp3.size
            have hbp5 := hbx1.pure_ hp25
            rcases appCode_ok hxok with hc | hc
            · rw [hc]
              have hout : appOut now x = appRun now x := by unfold appOut; rw [if_pos hc]
              rw [hout] at hR5
              have d1 : W5.cell? ⟨W3.heap.size, 1, none⟩ = some (.slice AX nx cx) := (hbq4.pure_ hp5).cell 1
              have d2 : W5.cell? ⟨W3.heap.size, 2, none⟩ = some (.slice a m d) := (hbq4.pure_ hp5).cell 2
              have hlen5 := appRun_len hxok
              have hl5 := (appCode_zero.1 hc).2
              have HC := hid hc
              have hins : ins.length ≤ 1024 := by have h9 := HXN.out; rw [HXI.out] at hlen5; omega
              have hm1024 : (m : Int) ≤ 1024 := by rw [HMM.out] at hins; omega
              have hnx1024 : (nx : Int) ≤ 1024 := by rw [HNX.out] at hxd; omega
              clear hout hlen5 hins hc
              by_cases hz : nx = 0 ∧ m = 0
              · have hz1 : ¬ (0 : Int) < (nx : Int) + (m : Int) := by omega
                clear hz
                have f4 : W5.cell? ⟨wr.heap.size, 4, none⟩ = some (.bool _) := hbp5.cell 4
                go_wp2_with (go_at_call 50; refine (uend_any g _ _ _ _ W5 hT5.1 (by decide) (by decide)).mono ?_; rintro e WE ⟨rfl, hUE, hoE⟩)
                go_roundw
                case rel => first
                  | (have hTE : TMs w g (closeG (gs) (nw)) [] 0 _ _ _ _ _ _ _ _ _ _ WE := TMs.turn hT5 hUE hoE
                     exact ⟨k + 1, _, _, _, _, _, _, false, closeG (gs) (nw), [], _, _, by omega, by go_num, rfl, rfl, rfl, ⟨_, _, hTE⟩, by simpa [closeG] using hH, fun _ => rfl⟩)
                  | exact ⟨k + 1, _, _, _, _, _, _, _, _, _, _, _, by omega, by go_num, rfl, rfl, rfl, ⟨_, _, hT5⟩, hH, (fun _ => HOPN.out trivial)⟩
                case measure => simp [intOf] <;> omega
              · have hz1 : (0 : Int) < (nx : Int) + (m : Int) := by omega
                have hne : ¬ ((x.del = [] ∧ x.ins = []) ∨ x.at_ < 0) := by
                  rintro (⟨h1, h2⟩ | h1)
                  · have h3 := HNX.out; have h4 := HMM.out; rw [HXI.out] at h2; rw [h1] at h3; rw [h2] at h4; simp at h3 h4; omega
                  · rw [HXA.out] at h1; omega
                have HNE := hid hne
                have HZ := hid hz
                clear hne hz
                go_wp2_with fail
                refine (ulen_any g _ _ _ _ W5 hT5.1).mono ?_
                rintro e W6 ⟨rfl, q6, rfl⟩
                obtain ⟨L0, hL0⟩ : ∃ L0, L0 = gs.length + min 1 nw.length := ⟨_, rfl⟩
                rw [← hL0]
                have HL0 := hid hL0
                clear hL0
                have hp56 : Pure W5 (W5.drewN q6) := (Only.refl _ W5).drewN q6
                have hT6 := hT5.pure_ hp56
                have hX6 := ((hX.pure_ hp34).pure_ hp5).pure_ hp56
                have hx6 := (hx4.pure_ hp5).pure_ hp56
                have hq6 := (hbq4.pure_ hp5).pure_ hp56
                have hb6 := hbp5.pure_ hp56
                have hR6 := hR5.pure_ hp56
                have d0' : (W5.drewN q6).cell? ⟨W3.heap.size, 0, none⟩ = some (.int .i64 (kk : Int)) := hq6.cell 0
                have d1' : (W5.drewN q6).cell? ⟨W3.heap.size, 1, none⟩ = some (.slice AX nx cx) := hq6.cell 1
                have d2' : (W5.drewN q6).cell? ⟨W3.heap.size, 2, none⟩ = some (.slice a m d) := hq6.cell 2
                clear d1 d2
                go_wp2_with fail
                have hgW1 : g < W1.heap.size := hT1.1.lt
                refine (uadd_any g _ _ _ _ (kk : Int) AX nx cx x.del a m d ins _ (Old w) _ hT6.1 hX6 hx6 snx sm (fun h => by have h9 : W1.heap.size ≤ g := h; omega) (fun h => by have h9 : g < w.heap.size := h; have := hT1.2.2.2.2.2.2.1; omega)).mono ?_
                rintro e W7 h
                rw [HXE.out] at h
                clear d0' d1' d2'
                by_cases hfull : 16384 ≤ tot gs nw
                · have hac : addCode x (tot gs nw) = 3 := by unfold addCode; rw [if_neg HNE.out, if_pos hfull]
                  obtain ⟨rfl, hU7, ho7⟩ := h.full hac
                  have hT7 := hT6.turn hU7 ho7
                  have hfI : (16384 : Int) ≤ (tot gs nw : Nat) := by omega
                  clear h hac hfull
                  go_wp2_with (go_at_call 49; refine (uedits_any g _ _ _ _ W7 hU7).mono ?_; rintro e w' ⟨rfl, rfl⟩)
                  go_ret
                  refine ⟨?_, hT7.2.2.2.2.2.2.2⟩
                  rw [← decide_eq_true hfI]; rfl
                · have hac : addCode x (tot gs nw) = 0 := by unfold addCode; rw [if_neg HNE.out, if_neg hfull]
                  obtain ⟨rfl, hU7, ho7⟩ := h.ok hac
                  have hT7 := hT6.turn hU7 ho7
                  clear h hac hfull
                  have hs67 := ho7.size
                  have hb7 := hb6.only ho7 (by
                    rintro (h | h)
                    · exact (hSp _ h).1 rfl
                    · omega)
                  have hR7 := RdI.mono (RdI.only (RdI.mono hR6 (S' := fun b => W4.heap.size ≤ b ∧ b < W5.heap.size) fun b hb h => ⟨h, hb⟩) ho7 (fun b hb _ e => by
                    rcases e with e | e
                    · have := (hSp b e).2; have := hb.1; omega
                    · have := hb.1; omega)) (S' := fun b => M b ∨ (W4.heap.size ≤ b ∧ b < W5.heap.size)) fun b _ hb => .inr hb
                  obtain ⟨gs1, hgs1⟩ : ∃ gs1, gs1 = addG gs 0 x := ⟨_, rfl⟩
                  obtain ⟨nw1, hnw1⟩ : ∃ nw1, nw1 = addN nw 0 x := ⟨_, rfl⟩
                  have hca : (nw = [] ∧ closeG (addG gs 0 x) (addN nw 0 x) = closeG gs nw ++ [[x]]) ∨ (nw ≠ [] ∧ false = true ∧ closeG gs nw = gs ++ [nw] ∧ closeG (addG gs 0 x) (addN nw 0 x) = gs ++ [nw ++ [x]]) := close_add gs nw false x (fun _ => HOPN.out trivial)
                  rw [← hgs1, ← hnw1] at hca
                  rw [← hgs1, ← hnw1] at hT7
                  have hU7' := hT7.1
                  have hop1 : false = false → addN nw 0 x = [] := add_open gs nw false x (fun _ => HOPN.out trivial)
                  rw [← hnw1] at hop1
                  go_wp2_with fail
                  refine (ulen_any g _ _ _ _ W7 hU7').mono ?_
                  rintro e W8 ⟨rfl, q8, rfl⟩
                  obtain ⟨L1, hL1⟩ : ∃ L1, L1 = gs1.length + min 1 nw1.length := ⟨_, rfl⟩
                  rw [← hL1]
                  have hp78 : Pure W7 (W7.drewN q8) := (Only.refl _ W7).drewN q8
                  have hT8 := hT7.pure_ hp78
                  have hR8 := hR7.pure_ hp78
                  have hb8 := hb7.pure_ hp78
                  have hMl : ∀ b, M b → b < W1.heap.size ∧ (Value.slice Aw mw cw).ownBlock ≠ some b := fun b hb => ⟨hT1.2.2.1.2.choose_spec.2.2.2 b hb, hT1.2.2.1.2.choose_spec.2.2.1 b hb⟩
                  have hAl : ∀ b, (Value.slice Aw mw cw).ownBlock = some b → b < W1.heap.size := hT1.2.2.1.lt
                  have hnew : ∀ S7 : Nat → Prop, (∀ b, S7 b → ¬ M b ∧ (b < W1.heap.size ∨ W5.heap.size ≤ b)) → ∀ b, S7 b → ¬ (M b ∨ (W4.heap.size ≤ b ∧ b < W5.heap.size)) := fun S7 h7 b hb h => by
                    rcases h with h | h
                    · exact (h7 b hb).1 h
                    · rcases (h7 b hb).2 with h9 | h9 <;> omega
                  have hS7 : ∀ b, (Plus _ (W5.drewN q6).heap.size b ∧ b < W7.heap.size) → ¬ M b ∧ (b < W1.heap.size ∨ W5.heap.size ≤ b) := fun b hb => ⟨(hT7.2.2.2.1 b hb).2.2.1, by
                    rcases hb.1 with h | h
                    · exact .inl (hSp b h).2
                    · exact .inr (by simpa using h)⟩
                  have hs7w : W5.heap.size ≤ W7.heap.size := hs67
                  have hsd8 : (W7.drewN q8).heap.size = W7.heap.size := rfl
                  have hT8n := hT8.line hR8 (fun b hb => .inl hb) (fun b hb => by rcases hb with hb | hb; have := (hMl b hb).1; omega; omega) (hnew _ hS7) (fun h => by rcases h with h | h; exact hT1.2.2.2.2.1 h; omega) (fun b hb e => by rcases hb with hb | hb; exact (hMl b hb).2 e; have := hAl b e; omega)
                  rcases hca with ⟨hnw, hcl⟩ | ⟨hnw, hopt, hcl0, hcl⟩
                  · have hlt01 : (L0 : Int) < (L1 : Int) := by
                      have h1 := close_len gs nw; have h2 := close_len gs1 nw1; have h3 := HL0.out
                      rw [hcl] at h2; simp at h2; omega
                    have hHn := hH.next (e := x) HC.out
                    rw [← hcl] at hHn
                    have hT8w := hT8.2.2.1
                    obtain ⟨hwl, vs, hown, hes, _⟩ := hT8w
                    have HWL := hid hwl
                    have HHN := hid hHn
                    clear hgs1 hnw1 hL1 hcl hwl hHn
                    go_wp2_with (at_builtin; refine halt_ ?_)
                    intro _
                    refine appendL (.tmp 83) (.tmp 85) rfl rfl w.heap.size (.slice Aw mw cw) mw vs rfl (own_only hown ((Only.refl (fun _ => False) _).alloc _) fun _ _ x => x) _ (some ⟨W7.heap.size, 0, none⟩) 1 1 [.slice An nn cn] (by rfl) (by simpa using Rd.one (W7.drewN q8) (.slice An nn cn) 22) (by simp [Value.oneCell']) (by unfold maxLen; omega) (by omega) (by have h9 := hT8.2.2.2.2.2.2.2.size; simp at h9 ⊢; omega) ?_
                    intro A9 c9 W9 ho9 hp9 hat9
                    have hTw := hT8.was_ HWL.out hown hes ho9 hp9 hat9
                    have hq9 : Only (fun b => (Value.slice Aw mw cw).ownBlock = some b) (W7.drewN q8) W9 := ((Only.refl _ _).alloc _).then_ hp9 (fun i _ e => e)
                    have hb9 := hb8.only hq9 (fun e => by have := hAl0 _ e; omega)
                    have f4 := hb9.cell 4
                    have hs9 := hq9.size
                    have hT9 := hTw.line (RdI.only hR8 hq9 (fun b hb _ e => by
                      rcases hb with hb | hb
                      · exact (hMl b hb).2 e
                      · have := hAl b e; omega)) (fun b hb => .inl hb) (fun b hb => by
                      rcases hb with hb | hb
                      · have := (hMl b hb).1; omega
                      · omega) (hnew _ hS7) (fun h => by
                      rcases h with h | h
                      · exact hT1.2.2.2.2.1 h
                      · omega) (fun b hb e => by
                      have hbl : b < W5.heap.size := by
                        rcases hb with hb | hb
                        · have := (hMl b hb).1; omega
                        · omega
                      rcases hat9 with h | h
                      · rw [h] at e
                        rcases hb with hb | hb
                        · exact (hMl b hb).2 e
                        · have := hAl b e; omega
                      · rw [h] at e; injection e with e; simp at e; omega)
                    go_wp2_with (go_at_call 50; refine (uend_any g _ _ _ _ W9 hT9.1 (by decide) (by decide)).mono ?_; rintro e WE ⟨rfl, hUE, hoE⟩)
                    go_roundw
                    case rel => first
                      | (have hTE : TMs w g (closeG (gs1) (nw1)) [] 0 _ _ _ _ _ _ _ _ _ _ WE := TMs.turn hT9 hUE hoE
                         exact ⟨k + 1, _, _, _, _, _, _, false, closeG (gs1) (nw1), [], _, _, by omega, by go_num, rfl, rfl, rfl, ⟨_, _, hTE⟩, by simpa [closeG] using HHN.out, fun _ => rfl⟩)
                      | exact ⟨k + 1, _, _, _, _, _, _, _, _, _, _, _, by omega, by go_num, rfl, rfl, rfl, ⟨_, _, hT9⟩, HHN.out, (fun _ => hop1 trivial)⟩
                    case measure => simp [intOf] <;> omega
                  · cases hopt
            · rw [hc]
              clear hc
              have f4 : W5.cell? ⟨wr.heap.size, 4, none⟩ = some (.bool _) := hbp5.cell 4
              go_wp2_with (go_at_call 50; refine (uend_any g _ _ _ _ W5 hT5.1 (by decide) (by decide)).mono ?_; rintro e WE ⟨rfl, hUE, hoE⟩)
              go_roundw
              case rel => first
                | (have hTE : TMs w g (closeG (gs) (nw)) [] 0 _ _ _ _ _ _ _ _ _ _ WE := TMs.turn hT5 hUE hoE
                   exact ⟨k + 1, _, _, _, _, _, _, false, closeG (gs) (nw), [], _, _, by omega, by go_num, rfl, rfl, rfl, ⟨_, _, hTE⟩, by simpa [closeG] using hH, fun _ => rfl⟩)
                | exact ⟨k + 1, _, _, _, _, _, _, _, _, _, _, _, by omega, by go_num, rfl, rfl, rfl, ⟨_, _, hT5⟩, hH, (fun _ => HOPN.out trivial)⟩
              case measure => simp [intOf] <;> omega
        · cases b1
          all_goals
            go_wp2_with fail
            rw [← HW1.out]
            have HOPN := HOP
            have hT1 : TMs w g gs nw 1 An nn cn now Aw mw cw was S M W1 := hT1
            have hx2 : RdI W1 (Old w) a m d ins := hx.pure_ hp1
            have hSp : ∀ b, S b → b ≠ wr.heap.size ∧ b < W1.heap.size := fun b hb => by have := hSl b hb; exact ⟨by omega, by omega⟩
            have hp12 := hp1.size
            have hR2 := hT1.2.1
            refine (step_any at0 mn0 a m d (.bool _) (.bool _) ins An nn cn now M W1 hR2 snn).mono ?_
            rintro e W3 ⟨AX, nx, cx, rfl, hX, hp3⟩
            obtain ⟨x, hxe⟩ : ∃ x, x = stepEd at0 mn0 now ins := ⟨_, rfl⟩
            obtain ⟨kk, hkk⟩ : ∃ kk, kk = stepAt at0 now.length := ⟨_, rfl⟩
            have hkkN : kk ≤ 1024 := by rw [hkk]; have := stepAt_le at0 now.length; omega
            have hxat : x.at_ = (kk : Int) := by rw [hxe, hkk]; rfl
            have hxi : x.ins = ins := by rw [hxe]; rfl
            have hxok : appOk now x := by rw [hxe]; exact step_ok _ _ _ _
            have hxn : x.del.length ≤ now.length := by rw [hxe]; exact step_del_le _ _ _ _
            have HXN := hid hxn
            have hxd : x.del.length ≤ 1024 := by omega
            rw [← hxe] at hX
            rw [← hkk]
            have hkkI : (kk : Int) ≤ 1024 := by omega
            have hXE : (⟨(kk : Int), x.del, ins⟩ : Ed) = x := by rw [← hxat, ← hxi]
            have HXE := hid hXE
            have HXI := hid hxi
            have HXA := hid hxat
            have hnxl := hX.len
            have HNX := hid hnxl
            have snx : small nx := by unfold small; omega
            clear hxe hkk hXE hxi hxat hnxl hxn
            go_wp2_with fail
            obtain ⟨W4, hW4⟩ : ∃ W4, W4 = W3.alloc (.cells #[.int .i64 (kk : Int), .slice AX nx cx, .slice a m d] 60) := ⟨_, rfl⟩
            rw [← hW4]
            have hp34 : Pure W3 W4 := by rw [hW4]; exact (Only.refl _ W3).alloc _
            have hbq4 : Blk W4 W3.heap.size 60 #[.int .i64 (kk : Int), .slice AX nx cx, .slice a m d] := by rw [hW4]; exact Blk.new _ _ _
            clear hW4
            have hp24 := hp3.trans hp34
            have hw4 : Pure wr W4 ∨ True := .inr trivial
            have hx4 : RdI W4 (Old w) a m d ins := hx2.pure_ hp24
            refine (apply_any An nn cn now M (kk : Int) AX nx cx x.del _ a m d ins (Old w) W4 (hR2.pure_ hp24) (hX.pure_ hp34) hx4 snn snx sm).mono ?_
            rintro e W5 ⟨A5, n5, c5, rfl, hR5, hp5⟩
            rw [HXE.out] at hR5
            rw [HXE.out]
            have hp25 := hp24.trans hp5
            have hT5 := hT1.pure_ hp25
            have hs24 := hp24.size
            have hs5 := hp5.size
            have hs34 := hp34.size
            have hs3 := hp3.size
            have hbp5 := hbx1.pure_ hp25
            rcases appCode_ok hxok with hc | hc
            · rw [hc]
              have hout : appOut now x = appRun now x := by unfold appOut; rw [if_pos hc]
              rw [hout] at hR5
              have d1 : W5.cell? ⟨W3.heap.size, 1, none⟩ = some (.slice AX nx cx) := (hbq4.pure_ hp5).cell 1
              have d2 : W5.cell? ⟨W3.heap.size, 2, none⟩ = some (.slice a m d) := (hbq4.pure_ hp5).cell 2
              have hlen5 := appRun_len hxok
              have hl5 := (appCode_zero.1 hc).2
              have HC := hid hc
              have hins : ins.length ≤ 1024 := by have h9 := HXN.out; rw [HXI.out] at hlen5; omega
              have hm1024 : (m : Int) ≤ 1024 := by rw [HMM.out] at hins; omega
              have hnx1024 : (nx : Int) ≤ 1024 := by rw [HNX.out] at hxd; omega
              clear hout hlen5 hins hc
              by_cases hz : nx = 0 ∧ m = 0
              · have hz1 : ¬ (0 : Int) < (nx : Int) + (m : Int) := by omega
                clear hz
                have f4 : W5.cell? ⟨wr.heap.size, 4, none⟩ = some (.bool _) := hbp5.cell 4
                go_wp2_with (go_at_call 50; refine (uend_any g _ _ _ _ W5 hT5.1 (by decide) (by decide)).mono ?_; rintro e WE ⟨rfl, hUE, hoE⟩)
                go_roundw
                case rel => first
                  | (have hTE : TMs w g (closeG (gs) (nw)) [] 0 _ _ _ _ _ _ _ _ _ _ WE := TMs.turn hT5 hUE hoE
                     exact ⟨k + 1, _, _, _, _, _, _, false, closeG (gs) (nw), [], _, _, by omega, by go_num, rfl, rfl, rfl, ⟨_, _, hTE⟩, by simpa [closeG] using hH, fun _ => rfl⟩)
                  | exact ⟨k + 1, _, _, _, _, _, _, _, _, _, _, _, by omega, by go_num, rfl, rfl, rfl, ⟨_, _, hT5⟩, hH, (fun h => by cases h)⟩
                case measure => simp [intOf] <;> omega
              · have hz1 : (0 : Int) < (nx : Int) + (m : Int) := by omega
                have hne : ¬ ((x.del = [] ∧ x.ins = []) ∨ x.at_ < 0) := by
                  rintro (⟨h1, h2⟩ | h1)
                  · have h3 := HNX.out; have h4 := HMM.out; rw [HXI.out] at h2; rw [h1] at h3; rw [h2] at h4; simp at h3 h4; omega
                  · rw [HXA.out] at h1; omega
                have HNE := hid hne
                have HZ := hid hz
                clear hne hz
                go_wp2_with fail
                refine (ulen_any g _ _ _ _ W5 hT5.1).mono ?_
                rintro e W6 ⟨rfl, q6, rfl⟩
                obtain ⟨L0, hL0⟩ : ∃ L0, L0 = gs.length + min 1 nw.length := ⟨_, rfl⟩
                rw [← hL0]
                have HL0 := hid hL0
                clear hL0
                have hp56 : Pure W5 (W5.drewN q6) := (Only.refl _ W5).drewN q6
                have hT6 := hT5.pure_ hp56
                have hX6 := ((hX.pure_ hp34).pure_ hp5).pure_ hp56
                have hx6 := (hx4.pure_ hp5).pure_ hp56
                have hq6 := (hbq4.pure_ hp5).pure_ hp56
                have hb6 := hbp5.pure_ hp56
                have hR6 := hR5.pure_ hp56
                have d0' : (W5.drewN q6).cell? ⟨W3.heap.size, 0, none⟩ = some (.int .i64 (kk : Int)) := hq6.cell 0
                have d1' : (W5.drewN q6).cell? ⟨W3.heap.size, 1, none⟩ = some (.slice AX nx cx) := hq6.cell 1
                have d2' : (W5.drewN q6).cell? ⟨W3.heap.size, 2, none⟩ = some (.slice a m d) := hq6.cell 2
                clear d1 d2
                go_wp2_with fail
                have hgW1 : g < W1.heap.size := hT1.1.lt
                refine (uadd_any g _ _ _ _ (kk : Int) AX nx cx x.del a m d ins _ (Old w) _ hT6.1 hX6 hx6 snx sm (fun h => by have h9 : W1.heap.size ≤ g := h; omega) (fun h => by have h9 : g < w.heap.size := h; have := hT1.2.2.2.2.2.2.1; omega)).mono ?_
                rintro e W7 h
                rw [HXE.out] at h
                clear d0' d1' d2'
                by_cases hfull : 16384 ≤ tot gs nw
                · have hac : addCode x (tot gs nw) = 3 := by unfold addCode; rw [if_neg HNE.out, if_pos hfull]
                  obtain ⟨rfl, hU7, ho7⟩ := h.full hac
                  have hT7 := hT6.turn hU7 ho7
                  have hfI : (16384 : Int) ≤ (tot gs nw : Nat) := by omega
                  clear h hac hfull
                  go_wp2_with (go_at_call 49; refine (uedits_any g _ _ _ _ W7 hU7).mono ?_; rintro e w' ⟨rfl, rfl⟩)
                  go_ret
                  refine ⟨?_, hT7.2.2.2.2.2.2.2⟩
                  rw [← decide_eq_true hfI]; rfl
                · have hac : addCode x (tot gs nw) = 0 := by unfold addCode; rw [if_neg HNE.out, if_neg hfull]
                  obtain ⟨rfl, hU7, ho7⟩ := h.ok hac
                  have hT7 := hT6.turn hU7 ho7
                  clear h hac hfull
                  have hs67 := ho7.size
                  have hb7 := hb6.only ho7 (by
                    rintro (h | h)
                    · exact (hSp _ h).1 rfl
                    · omega)
                  have hR7 := RdI.mono (RdI.only (RdI.mono hR6 (S' := fun b => W4.heap.size ≤ b ∧ b < W5.heap.size) fun b hb h => ⟨h, hb⟩) ho7 (fun b hb _ e => by
                    rcases e with e | e
                    · have := (hSp b e).2; have := hb.1; omega
                    · have := hb.1; omega)) (S' := fun b => M b ∨ (W4.heap.size ≤ b ∧ b < W5.heap.size)) fun b _ hb => .inr hb
                  obtain ⟨gs1, hgs1⟩ : ∃ gs1, gs1 = addG gs 1 x := ⟨_, rfl⟩
                  obtain ⟨nw1, hnw1⟩ : ∃ nw1, nw1 = addN nw 1 x := ⟨_, rfl⟩
                  have hca : (nw = [] ∧ closeG (addG gs 1 x) (addN nw 1 x) = closeG gs nw ++ [[x]]) ∨ (nw ≠ [] ∧ true = true ∧ closeG gs nw = gs ++ [nw] ∧ closeG (addG gs 1 x) (addN nw 1 x) = gs ++ [nw ++ [x]]) := close_add gs nw true x (fun h => by cases h)
                  rw [← hgs1, ← hnw1] at hca
                  rw [← hgs1, ← hnw1] at hT7
                  have hU7' := hT7.1
                  have hop1 : true = false → addN nw 1 x = [] := add_open gs nw true x (fun h => by cases h)
                  rw [← hnw1] at hop1
                  go_wp2_with fail
                  refine (ulen_any g _ _ _ _ W7 hU7').mono ?_
                  rintro e W8 ⟨rfl, q8, rfl⟩
                  obtain ⟨L1, hL1⟩ : ∃ L1, L1 = gs1.length + min 1 nw1.length := ⟨_, rfl⟩
                  rw [← hL1]
                  have hp78 : Pure W7 (W7.drewN q8) := (Only.refl _ W7).drewN q8
                  have hT8 := hT7.pure_ hp78
                  have hR8 := hR7.pure_ hp78
                  have hb8 := hb7.pure_ hp78
                  have hMl : ∀ b, M b → b < W1.heap.size ∧ (Value.slice Aw mw cw).ownBlock ≠ some b := fun b hb => ⟨hT1.2.2.1.2.choose_spec.2.2.2 b hb, hT1.2.2.1.2.choose_spec.2.2.1 b hb⟩
                  have hAl : ∀ b, (Value.slice Aw mw cw).ownBlock = some b → b < W1.heap.size := hT1.2.2.1.lt
                  have hnew : ∀ S7 : Nat → Prop, (∀ b, S7 b → ¬ M b ∧ (b < W1.heap.size ∨ W5.heap.size ≤ b)) → ∀ b, S7 b → ¬ (M b ∨ (W4.heap.size ≤ b ∧ b < W5.heap.size)) := fun S7 h7 b hb h => by
                    rcases h with h | h
                    · exact (h7 b hb).1 h
                    · rcases (h7 b hb).2 with h9 | h9 <;> omega
                  have hS7 : ∀ b, (Plus _ (W5.drewN q6).heap.size b ∧ b < W7.heap.size) → ¬ M b ∧ (b < W1.heap.size ∨ W5.heap.size ≤ b) := fun b hb => ⟨(hT7.2.2.2.1 b hb).2.2.1, by
                    rcases hb.1 with h | h
                    · exact .inl (hSp b h).2
                    · exact .inr (by simpa using h)⟩
                  have hs7w : W5.heap.size ≤ W7.heap.size := hs67
                  have hsd8 : (W7.drewN q8).heap.size = W7.heap.size := rfl
                  have hT8n := hT8.line hR8 (fun b hb => .inl hb) (fun b hb => by rcases hb with hb | hb; have := (hMl b hb).1; omega; omega) (hnew _ hS7) (fun h => by rcases h with h | h; exact hT1.2.2.2.2.1 h; omega) (fun b hb e => by rcases hb with hb | hb; exact (hMl b hb).2 e; have := hAl b e; omega)
                  rcases hca with ⟨hnw, hcl⟩ | ⟨hnw, hopt, hcl0, hcl⟩
                  · have hlt01 : (L0 : Int) < (L1 : Int) := by
                      have h1 := close_len gs nw; have h2 := close_len gs1 nw1; have h3 := HL0.out
                      rw [hcl] at h2; simp at h2; omega
                    have hHn := hH.next (e := x) HC.out
                    rw [← hcl] at hHn
                    have hT8w := hT8.2.2.1
                    obtain ⟨hwl, vs, hown, hes, _⟩ := hT8w
                    have HWL := hid hwl
                    have HHN := hid hHn
                    clear hgs1 hnw1 hL1 hcl hwl hHn
                    go_wp2_with (at_builtin; refine halt_ ?_)
                    intro _
                    refine appendL (.tmp 83) (.tmp 85) rfl rfl w.heap.size (.slice Aw mw cw) mw vs rfl (own_only hown ((Only.refl (fun _ => False) _).alloc _) fun _ _ x => x) _ (some ⟨W7.heap.size, 0, none⟩) 1 1 [.slice An nn cn] (by rfl) (by simpa using Rd.one (W7.drewN q8) (.slice An nn cn) 22) (by simp [Value.oneCell']) (by unfold maxLen; omega) (by omega) (by have h9 := hT8.2.2.2.2.2.2.2.size; simp at h9 ⊢; omega) ?_
                    intro A9 c9 W9 ho9 hp9 hat9
                    have hTw := hT8.was_ HWL.out hown hes ho9 hp9 hat9
                    have hq9 : Only (fun b => (Value.slice Aw mw cw).ownBlock = some b) (W7.drewN q8) W9 := ((Only.refl _ _).alloc _).then_ hp9 (fun i _ e => e)
                    have hb9 := hb8.only hq9 (fun e => by have := hAl0 _ e; omega)
                    have f4 := hb9.cell 4
                    have hs9 := hq9.size
                    have hT9 := hTw.line (RdI.only hR8 hq9 (fun b hb _ e => by
                      rcases hb with hb | hb
                      · exact (hMl b hb).2 e
                      · have := hAl b e; omega)) (fun b hb => .inl hb) (fun b hb => by
                      rcases hb with hb | hb
                      · have := (hMl b hb).1; omega
                      · omega) (hnew _ hS7) (fun h => by
                      rcases h with h | h
                      · exact hT1.2.2.2.2.1 h
                      · omega) (fun b hb e => by
                      have hbl : b < W5.heap.size := by
                        rcases hb with hb | hb
                        · have := (hMl b hb).1; omega
                        · omega
                      rcases hat9 with h | h
                      · rw [h] at e
                        rcases hb with hb | hb
                        · exact (hMl b hb).2 e
                        · have := hAl b e; omega
                      · rw [h] at e; injection e with e; simp at e; omega)
                    go_wp2_with (go_at_call 50; refine (uend_any g _ _ _ _ W9 hT9.1 (by decide) (by decide)).mono ?_; rintro e WE ⟨rfl, hUE, hoE⟩)
                    go_roundw
                    case rel => first
                      | (have hTE : TMs w g (closeG (gs1) (nw1)) [] 0 _ _ _ _ _ _ _ _ _ _ WE := TMs.turn hT9 hUE hoE
                         exact ⟨k + 1, _, _, _, _, _, _, false, closeG (gs1) (nw1), [], _, _, by omega, by go_num, rfl, rfl, rfl, ⟨_, _, hTE⟩, by simpa [closeG] using HHN.out, fun _ => rfl⟩)
                      | exact ⟨k + 1, _, _, _, _, _, _, _, _, _, _, _, by omega, by go_num, rfl, rfl, rfl, ⟨_, _, hT9⟩, HHN.out, (fun h => by cases h)⟩
                    case measure => simp [intOf] <;> omega
                  · have hlt01 : ¬ (L0 : Int) < (L1 : Int) := by
                      have h1 := close_len gs nw; have h2 := close_len gs1 nw1; have h3 := HL0.out
                      rw [hcl] at h2; rw [hcl0] at h1; simp at h1 h2; omega
                    have hHn : Hist line (closeG gs1 nw1) was (appRun now x) := by
                      rw [hcl]; rw [hcl0] at hH; exact hH.more HC.out
                    have HHN := hid hHn
                    clear hgs1 hnw1 hL1 hcl hcl0 hHn hnw
                    have f4 : (W7.drewN q8).cell? ⟨wr.heap.size, 4, none⟩ = some (.bool _) := hb8.cell 4
                    go_wp2_with (go_at_call 50; refine (uend_any g _ _ _ _ (W7.drewN q8) hT8n.1 (by decide) (by decide)).mono ?_; rintro e WE ⟨rfl, hUE, hoE⟩)
                    go_roundw
                    case rel => first
                      | (have hTE : TMs w g (closeG (gs1) (nw1)) [] 0 _ _ _ _ _ _ _ _ _ _ WE := TMs.turn hT8n hUE hoE
                         exact ⟨k + 1, _, _, _, _, _, _, false, closeG (gs1) (nw1), [], _, _, by omega, by go_num, rfl, rfl, rfl, ⟨_, _, hTE⟩, by simpa [closeG] using HHN.out, fun _ => rfl⟩)
                      | exact ⟨k + 1, _, _, _, _, _, _, _, _, _, _, _, by omega, by go_num, rfl, rfl, rfl, ⟨_, _, hT8n⟩, HHN.out, (fun h => by cases h)⟩
                    case measure => simp [intOf] <;> omega
            · rw [hc]
              clear hc
              have f4 : W5.cell? ⟨wr.heap.size, 4, none⟩ = some (.bool _) := hbp5.cell 4
              go_wp2_with (go_at_call 50; refine (uend_any g _ _ _ _ W5 hT5.1 (by decide) (by decide)).mono ?_; rintro e WE ⟨rfl, hUE, hoE⟩)
              go_roundw
              case rel => first
                | (have hTE : TMs w g (closeG (gs) (nw)) [] 0 _ _ _ _ _ _ _ _ _ _ WE := TMs.turn hT5 hUE hoE
                   exact ⟨k + 1, _, _, _, _, _, _, false, closeG (gs) (nw), [], _, _, by omega, by go_num, rfl, rfl, rfl, ⟨_, _, hTE⟩, by simpa [closeG] using hH, fun _ => rfl⟩)
                | exact ⟨k + 1, _, _, _, _, _, _, _, _, _, _, _, by omega, by go_num, rfl, rfl, rfl, ⟨_, _, hT5⟩, hH, (fun h => by cases h)⟩
              case measure => simp [intOf] <;> omega
      · cases opn
        · cases b1
          all_goals
            go_wp2_with fail
            rw [← HW1.out]
            refine (ubegin_any g S gs nw _ W1 hT1.1 (by decide) (by decide)).mono ?_
            rintro e W2 ⟨rfl, hU2, ho2⟩
            have hT2 : TMs w g gs nw 1 An nn cn now Aw mw cw was _ M W2 := hT1.turn hU2 ho2
            have HOPN : Hid (true = false → nw = []) := hid fun h => by cases h
            have hs2 := ho2.size
            have hbx2 := hbx1.only ho2 (by
              rintro (h | h)
              · have := hSl _ h; omega
              · omega)
            have hx2 : RdI W2 (Old w) a m d ins := RdI.only (hx.pure_ hp1) ho2 fun b hb _ e => by
              have h9 : b < w.heap.size := hb
              rcases e with e | e
              · have := (hT1.2.2.2.1 b e).1; omega
              · have := hT1.2.2.2.2.2.2.1; omega
            have hSp : ∀ b, (Plus S W1.heap.size b ∧ b < W2.heap.size) → b ≠ wr.heap.size ∧ b < W2.heap.size := fun b hb => ⟨by
              rcases hb.1 with h | h
              · have := hSl b h; omega
              · omega, hb.2⟩
            have s0 : W2.cell? ⟨wr.heap.size, 0, none⟩ = some (.int .i64 at0) := hbx2.cell 0
            have s1 : W2.cell? ⟨wr.heap.size, 1, none⟩ = some (.int .i64 mn0) := hbx2.cell 1
            have s2 : W2.cell? ⟨wr.heap.size, 2, none⟩ = some (.slice a m d) := hbx2.cell 2
            have s3 : W2.cell? ⟨wr.heap.size, 3, none⟩ = some (.bool true) := hbx2.cell 3
            have s4 : W2.cell? ⟨wr.heap.size, 4, none⟩ = some (.bool _) := hbx2.cell 4
            go_wp2_with fail
            have hR2 := hT2.2.1
            refine (step_any at0 mn0 a m d (.bool _) (.bool _) ins An nn cn now M W2 hR2 snn).mono ?_
            rintro e W3 ⟨AX, nx, cx, rfl, hX, hp3⟩
            obtain ⟨x, hxe⟩ : ∃ x, x = stepEd at0 mn0 now ins := ⟨_, rfl⟩
            obtain ⟨kk, hkk⟩ : ∃ kk, kk = stepAt at0 now.length := ⟨_, rfl⟩
            have hkkN : kk ≤ 1024 := by rw [hkk]; have := stepAt_le at0 now.length; omega
            have hxat : x.at_ = (kk : Int) := by rw [hxe, hkk]; rfl
            have hxi : x.ins = ins := by rw [hxe]; rfl
            have hxok : appOk now x := by rw [hxe]; exact step_ok _ _ _ _
            have hxn : x.del.length ≤ now.length := by rw [hxe]; exact step_del_le _ _ _ _
            have HXN := hid hxn
            have hxd : x.del.length ≤ 1024 := by omega
            rw [← hxe] at hX
            rw [← hkk]
            have hkkI : (kk : Int) ≤ 1024 := by omega
            have hXE : (⟨(kk : Int), x.del, ins⟩ : Ed) = x := by rw [← hxat, ← hxi]
            have HXE := hid hXE
            have HXI := hid hxi
            have HXA := hid hxat
            have hnxl := hX.len
            have HNX := hid hnxl
            have snx : small nx := by unfold small; omega
            clear hxe hkk hXE hxi hxat hnxl hxn
            go_wp2_with fail
            obtain ⟨W4, hW4⟩ : ∃ W4, W4 = W3.alloc (.cells #[.int .i64 (kk : Int), .slice AX nx cx, .slice a m d] 60) := ⟨_, rfl⟩
            rw [← hW4]
            have hp34 : Pure W3 W4 := by rw [hW4]; exact (Only.refl _ W3).alloc _
            have hbq4 : Blk W4 W3.heap.size 60 #[.int .i64 (kk : Int), .slice AX nx cx, .slice a m d] := by rw [hW4]; exact Blk.new _ _ _
            clear hW4
            have hp24 := hp3.trans hp34
            have hw4 : Pure wr W4 ∨ True := .inr trivial
            have hx4 : RdI W4 (Old w) a m d ins := hx2.pure_ hp24
            refine (apply_any An nn cn now M (kk : Int) AX nx cx x.del _ a m d ins (Old w) W4 (hR2.pure_ hp24) (hX.pure_ hp34) hx4 snn snx sm).mono ?_
            rintro e W5 ⟨A5, n5, c5, rfl, hR5, hp5⟩
            rw [HXE.out] at hR5
            rw [HXE.out]
            have hp25 := hp24.trans hp5
            have hT5 := hT2.pure_ hp25
            have hs24 := hp24.size
            have hs5 := hp5.size
            have hs34 := hp34.size
            have hs3 := hp3.size
            have hbp5 := hbx2.pure_ hp25
            rcases appCode_ok hxok with hc | hc
            · rw [hc]
              have hout : appOut now x = appRun now x := by unfold appOut; rw [if_pos hc]
              rw [hout] at hR5
              have d1 : W5.cell? ⟨W3.heap.size, 1, none⟩ = some (.slice AX nx cx) := (hbq4.pure_ hp5).cell 1
              have d2 : W5.cell? ⟨W3.heap.size, 2, none⟩ = some (.slice a m d) := (hbq4.pure_ hp5).cell 2
              have hlen5 := appRun_len hxok
              have hl5 := (appCode_zero.1 hc).2
              have HC := hid hc
              have hins : ins.length ≤ 1024 := by have h9 := HXN.out; rw [HXI.out] at hlen5; omega
              have hm1024 : (m : Int) ≤ 1024 := by rw [HMM.out] at hins; omega
              have hnx1024 : (nx : Int) ≤ 1024 := by rw [HNX.out] at hxd; omega
              clear hout hlen5 hins hc
              by_cases hz : nx = 0 ∧ m = 0
              · have hz1 : ¬ (0 : Int) < (nx : Int) + (m : Int) := by omega
                clear hz
                have f4 : W5.cell? ⟨wr.heap.size, 4, none⟩ = some (.bool _) := hbp5.cell 4
                go_wp2_with (go_at_call 50; refine (uend_any g _ _ _ _ W5 hT5.1 (by decide) (by decide)).mono ?_; rintro e WE ⟨rfl, hUE, hoE⟩)
                go_roundw
                case rel => first
                  | (have hTE : TMs w g (closeG (gs) (nw)) [] 0 _ _ _ _ _ _ _ _ _ _ WE := TMs.turn hT5 hUE hoE
                     exact ⟨k + 1, _, _, _, _, _, _, false, closeG (gs) (nw), [], _, _, by omega, by go_num, rfl, rfl, rfl, ⟨_, _, hTE⟩, by simpa [closeG] using hH, fun _ => rfl⟩)
                  | exact ⟨k + 1, _, _, _, _, _, _, _, _, _, _, _, by omega, by go_num, rfl, rfl, rfl, ⟨_, _, hT5⟩, hH, (fun h => by cases h)⟩
                case measure => simp [intOf] <;> omega
              · have hz1 : (0 : Int) < (nx : Int) + (m : Int) := by omega
                have hne : ¬ ((x.del = [] ∧ x.ins = []) ∨ x.at_ < 0) := by
                  rintro (⟨h1, h2⟩ | h1)
                  · have h3 := HNX.out; have h4 := HMM.out; rw [HXI.out] at h2; rw [h1] at h3; rw [h2] at h4; simp at h3 h4; omega
                  · rw [HXA.out] at h1; omega
                have HNE := hid hne
                have HZ := hid hz
                clear hne hz
                go_wp2_with fail
                refine (ulen_any g _ _ _ _ W5 hT5.1).mono ?_
                rintro e W6 ⟨rfl, q6, rfl⟩
                obtain ⟨L0, hL0⟩ : ∃ L0, L0 = gs.length + min 1 nw.length := ⟨_, rfl⟩
                rw [← hL0]
                have HL0 := hid hL0
                clear hL0
                have hp56 : Pure W5 (W5.drewN q6) := (Only.refl _ W5).drewN q6
                have hT6 := hT5.pure_ hp56
                have hX6 := ((hX.pure_ hp34).pure_ hp5).pure_ hp56
                have hx6 := (hx4.pure_ hp5).pure_ hp56
                have hq6 := (hbq4.pure_ hp5).pure_ hp56
                have hb6 := hbp5.pure_ hp56
                have hR6 := hR5.pure_ hp56
                have d0' : (W5.drewN q6).cell? ⟨W3.heap.size, 0, none⟩ = some (.int .i64 (kk : Int)) := hq6.cell 0
                have d1' : (W5.drewN q6).cell? ⟨W3.heap.size, 1, none⟩ = some (.slice AX nx cx) := hq6.cell 1
                have d2' : (W5.drewN q6).cell? ⟨W3.heap.size, 2, none⟩ = some (.slice a m d) := hq6.cell 2
                clear d1 d2
                go_wp2_with fail
                have hgW2 : g < W2.heap.size := hT2.1.lt
                refine (uadd_any g _ _ _ _ (kk : Int) AX nx cx x.del a m d ins _ (Old w) _ hT6.1 hX6 hx6 snx sm (fun h => by have h9 : W2.heap.size ≤ g := h; omega) (fun h => by have h9 : g < w.heap.size := h; have := hT2.2.2.2.2.2.2.1; omega)).mono ?_
                rintro e W7 h
                rw [HXE.out] at h
                clear d0' d1' d2'
                by_cases hfull : 16384 ≤ tot gs nw
                · have hac : addCode x (tot gs nw) = 3 := by unfold addCode; rw [if_neg HNE.out, if_pos hfull]
                  obtain ⟨rfl, hU7, ho7⟩ := h.full hac
                  have hT7 := hT6.turn hU7 ho7
                  have hfI : (16384 : Int) ≤ (tot gs nw : Nat) := by omega
                  clear h hac hfull
                  go_wp2_with (go_at_call 49; refine (uedits_any g _ _ _ _ W7 hU7).mono ?_; rintro e w' ⟨rfl, rfl⟩)
                  go_ret
                  refine ⟨?_, hT7.2.2.2.2.2.2.2⟩
                  rw [← decide_eq_true hfI]; rfl
                · have hac : addCode x (tot gs nw) = 0 := by unfold addCode; rw [if_neg HNE.out, if_neg hfull]
                  obtain ⟨rfl, hU7, ho7⟩ := h.ok hac
                  have hT7 := hT6.turn hU7 ho7
                  clear h hac hfull
                  have hs67 := ho7.size
                  have hb7 := hb6.only ho7 (by
                    rintro (h | h)
                    · exact (hSp _ h).1 rfl
                    · omega)
                  have hR7 := RdI.mono (RdI.only (RdI.mono hR6 (S' := fun b => W4.heap.size ≤ b ∧ b < W5.heap.size) fun b hb h => ⟨h, hb⟩) ho7 (fun b hb _ e => by
                    rcases e with e | e
                    · have := (hSp b e).2; have := hb.1; omega
                    · have := hb.1; omega)) (S' := fun b => M b ∨ (W4.heap.size ≤ b ∧ b < W5.heap.size)) fun b _ hb => .inr hb
                  obtain ⟨gs1, hgs1⟩ : ∃ gs1, gs1 = addG gs 1 x := ⟨_, rfl⟩
                  obtain ⟨nw1, hnw1⟩ : ∃ nw1, nw1 = addN nw 1 x := ⟨_, rfl⟩
                  have hca : (nw = [] ∧ closeG (addG gs 1 x) (addN nw 1 x) = closeG gs nw ++ [[x]]) ∨ (nw ≠ [] ∧ true = true ∧ closeG gs nw = gs ++ [nw] ∧ closeG (addG gs 1 x) (addN nw 1 x) = gs ++ [nw ++ [x]]) := close_add gs nw true x (fun h => by cases h)
                  rw [← hgs1, ← hnw1] at hca
                  rw [← hgs1, ← hnw1] at hT7
                  have hU7' := hT7.1
                  have hop1 : true = false → addN nw 1 x = [] := add_open gs nw true x (fun h => by cases h)
                  rw [← hnw1] at hop1
                  go_wp2_with fail
                  refine (ulen_any g _ _ _ _ W7 hU7').mono ?_
                  rintro e W8 ⟨rfl, q8, rfl⟩
                  obtain ⟨L1, hL1⟩ : ∃ L1, L1 = gs1.length + min 1 nw1.length := ⟨_, rfl⟩
                  rw [← hL1]
                  have hp78 : Pure W7 (W7.drewN q8) := (Only.refl _ W7).drewN q8
                  have hT8 := hT7.pure_ hp78
                  have hR8 := hR7.pure_ hp78
                  have hb8 := hb7.pure_ hp78
                  have hMl : ∀ b, M b → b < W2.heap.size ∧ (Value.slice Aw mw cw).ownBlock ≠ some b := fun b hb => ⟨hT2.2.2.1.2.choose_spec.2.2.2 b hb, hT2.2.2.1.2.choose_spec.2.2.1 b hb⟩
                  have hAl : ∀ b, (Value.slice Aw mw cw).ownBlock = some b → b < W2.heap.size := hT2.2.2.1.lt
                  have hnew : ∀ S7 : Nat → Prop, (∀ b, S7 b → ¬ M b ∧ (b < W2.heap.size ∨ W5.heap.size ≤ b)) → ∀ b, S7 b → ¬ (M b ∨ (W4.heap.size ≤ b ∧ b < W5.heap.size)) := fun S7 h7 b hb h => by
                    rcases h with h | h
                    · exact (h7 b hb).1 h
                    · rcases (h7 b hb).2 with h9 | h9 <;> omega
                  have hS7 : ∀ b, (Plus _ (W5.drewN q6).heap.size b ∧ b < W7.heap.size) → ¬ M b ∧ (b < W2.heap.size ∨ W5.heap.size ≤ b) := fun b hb => ⟨(hT7.2.2.2.1 b hb).2.2.1, by
                    rcases hb.1 with h | h
                    · exact .inl (hSp b h).2
                    · exact .inr (by simpa using h)⟩
                  have hs7w : W5.heap.size ≤ W7.heap.size := hs67
                  have hsd8 : (W7.drewN q8).heap.size = W7.heap.size := rfl
                  have hT8n := hT8.line hR8 (fun b hb => .inl hb) (fun b hb => by rcases hb with hb | hb; have := (hMl b hb).1; omega; omega) (hnew _ hS7) (fun h => by rcases h with h | h; exact hT2.2.2.2.2.1 h; omega) (fun b hb e => by rcases hb with hb | hb; exact (hMl b hb).2 e; have := hAl b e; omega)
                  rcases hca with ⟨hnw, hcl⟩ | ⟨hnw, hopt, hcl0, hcl⟩
                  · have hlt01 : (L0 : Int) < (L1 : Int) := by
                      have h1 := close_len gs nw; have h2 := close_len gs1 nw1; have h3 := HL0.out
                      rw [hcl] at h2; simp at h2; omega
                    have hHn := hH.next (e := x) HC.out
                    rw [← hcl] at hHn
                    have hT8w := hT8.2.2.1
                    obtain ⟨hwl, vs, hown, hes, _⟩ := hT8w
                    have HWL := hid hwl
                    have HHN := hid hHn
                    clear hgs1 hnw1 hL1 hcl hwl hHn
                    go_wp2_with (at_builtin; refine halt_ ?_)
                    intro _
                    refine appendL (.tmp 83) (.tmp 85) rfl rfl w.heap.size (.slice Aw mw cw) mw vs rfl (own_only hown ((Only.refl (fun _ => False) _).alloc _) fun _ _ x => x) _ (some ⟨W7.heap.size, 0, none⟩) 1 1 [.slice An nn cn] (by rfl) (by simpa using Rd.one (W7.drewN q8) (.slice An nn cn) 22) (by simp [Value.oneCell']) (by unfold maxLen; omega) (by omega) (by have h9 := hT8.2.2.2.2.2.2.2.size; simp at h9 ⊢; omega) ?_
                    intro A9 c9 W9 ho9 hp9 hat9
                    have hTw := hT8.was_ HWL.out hown hes ho9 hp9 hat9
                    have hq9 : Only (fun b => (Value.slice Aw mw cw).ownBlock = some b) (W7.drewN q8) W9 := ((Only.refl _ _).alloc _).then_ hp9 (fun i _ e => e)
                    have hb9 := hb8.only hq9 (fun e => by have := hAl0 _ e; omega)
                    have f4 := hb9.cell 4
                    have hs9 := hq9.size
                    have hT9 := hTw.line (RdI.only hR8 hq9 (fun b hb _ e => by
                      rcases hb with hb | hb
                      · exact (hMl b hb).2 e
                      · have := hAl b e; omega)) (fun b hb => .inl hb) (fun b hb => by
                      rcases hb with hb | hb
                      · have := (hMl b hb).1; omega
                      · omega) (hnew _ hS7) (fun h => by
                      rcases h with h | h
                      · exact hT2.2.2.2.2.1 h
                      · omega) (fun b hb e => by
                      have hbl : b < W5.heap.size := by
                        rcases hb with hb | hb
                        · have := (hMl b hb).1; omega
                        · omega
                      rcases hat9 with h | h
                      · rw [h] at e
                        rcases hb with hb | hb
                        · exact (hMl b hb).2 e
                        · have := hAl b e; omega
                      · rw [h] at e; injection e with e; simp at e; omega)
                    go_wp2_with (go_at_call 50; refine (uend_any g _ _ _ _ W9 hT9.1 (by decide) (by decide)).mono ?_; rintro e WE ⟨rfl, hUE, hoE⟩)
                    go_roundw
                    case rel => first
                      | (have hTE : TMs w g (closeG (gs1) (nw1)) [] 0 _ _ _ _ _ _ _ _ _ _ WE := TMs.turn hT9 hUE hoE
                         exact ⟨k + 1, _, _, _, _, _, _, false, closeG (gs1) (nw1), [], _, _, by omega, by go_num, rfl, rfl, rfl, ⟨_, _, hTE⟩, by simpa [closeG] using HHN.out, fun _ => rfl⟩)
                      | exact ⟨k + 1, _, _, _, _, _, _, _, _, _, _, _, by omega, by go_num, rfl, rfl, rfl, ⟨_, _, hT9⟩, HHN.out, (fun h => by cases h)⟩
                    case measure => simp [intOf] <;> omega
                  · have hlt01 : ¬ (L0 : Int) < (L1 : Int) := by
                      have h1 := close_len gs nw; have h2 := close_len gs1 nw1; have h3 := HL0.out
                      rw [hcl] at h2; rw [hcl0] at h1; simp at h1 h2; omega
                    have hHn : Hist line (closeG gs1 nw1) was (appRun now x) := by
                      rw [hcl]; rw [hcl0] at hH; exact hH.more HC.out
                    have HHN := hid hHn
                    clear hgs1 hnw1 hL1 hcl hcl0 hHn hnw
                    have f4 : (W7.drewN q8).cell? ⟨wr.heap.size, 4, none⟩ = some (.bool _) := hb8.cell 4
                    go_wp2_with (go_at_call 50; refine (uend_any g _ _ _ _ (W7.drewN q8) hT8n.1 (by decide) (by decide)).mono ?_; rintro e WE ⟨rfl, hUE, hoE⟩)
                    go_roundw
                    case rel => first
                      | (have hTE : TMs w g (closeG (gs1) (nw1)) [] 0 _ _ _ _ _ _ _ _ _ _ WE := TMs.turn hT8n hUE hoE
                         exact ⟨k + 1, _, _, _, _, _, _, false, closeG (gs1) (nw1), [], _, _, by omega, by go_num, rfl, rfl, rfl, ⟨_, _, hTE⟩, by simpa [closeG] using HHN.out, fun _ => rfl⟩)
                      | exact ⟨k + 1, _, _, _, _, _, _, _, _, _, _, _, by omega, by go_num, rfl, rfl, rfl, ⟨_, _, hT8n⟩, HHN.out, (fun h => by cases h)⟩
                    case measure => simp [intOf] <;> omega
            · rw [hc]
              clear hc
              have f4 : W5.cell? ⟨wr.heap.size, 4, none⟩ = some (.bool _) := hbp5.cell 4
              go_wp2_with (go_at_call 50; refine (uend_any g _ _ _ _ W5 hT5.1 (by decide) (by decide)).mono ?_; rintro e WE ⟨rfl, hUE, hoE⟩)
              go_roundw
              case rel => first
                | (have hTE : TMs w g (closeG (gs) (nw)) [] 0 _ _ _ _ _ _ _ _ _ _ WE := TMs.turn hT5 hUE hoE
                   exact ⟨k + 1, _, _, _, _, _, _, false, closeG (gs) (nw), [], _, _, by omega, by go_num, rfl, rfl, rfl, ⟨_, _, hTE⟩, by simpa [closeG] using hH, fun _ => rfl⟩)
                | exact ⟨k + 1, _, _, _, _, _, _, _, _, _, _, _, by omega, by go_num, rfl, rfl, rfl, ⟨_, _, hT5⟩, hH, (fun h => by cases h)⟩
              case measure => simp [intOf] <;> omega
        · cases b1
          all_goals
            go_wp2_with fail
            rw [← HW1.out]
            have HOPN := HOP
            have hT1 : TMs w g gs nw 1 An nn cn now Aw mw cw was S M W1 := hT1
            have hx2 : RdI W1 (Old w) a m d ins := hx.pure_ hp1
            have hSp : ∀ b, S b → b ≠ wr.heap.size ∧ b < W1.heap.size := fun b hb => by have := hSl b hb; exact ⟨by omega, by omega⟩
            have hp12 := hp1.size
            have hR2 := hT1.2.1
            refine (step_any at0 mn0 a m d (.bool _) (.bool _) ins An nn cn now M W1 hR2 snn).mono ?_
            rintro e W3 ⟨AX, nx, cx, rfl, hX, hp3⟩
            obtain ⟨x, hxe⟩ : ∃ x, x = stepEd at0 mn0 now ins := ⟨_, rfl⟩
            obtain ⟨kk, hkk⟩ : ∃ kk, kk = stepAt at0 now.length := ⟨_, rfl⟩
            have hkkN : kk ≤ 1024 := by rw [hkk]; have := stepAt_le at0 now.length; omega
            have hxat : x.at_ = (kk : Int) := by rw [hxe, hkk]; rfl
            have hxi : x.ins = ins := by rw [hxe]; rfl
            have hxok : appOk now x := by rw [hxe]; exact step_ok _ _ _ _
            have hxn : x.del.length ≤ now.length := by rw [hxe]; exact step_del_le _ _ _ _
            have HXN := hid hxn
            have hxd : x.del.length ≤ 1024 := by omega
            rw [← hxe] at hX
            rw [← hkk]
            have hkkI : (kk : Int) ≤ 1024 := by omega
            have hXE : (⟨(kk : Int), x.del, ins⟩ : Ed) = x := by rw [← hxat, ← hxi]
            have HXE := hid hXE
            have HXI := hid hxi
            have HXA := hid hxat
            have hnxl := hX.len
            have HNX := hid hnxl
            have snx : small nx := by unfold small; omega
            clear hxe hkk hXE hxi hxat hnxl hxn
            go_wp2_with fail
            obtain ⟨W4, hW4⟩ : ∃ W4, W4 = W3.alloc (.cells #[.int .i64 (kk : Int), .slice AX nx cx, .slice a m d] 60) := ⟨_, rfl⟩
            rw [← hW4]
            have hp34 : Pure W3 W4 := by rw [hW4]; exact (Only.refl _ W3).alloc _
            have hbq4 : Blk W4 W3.heap.size 60 #[.int .i64 (kk : Int), .slice AX nx cx, .slice a m d] := by rw [hW4]; exact Blk.new _ _ _
            clear hW4
            have hp24 := hp3.trans hp34
            have hw4 : Pure wr W4 ∨ True := .inr trivial
            have hx4 : RdI W4 (Old w) a m d ins := hx2.pure_ hp24
            refine (apply_any An nn cn now M (kk : Int) AX nx cx x.del _ a m d ins (Old w) W4 (hR2.pure_ hp24) (hX.pure_ hp34) hx4 snn snx sm).mono ?_
            rintro e W5 ⟨A5, n5, c5, rfl, hR5, hp5⟩
            rw [HXE.out] at hR5
            rw [HXE.out]
            have hp25 := hp24.trans hp5
            have hT5 := hT1.pure_ hp25
            have hs24 := hp24.size
            have hs5 := hp5.size
            have hs34 := hp34.size
            have hs3 := hp3.size
            have hbp5 := hbx1.pure_ hp25
            rcases appCode_ok hxok with hc | hc
            · rw [hc]
              have hout : appOut now x = appRun now x := by unfold appOut; rw [if_pos hc]
              rw [hout] at hR5
              have d1 : W5.cell? ⟨W3.heap.size, 1, none⟩ = some (.slice AX nx cx) := (hbq4.pure_ hp5).cell 1
              have d2 : W5.cell? ⟨W3.heap.size, 2, none⟩ = some (.slice a m d) := (hbq4.pure_ hp5).cell 2
              have hlen5 := appRun_len hxok
              have hl5 := (appCode_zero.1 hc).2
              have HC := hid hc
              have hins : ins.length ≤ 1024 := by have h9 := HXN.out; rw [HXI.out] at hlen5; omega
              have hm1024 : (m : Int) ≤ 1024 := by rw [HMM.out] at hins; omega
              have hnx1024 : (nx : Int) ≤ 1024 := by rw [HNX.out] at hxd; omega
              clear hout hlen5 hins hc
              by_cases hz : nx = 0 ∧ m = 0
              · have hz1 : ¬ (0 : Int) < (nx : Int) + (m : Int) := by omega
                clear hz
                have f4 : W5.cell? ⟨wr.heap.size, 4, none⟩ = some (.bool _) := hbp5.cell 4
                go_wp2_with (go_at_call 50; refine (uend_any g _ _ _ _ W5 hT5.1 (by decide) (by decide)).mono ?_; rintro e WE ⟨rfl, hUE, hoE⟩)
                go_roundw
                case rel => first
                  | (have hTE : TMs w g (closeG (gs) (nw)) [] 0 _ _ _ _ _ _ _ _ _ _ WE := TMs.turn hT5 hUE hoE
                     exact ⟨k + 1, _, _, _, _, _, _, false, closeG (gs) (nw), [], _, _, by omega, by go_num, rfl, rfl, rfl, ⟨_, _, hTE⟩, by simpa [closeG] using hH, fun _ => rfl⟩)
                  | exact ⟨k + 1, _, _, _, _, _, _, _, _, _, _, _, by omega, by go_num, rfl, rfl, rfl, ⟨_, _, hT5⟩, hH, (fun h => by cases h)⟩
                case measure => simp [intOf] <;> omega
              · have hz1 : (0 : Int) < (nx : Int) + (m : Int) := by omega
                have hne : ¬ ((x.del = [] ∧ x.ins = []) ∨ x.at_ < 0) := by
                  rintro (⟨h1, h2⟩ | h1)
                  · have h3 := HNX.out; have h4 := HMM.out; rw [HXI.out] at h2; rw [h1] at h3; rw [h2] at h4; simp at h3 h4; omega
                  · rw [HXA.out] at h1; omega
                have HNE := hid hne
                have HZ := hid hz
                clear hne hz
                go_wp2_with fail
                refine (ulen_any g _ _ _ _ W5 hT5.1).mono ?_
                rintro e W6 ⟨rfl, q6, rfl⟩
                obtain ⟨L0, hL0⟩ : ∃ L0, L0 = gs.length + min 1 nw.length := ⟨_, rfl⟩
                rw [← hL0]
                have HL0 := hid hL0
                clear hL0
                have hp56 : Pure W5 (W5.drewN q6) := (Only.refl _ W5).drewN q6
                have hT6 := hT5.pure_ hp56
                have hX6 := ((hX.pure_ hp34).pure_ hp5).pure_ hp56
                have hx6 := (hx4.pure_ hp5).pure_ hp56
                have hq6 := (hbq4.pure_ hp5).pure_ hp56
                have hb6 := hbp5.pure_ hp56
                have hR6 := hR5.pure_ hp56
                have d0' : (W5.drewN q6).cell? ⟨W3.heap.size, 0, none⟩ = some (.int .i64 (kk : Int)) := hq6.cell 0
                have d1' : (W5.drewN q6).cell? ⟨W3.heap.size, 1, none⟩ = some (.slice AX nx cx) := hq6.cell 1
                have d2' : (W5.drewN q6).cell? ⟨W3.heap.size, 2, none⟩ = some (.slice a m d) := hq6.cell 2
                clear d1 d2
                go_wp2_with fail
                have hgW1 : g < W1.heap.size := hT1.1.lt
                refine (uadd_any g _ _ _ _ (kk : Int) AX nx cx x.del a m d ins _ (Old w) _ hT6.1 hX6 hx6 snx sm (fun h => by have h9 : W1.heap.size ≤ g := h; omega) (fun h => by have h9 : g < w.heap.size := h; have := hT1.2.2.2.2.2.2.1; omega)).mono ?_
                rintro e W7 h
                rw [HXE.out] at h
                clear d0' d1' d2'
                by_cases hfull : 16384 ≤ tot gs nw
                · have hac : addCode x (tot gs nw) = 3 := by unfold addCode; rw [if_neg HNE.out, if_pos hfull]
                  obtain ⟨rfl, hU7, ho7⟩ := h.full hac
                  have hT7 := hT6.turn hU7 ho7
                  have hfI : (16384 : Int) ≤ (tot gs nw : Nat) := by omega
                  clear h hac hfull
                  go_wp2_with (go_at_call 49; refine (uedits_any g _ _ _ _ W7 hU7).mono ?_; rintro e w' ⟨rfl, rfl⟩)
                  go_ret
                  refine ⟨?_, hT7.2.2.2.2.2.2.2⟩
                  rw [← decide_eq_true hfI]; rfl
                · have hac : addCode x (tot gs nw) = 0 := by unfold addCode; rw [if_neg HNE.out, if_neg hfull]
                  obtain ⟨rfl, hU7, ho7⟩ := h.ok hac
                  have hT7 := hT6.turn hU7 ho7
                  clear h hac hfull
                  have hs67 := ho7.size
                  have hb7 := hb6.only ho7 (by
                    rintro (h | h)
                    · exact (hSp _ h).1 rfl
                    · omega)
                  have hR7 := RdI.mono (RdI.only (RdI.mono hR6 (S' := fun b => W4.heap.size ≤ b ∧ b < W5.heap.size) fun b hb h => ⟨h, hb⟩) ho7 (fun b hb _ e => by
                    rcases e with e | e
                    · have := (hSp b e).2; have := hb.1; omega
                    · have := hb.1; omega)) (S' := fun b => M b ∨ (W4.heap.size ≤ b ∧ b < W5.heap.size)) fun b _ hb => .inr hb
                  obtain ⟨gs1, hgs1⟩ : ∃ gs1, gs1 = addG gs 1 x := ⟨_, rfl⟩
                  obtain ⟨nw1, hnw1⟩ : ∃ nw1, nw1 = addN nw 1 x := ⟨_, rfl⟩
                  have hca : (nw = [] ∧ closeG (addG gs 1 x) (addN nw 1 x) = closeG gs nw ++ [[x]]) ∨ (nw ≠ [] ∧ true = true ∧ closeG gs nw = gs ++ [nw] ∧ closeG (addG gs 1 x) (addN nw 1 x) = gs ++ [nw ++ [x]]) := close_add gs nw true x (fun h => by cases h)
                  rw [← hgs1, ← hnw1] at hca
                  rw [← hgs1, ← hnw1] at hT7
                  have hU7' := hT7.1
                  have hop1 : true = false → addN nw 1 x = [] := add_open gs nw true x (fun h => by cases h)
                  rw [← hnw1] at hop1
                  go_wp2_with fail
                  refine (ulen_any g _ _ _ _ W7 hU7').mono ?_
                  rintro e W8 ⟨rfl, q8, rfl⟩
                  obtain ⟨L1, hL1⟩ : ∃ L1, L1 = gs1.length + min 1 nw1.length := ⟨_, rfl⟩
                  rw [← hL1]
                  have hp78 : Pure W7 (W7.drewN q8) := (Only.refl _ W7).drewN q8
                  have hT8 := hT7.pure_ hp78
                  have hR8 := hR7.pure_ hp78
                  have hb8 := hb7.pure_ hp78
                  have hMl : ∀ b, M b → b < W1.heap.size ∧ (Value.slice Aw mw cw).ownBlock ≠ some b := fun b hb => ⟨hT1.2.2.1.2.choose_spec.2.2.2 b hb, hT1.2.2.1.2.choose_spec.2.2.1 b hb⟩
                  have hAl : ∀ b, (Value.slice Aw mw cw).ownBlock = some b → b < W1.heap.size := hT1.2.2.1.lt
                  have hnew : ∀ S7 : Nat → Prop, (∀ b, S7 b → ¬ M b ∧ (b < W1.heap.size ∨ W5.heap.size ≤ b)) → ∀ b, S7 b → ¬ (M b ∨ (W4.heap.size ≤ b ∧ b < W5.heap.size)) := fun S7 h7 b hb h => by
                    rcases h with h | h
                    · exact (h7 b hb).1 h
                    · rcases (h7 b hb).2 with h9 | h9 <;> omega
                  have hS7 : ∀ b, (Plus _ (W5.drewN q6).heap.size b ∧ b < W7.heap.size) → ¬ M b ∧ (b < W1.heap.size ∨ W5.heap.size ≤ b) := fun b hb => ⟨(hT7.2.2.2.1 b hb).2.2.1, by
                    rcases hb.1 with h | h
                    · exact .inl (hSp b h).2
                    · exact .inr (by simpa using h)⟩
                  have hs7w : W5.heap.size ≤ W7.heap.size := hs67
                  have hsd8 : (W7.drewN q8).heap.size = W7.heap.size := rfl
                  have hT8n := hT8.line hR8 (fun b hb => .inl hb) (fun b hb => by rcases hb with hb | hb; have := (hMl b hb).1; omega; omega) (hnew _ hS7) (fun h => by rcases h with h | h; exact hT1.2.2.2.2.1 h; omega) (fun b hb e => by rcases hb with hb | hb; exact (hMl b hb).2 e; have := hAl b e; omega)
                  rcases hca with ⟨hnw, hcl⟩ | ⟨hnw, hopt, hcl0, hcl⟩
                  · have hlt01 : (L0 : Int) < (L1 : Int) := by
                      have h1 := close_len gs nw; have h2 := close_len gs1 nw1; have h3 := HL0.out
                      rw [hcl] at h2; simp at h2; omega
                    have hHn := hH.next (e := x) HC.out
                    rw [← hcl] at hHn
                    have hT8w := hT8.2.2.1
                    obtain ⟨hwl, vs, hown, hes, _⟩ := hT8w
                    have HWL := hid hwl
                    have HHN := hid hHn
                    clear hgs1 hnw1 hL1 hcl hwl hHn
                    go_wp2_with (at_builtin; refine halt_ ?_)
                    intro _
                    refine appendL (.tmp 83) (.tmp 85) rfl rfl w.heap.size (.slice Aw mw cw) mw vs rfl (own_only hown ((Only.refl (fun _ => False) _).alloc _) fun _ _ x => x) _ (some ⟨W7.heap.size, 0, none⟩) 1 1 [.slice An nn cn] (by rfl) (by simpa using Rd.one (W7.drewN q8) (.slice An nn cn) 22) (by simp [Value.oneCell']) (by unfold maxLen; omega) (by omega) (by have h9 := hT8.2.2.2.2.2.2.2.size; simp at h9 ⊢; omega) ?_
                    intro A9 c9 W9 ho9 hp9 hat9
                    have hTw := hT8.was_ HWL.out hown hes ho9 hp9 hat9
                    have hq9 : Only (fun b => (Value.slice Aw mw cw).ownBlock = some b) (W7.drewN q8) W9 := ((Only.refl _ _).alloc _).then_ hp9 (fun i _ e => e)
                    have hb9 := hb8.only hq9 (fun e => by have := hAl0 _ e; omega)
                    have f4 := hb9.cell 4
                    have hs9 := hq9.size
                    have hT9 := hTw.line (RdI.only hR8 hq9 (fun b hb _ e => by
                      rcases hb with hb | hb
                      · exact (hMl b hb).2 e
                      · have := hAl b e; omega)) (fun b hb => .inl hb) (fun b hb => by
                      rcases hb with hb | hb
                      · have := (hMl b hb).1; omega
                      · omega) (hnew _ hS7) (fun h => by
                      rcases h with h | h
                      · exact hT1.2.2.2.2.1 h
                      · omega) (fun b hb e => by
                      have hbl : b < W5.heap.size := by
                        rcases hb with hb | hb
                        · have := (hMl b hb).1; omega
                        · omega
                      rcases hat9 with h | h
                      · rw [h] at e
                        rcases hb with hb | hb
                        · exact (hMl b hb).2 e
                        · have := hAl b e; omega
                      · rw [h] at e; injection e with e; simp at e; omega)
                    go_wp2_with (go_at_call 50; refine (uend_any g _ _ _ _ W9 hT9.1 (by decide) (by decide)).mono ?_; rintro e WE ⟨rfl, hUE, hoE⟩)
                    go_roundw
                    case rel => first
                      | (have hTE : TMs w g (closeG (gs1) (nw1)) [] 0 _ _ _ _ _ _ _ _ _ _ WE := TMs.turn hT9 hUE hoE
                         exact ⟨k + 1, _, _, _, _, _, _, false, closeG (gs1) (nw1), [], _, _, by omega, by go_num, rfl, rfl, rfl, ⟨_, _, hTE⟩, by simpa [closeG] using HHN.out, fun _ => rfl⟩)
                      | exact ⟨k + 1, _, _, _, _, _, _, _, _, _, _, _, by omega, by go_num, rfl, rfl, rfl, ⟨_, _, hT9⟩, HHN.out, (fun h => by cases h)⟩
                    case measure => simp [intOf] <;> omega
                  · have hlt01 : ¬ (L0 : Int) < (L1 : Int) := by
                      have h1 := close_len gs nw; have h2 := close_len gs1 nw1; have h3 := HL0.out
                      rw [hcl] at h2; rw [hcl0] at h1; simp at h1 h2; omega
                    have hHn : Hist line (closeG gs1 nw1) was (appRun now x) := by
                      rw [hcl]; rw [hcl0] at hH; exact hH.more HC.out
                    have HHN := hid hHn
                    clear hgs1 hnw1 hL1 hcl hcl0 hHn hnw
                    have f4 : (W7.drewN q8).cell? ⟨wr.heap.size, 4, none⟩ = some (.bool _) := hb8.cell 4
                    go_wp2_with (go_at_call 50; refine (uend_any g _ _ _ _ (W7.drewN q8) hT8n.1 (by decide) (by decide)).mono ?_; rintro e WE ⟨rfl, hUE, hoE⟩)
                    go_roundw
                    case rel => first
                      | (have hTE : TMs w g (closeG (gs1) (nw1)) [] 0 _ _ _ _ _ _ _ _ _ _ WE := TMs.turn hT8n hUE hoE
                         exact ⟨k + 1, _, _, _, _, _, _, false, closeG (gs1) (nw1), [], _, _, by omega, by go_num, rfl, rfl, rfl, ⟨_, _, hTE⟩, by simpa [closeG] using HHN.out, fun _ => rfl⟩)
                      | exact ⟨k + 1, _, _, _, _, _, _, _, _, _, _, _, by omega, by go_num, rfl, rfl, rfl, ⟨_, _, hT8n⟩, HHN.out, (fun h => by cases h)⟩
                    case measure => simp [intOf] <;> omega
            · rw [hc]
              clear hc
              have f4 : W5.cell? ⟨wr.heap.size, 4, none⟩ = some (.bool _) := hbp5.cell 4
              go_wp2_with (go_at_call 50; refine (uend_any g _ _ _ _ W5 hT5.1 (by decide) (by decide)).mono ?_; rintro e WE ⟨rfl, hUE, hoE⟩)
              go_roundw
              case rel => first
                | (have hTE : TMs w g (closeG (gs) (nw)) [] 0 _ _ _ _ _ _ _ _ _ _ WE := TMs.turn hT5 hUE hoE
                   exact ⟨k + 1, _, _, _, _, _, _, false, closeG (gs) (nw), [], _, _, by omega, by go_num, rfl, rfl, rfl, ⟨_, _, hTE⟩, by simpa [closeG] using hH, fun _ => rfl⟩)
                | exact ⟨k + 1, _, _, _, _, _, _, _, _, _, _, _, by omega, by go_num, rfl, rfl, rfl, ⟨_, _, hT5⟩, hH, (fun h => by cases h)⟩
              case measure => simp [intOf] <;> omega
    · obtain rfl : k = n := by omega
      obtain ⟨S, M, hT⟩ := hTM
      have snn : small nn := by unfold small; omega
      clear hnn hmw
      go_wp2_with fail
      refine (uclone_any g S gs nw _ wr hT.1).mono ?_
      rintro e w4 ⟨p, rfl, hpw, hUp, hp4⟩
      go_wp2_with fail
      refine (ulen_any g _ _ _ _ w4 (hT.pure_ hp4).1).mono ?_
      rintro e w5 ⟨rfl, q5, rfl⟩
      have hlen5 : gs.length + min 1 nw.length = mw := by have h1 := hH.len; have h2 := close_len gs nw; have h3 := HMW.out; omega
      rw [hlen5]
      have hp45 : Pure w4 (w4.drewN q5) := (Only.refl _ w4).drewN q5
      clear hlen5
      go_wp2_with fail
      refine (urevert_any p _ gs nw _ _ (hUp.pure_ hp45)).mono ?_
      rintro e w6 ⟨A6', n6, c6', rfl, hE6, hU6, ho6⟩
      have hp06 : Pure wr w6 := (hp4.trans hp45).then_ ho6 fun i hi e => by
        rcases e with e | e
        · omega
        · omega
      have hT6 := hT.pure_ hp06
      have hfl : (closeG gs nw).flatten.length ≤ 16384 ∧ ∀ x ∈ closeG gs nw, ∀ e ∈ x, e.fit := by
        obtain ⟨_, _, _, _, _, _, _, _, _, _, _, _, _, _, _, h4, _, h6, h7⟩ := hT.1.tight
        refine ⟨?_, ?_⟩
        · have h1 := tot_close gs nw
          unfold tot at h1 h4
          rw [List.length_flatten]; simp at h1; omega
        · intro x hx; unfold closeG at hx
          split at hx
          · exact h6 x hx
          · rcases List.mem_append.1 hx with hx | hx
            · exact h6 x hx
            · obtain rfl : x = nw := by simpa using hx
              exact h7
      have hn6 : n6 ≤ 16384 := by have h1 := hE6.1; rw [invs_len] at h1; omega
      have hfit : ∀ e ∈ invs (closeG gs nw).flatten, e.fit := invs_fit fun e he => by
        obtain ⟨x, hx, he⟩ := List.mem_flatten.1 he
        exact hfl.2 x hx e he
      have hd6 := doneL_inv HSH.out hH.all
      clear hp06 hUp hU6 ho6 hp4 hp45
      go_wp2_with fail
      refine (done_ok An nn cn now M A6' n6 c6' _ _ line w6 hT6.2.1 hE6 snn hn6 hfit hd6).mono ?_
      rintro e w7 ⟨A7, n7, c7, rfl, hR7, hp7⟩
      have hT7 := hT6.pure_ hp7
      have hn7 : small n7 := by have h1 := hR7.len; have h2 := HSH.out; unfold small; omega
      clear hE6 hfit hd6 hn6 hfl
      go_wp2_with fail
      refine (runes_any A7 n7 c7 line _ AL N C line (Old w) w7 hR7 (hL.pure_ hT7.2.2.2.2.2.2.2) hn7).mono ?_
      rintro e w8 ⟨rfl, q8, rfl⟩
      have heq : eqL line line = true := by unfold eqL; simp
      rw [heq]
      have hT8 := hT7.pure_ ((Only.refl (fun _ => False) w7).drewN q8)
      clear hR7 hp7 hT7 hT6 hT heq
      go_wp2
      obtain ⟨opx, hopx⟩ : ∃ opx, opx = (if opn then (1 : Int) else 0) := ⟨_, rfl⟩
      clear hop
      go_loopw [6, 18] (fun v6 i w9 => ∃ (z : Nat) (An nn cn : _) (now : List Int) (gs : List (List Ed)) (nw : List Ed) (op : Int), z ≤ mw ∧ i = .int .i64 ((z : Int) - 1) ∧ v6 = .slice An nn cn ∧ TM w g gs nw op An nn cn now Aw mw cw was w9 ∧ Hist line (closeG gs nw) (was.take z) now) (fun _ i _ => (intOf i + 1).toNat)
      case atStart =>
        refine ⟨mw, An, nn, cn, now, gs, nw, _, Nat.le_refl _, by go_num, rfl, ⟨_, _, hT8⟩, ?_⟩
        rw [← HMW.out, List.take_length]; exact hH
      case round =>
        clear hT8 hH hsh HNN snn hopx
        obtain ⟨z, An, nn, cn, now, gs, nw, op, hz, rfl, rfl, hTM, hH⟩ := hrel
        obtain ⟨S, M, hT⟩ := hTM
        have hsh := hH.short HSH.out
        have snn : small nn := by have h1 := hT.2.1.len; unfold small; omega
        cases z with
        | zero =>
          have h0 : closeG gs nw = [] := by have h1 := hH.len; simpa using h1
          obtain ⟨rfl, rfl⟩ : gs = [] ∧ nw = [] := by
            unfold closeG at h0
            split at h0
            · exact ⟨h0, by assumption⟩
            · simp at h0
          clear h0 hsh
          have hz1 : ((0 : Nat) : Int) - 1 = -1 := rfl
          rw [hz1]
          go_wp2_with fail
          refine (uundo_bell g S _ _ hT.1).mono ?_
          rintro e wA ⟨rfl, hUA, hoA⟩
          have hTA := hT.turn hUA hoA
          go_wp2
          go_ret
          exact ⟨rfl, hTA.2.2.2.2.2.2.2⟩
        | succ j =>
          have hj1 : ((j + 1 : Nat) : Int) - 1 = (j : Int) := by omega
          rw [hj1]
          have hjI : (0 : Int) ≤ (j : Int) := by omega
          have hjm : j < mw := by omega
          have hjm' : (j : Int) < (mw : Int) := by omega
          clear hj1
          have hne : ¬ (gs = [] ∧ nw = []) := by
            rintro ⟨rfl, rfl⟩
            have h1 := hH.len
            have h2 := HMW.out
            rw [List.length_take] at h1
            simp [closeG] at h1
            omega
          obtain ⟨G, x, hGx⟩ : ∃ G x, closeG gs nw = G ++ [x] := by
            rcases List.eq_nil_or_concat (closeG gs nw) with h | ⟨G, x, h⟩
            · exfalso
              have h1 := hH.len
              have h2 := HMW.out
              rw [List.length_take, h] at h1
              simp at h1
              omega
            · exact ⟨G, x, by simpa using h⟩
          have hH0 := hH
          rw [hGx] at hH0
          obtain ⟨W', a0, hW', hHa, hda⟩ := hH0.last
          have hjl : j < was.length := by rw [HMW.out]; exact hjm
          rw [List.take_add_one, List.getElem?_eq_getElem hjl] at hW'
          obtain ⟨hW1, hW2⟩ := List.append_inj' hW' rfl
          have ha0 : was[j]?.getD [] = a0 := by rw [List.getElem?_eq_getElem hjl]; simpa using hW2
          rw [← hW1] at hHa
          have hga : a0.length ≤ 1024 := hHa.short HSH.out
          have hou : undoOut gs nw = invs x := by unfold undoOut; rw [hGx]; simp
          have hog : undoG gs nw = G := by unfold undoG; rw [hGx]; simp
          have hdx : doneL now (invs x) = some a0 := doneL_inv hga hda
          have hfl : x.length ≤ 16384 ∧ ∀ e ∈ x, e.fit := by
            obtain ⟨_, _, _, _, _, _, _, _, _, _, _, _, _, _, _, h4, _, h6, h7⟩ := hT.1.tight
            have hx : x ∈ closeG gs nw := by rw [hGx]; simp
            refine ⟨?_, ?_⟩
            · have h1 := tot_close gs nw
              rw [hGx] at h1
              unfold tot at h1 h4
              simp at h1
              omega
            · unfold closeG at hx
              split at hx
              · exact h6 x hx
              · rcases List.mem_append.1 hx with hx | hx
                · exact h6 x hx
                · obtain rfl : x = nw := by simpa using hx
                  exact h7
          have HHA := hid hHa
          have HA0 := hid ha0
          have HGA := hid hga
          have HOG := hid hog
          clear hGx hH0 hH hW' hW1 hW2 hda hHa ha0 hga hjl hog hsh
          go_wp2_with fail
          refine (uundo_some g S gs nw op _ hT.1 hne).mono ?_
          rintro e wA ⟨A8, n8, c8, rfl, hE8, hU8, ho8⟩
          have hTA := hT.turn hU8 ho8
          rw [hou] at hE8
          rw [HOG.out] at hTA
          have hn8 : n8 ≤ 16384 := by have h1 := hE8.1; rw [invs_len] at h1; omega
          have hs8 := ho8.size
          have hsS : ∀ b, S b → b < wr.heap.size := fun b hb => (hT.2.2.2.1 b hb).2.1
          have hsM : ∀ b, M b → b < wr.heap.size := hT.2.2.1.2.choose_spec.2.2.2
          have hsA : ∀ b, (Value.slice Aw mw cw).ownBlock = some b → b < wr.heap.size := hT.2.2.1.lt
          have hMA : ∀ b, M b → (Value.slice Aw mw cw).ownBlock ≠ some b := hT.2.2.1.2.choose_spec.2.2.1
          have hgl := hT.1.lt
          clear hou hne hU8 ho8 hT
          go_wp2_with fail
          refine (done_ok An nn cn now M A8 n8 c8 _ _ a0 wA hTA.2.1 hE8 snn hn8 (invs_fit hfl.2) hdx).mono ?_
          rintro e wB ⟨A9, n9, c9, rfl, hR9, hp9⟩
          have hTB := hTA.pure_ hp9
          have hs9 := hp9.size
          have hn9 : small n9 := by have h1 := hR9.len; have h2 := HGA.out; unfold small; omega
          have hR9' : RdI wB (fun b => M b ∨ (wA.heap.size ≤ b ∧ b < wB.heap.size)) A9 n9 c9 a0 := RdI.mono hR9 fun b hl h => h.elim (fun h => .inl h) fun h => .inr ⟨h, hl⟩
          have hTC := hTB.line hR9' (fun b hb => .inl hb) (fun b hb => by
            rcases hb with hb | hb
            · have := hsM b hb; omega
            · omega) (fun b hb h => by
            rcases h with h | h
            · exact (hTB.2.2.2.1 b hb).2.2.1 h
            · have := hb.2; omega) (fun h => by
            rcases h with h | h
            · exact hTB.2.2.2.2.1 h
            · omega) (fun b hb e => by
            rcases hb with hb | hb
            · exact hMA b hb e
            · have := hsA b e; omega)
          obtain ⟨b0, a, m, d, rfl, hc, hRa⟩ := hTC.2.2.1.line_at hjm
          rw [HA0.out] at hRa
          clear hE8 hdx hn8 hTB hTA hp9 hR9 hsA hMA hsM hsS hfl
          go_wp2_with fail
          refine (runes_any A9 n9 c9 a0 _ a m d a0 _ wB hR9' hRa hn9).mono ?_
          rintro e wC ⟨rfl, qC, rfl⟩
          have heq : eqL a0 a0 = true := by unfold eqL; simp
          rw [heq]
          have hTD := hTC.pure_ ((Only.refl (fun _ => False) wB).drewN qC)
          clear heq hR9' hRa hTC
          go_wp2
          go_roundw
          case rel => exact ⟨j, A9, n9, c9, a0, G, [], 0, by omega, by go_num, rfl, ⟨_, _, hTD⟩, by simpa [closeG] using HHA.out⟩
          case measure => simp [intOf] <;> omega

end Go.Proofs.Ytinlpmgchcbjpaa
