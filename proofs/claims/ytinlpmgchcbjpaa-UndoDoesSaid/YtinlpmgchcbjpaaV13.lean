/- The law UndoDoes, walked. -/
import Derived.Test.YtinlpmgchcbjpaaU38
import Derived.Test.YtinlpmgchcbjpaaU34
import Derived.Test.YtinlpmgchcbjpaaU40
import Derived.Test.YtinlpmgchcbjpaaU41
import Derived.Test.YtinlpmgchcbjpaaRt
namespace Go.Proofs.Ytinlpmgchcbjpaa
open Go Go.RowKit
set_option maxHeartbeats 1000000
set_option maxRecDepth 100000

theorem RdOp.at_ {w : World} {S : Nat → Prop} {A : Option Addr} {N c : Nat} {es : List Op1} (h : RdK' opKind 4 Op1.none w S A N c es) {k : Nat} (hk : k < N) : ∃ g off a m d a' m' d', A = some ⟨g, off, none⟩ ∧ g < w.heap.size ∧
    w.cell? ⟨g, off + k * 4, none⟩ = some (.int .i64 (es[k]?.getD Op1.none).kd) ∧ w.cell? ⟨g, off + k * 4 + 1, none⟩ = some (.int .i64 (es[k]?.getD Op1.none).ed.at_) ∧ w.cell? ⟨g, off + k * 4 + 2, none⟩ = some (.slice a m d) ∧
    w.cell? ⟨g, off + k * 4 + 3, none⟩ = some (.slice a' m' d') ∧ RdI w S a m d (es[k]?.getD Op1.none).ed.del ∧ RdI w S a' m' d' (es[k]?.getD Op1.none).ed.ins := by
  obtain ⟨_, vs, hr, hi⟩ := h
  obtain ⟨a, m, d, a', m', d', h1, h2, h3⟩ := hi k hk
  obtain ⟨g, off, e, hS, hg, hc⟩ := hr.2.2.2 (by omega)
  refine ⟨g, off, a, m, d, a', m', d', e, hg, ?_, ?_, ?_, ?_, h2, h3⟩
  · exact hc (k * 4) _ (row_get (j := 0) h1 rfl)
  · exact hc (k * 4 + 1) _ (row_get (j := 1) h1 rfl)
  · exact hc (k * 4 + 2) _ (row_get (j := 2) h1 rfl)
  · exact hc (k * 4 + 3) _ (row_get (j := 3) h1 rfl)

theorem end_lo {op : Int} (h : 0 ≤ op) : 0 ≤ endO op ∧ endO op ≤ op := by unfold endO; split <;> omega

theorem RL.fresh (_ : World) {t : World} {g : Nat} (h : Blk t g 77 #[.slice none 0 0, .int .i64 0, .slice none 0 0]) : RL t (fun _ => False) g [] [] 0 := by
  refine ⟨fun x => x, none, 0, 0, none, 0, 0, fun _ => False, fun _ => False, h, OwnK.nil _ _, OwnK.nil _ _, fun b hb => ?_, fun b hb => ?_, fun b hb => ?_, by simp [tot], by simp, by simp, by simp⟩
  · rcases hb with hb | hb | hb | hb
    · exact hb
    · exact hb
    · simp [Value.ownBlock] at hb
    · simp [Value.ownBlock] at hb
  · simp [Value.ownBlock] at hb
  · simp [Value.ownBlock] at hb

/-- What UL says of the groups, closed. -/
theorem UL.closed {w : World} {g : Nat} {S : Nat → Prop} {gs : List (List Ed)} {now : List Ed} {op : Int} (hU : UL w S g gs now op) : (closeG gs now).flatten.length ≤ 16384 ∧ ∀ x ∈ closeG gs now, ∀ e ∈ x, e.fit := by
  obtain ⟨_, _, _, _, _, _, _, _, _, _, _, _, _, _, _, h4, _, h6, h7⟩ := hU
  refine ⟨?_, ?_⟩
  · have h1 := tot_close gs now
    unfold tot at h1 h4
    rw [List.length_flatten]; simp at h1; omega
  · intro x hx; unfold closeG at hx
    split at hx
    · exact h6 x hx
    · rcases List.mem_append.1 hx with hx | hx
      · exact h6 x hx
      · obtain rfl : x = now := by simpa using hx
        exact h7
theorem invs_fit' {es : List Ed} (h : ∀ e ∈ es, e.fit) : ∀ e ∈ invs es, e.fit := by
  intro e he
  unfold invs at he
  simp only [List.mem_reverse, List.mem_map] at he
  obtain ⟨x, hx, rfl⟩ := he
  exact ⟨(h x hx).2, (h x hx).1⟩
theorem last_flat (G : List (List Ed)) : (G.getLast?.getD []).length ≤ G.flatten.length ∧ ∀ e ∈ G.getLast?.getD [], ∃ x ∈ G, e ∈ x := by
  rcases List.eq_nil_or_concat G with h | ⟨ys, y, h⟩
  · subst h; simp
  · have h' : G = ys ++ [y] := by simpa using h
    subst h'
    simp
    intro e he
    exact .inr he

set_option maxHeartbeats 16000000 in
theorem does_law (A : Option Addr) (n c : Nat) (es : List Op1) (w : World) (hE : RdK' opKind 4 Op1.none w (Old w) A n c es) (hn : n ≤ 35184372087808) (hf : ∀ e ∈ es, e.ed.near) :
    Calls Try.prog 13 #[.slice A n c] w fun e w' => e = .returned (.bool true) ∧ Pure w w' := by
  have hnI : (n : Int) ≤ 35184372087808 := by omega
  have HEN := hid hE.1
  go_enter Try.func13, Try.ntmps13
  go_wp2_with (first
    | (go_at_call 40; refine (unew_any w).mono ?_; rintro e w1 h; obtain ⟨g, rfl, hg0, hU1, ho1⟩ := h)
    | (go_at_call 34; refine (begun_any (w1.alloc (.cells #[.slice none 0 0, .int .i64 0, .slice none 0 0] 77))).mono ?_; rintro e w2 ⟨rfl, hp2⟩))
  obtain ⟨g2, hg2⟩ : ∃ g2, g2 = w1.heap.size := ⟨_, rfl⟩
  rw [← hg2]
  have hPr0 : Pr w g g2 [] [] 0 [] [] 0 (fun _ => False) (fun _ => False) w2 := by
    have hp1 : Pure w1 (w1.alloc (.cells #[.slice none 0 0, .int .i64 0, .slice none 0 0] 77)) := (Only.refl _ w1).alloc _
    have hgl := hU1.lt
    have hs1 := ho1.size
    have hb : Blk w2 g2 77 #[.slice none 0 0, .int .i64 0, .slice none 0 0] := by rw [hg2]; exact (Blk.new w1 _ _).pure_ hp2
    exact ⟨(hU1.pure_ hp1).pure_ hp2, RL.fresh w hb, fun _ h => h.elim, fun _ h => h.elim, by omega, hg0, by omega, (ho1.trans hp1).trans hp2⟩
  clear hg2 hp2 hU1 ho1 hg0
  go_loopw [3, 4, 24] (fun v3 v4 i wr => ∃ (k g g2 : Nat) (gs : List (List Ed)) (nw : List Ed) (op : Int) (S S2 : Nat → Prop), k ≤ n ∧ i = .int .i64 k ∧ v3 = .pointer (some ⟨g, 0, none⟩) ∧ v4 = .pointer (some ⟨g2, 0, none⟩) ∧ Pr w g g2 gs nw op gs nw op S S2 wr ∧ 0 ≤ op ∧ op ≤ k) (fun _ _ i _ => n - (intOf i).toNat)
  case atStart => exact ⟨0, g, g2, [], [], 0, _, _, Nat.zero_le _, rfl, rfl, rfl, hPr0, by omega, by omega⟩
  case round =>
    clear hPr0
    obtain ⟨k, g, g2, gs, nw, op, S, S2, hk, rfl, rfl, rfl, hPr, hop0, hop1⟩ := hrel
    by_cases hlt : k < n
    · have hpw : Pure w wr := hPr.2.2.2.2.2.2.2
      obtain ⟨gx, ox, a, m, d, a', m', d', rfl, hgx, hw0, hw1, hw2, hw3, hx, hy⟩ := RdOp.at_ hE hlt
      have hkI : (k : Int) < n := by omega
      have hnear : (es[k]?.getD Op1.none).ed.near := by
        rw [List.getElem?_eq_getElem (by rw [HEN.out]; exact hlt)]
        exact hf _ (List.getElem_mem _)
      obtain ⟨ek, hek⟩ : ∃ v, v = es[k]?.getD Op1.none := ⟨_, rfl⟩
      rw [← hek] at hw0 hw1 hx hy hnear
      obtain ⟨kd, at0, del, ins⟩ := ek
      simp only at hw0 hw1 hx hy
      have hc0 := (hpw.cell (p := ⟨gx, ox + k * 4, none⟩) hgx (fun x => x)).trans hw0
      have hc1 := (hpw.cell (p := ⟨gx, ox + k * 4 + 1, none⟩) hgx (fun x => x)).trans hw1
      have hc2 := (hpw.cell (p := ⟨gx, ox + k * 4 + 2, none⟩) hgx (fun x => x)).trans hw2
      have hc3 := (hpw.cell (p := ⟨gx, ox + k * 4 + 3, none⟩) hgx (fun x => x)).trans hw3
      have hmm := hx.len
      have hmm' := hy.len
      have sm : small m := by rw [← hmm]; have h9 : del.length ≤ 35184372087808 := hnear.2.1; unfold small; omega
      have sm' : small m' := by rw [← hmm']; have h9 : ins.length ≤ 35184372087808 := hnear.2.2; unfold small; omega
      clear hek hnear hmm hmm' hw0 hw1 hw2 hw3
      obtain ⟨W1, hW1⟩ : ∃ W1, W1 = wr.alloc (.cells #[.int .i64 kd, .int .i64 at0, .slice a m d, .slice a' m' d'] 95) := ⟨_, rfl⟩
      have hp1 : Pure wr W1 := by rw [hW1]; exact (Only.refl _ wr).alloc _
      have hb6 : Blk W1 wr.heap.size 95 #[.int .i64 kd, .int .i64 at0, .slice a m d, .slice a' m' d'] := by rw [hW1]; exact Blk.new _ _ _
      have hs1 : W1.heap.size = wr.heap.size + 1 := by rw [hW1]; simp
      have HW1 := hid hW1
      clear hW1
      have hPr1 := hPr.pure_ hp1
      have hgl : g < wr.heap.size := hPr.1.lt
      have hg2l : g2 < wr.heap.size := hPr.2.1.lt
      have hSl : ∀ b, S b → b < wr.heap.size := fun b hb => (hPr.2.2.1 b hb).2.1
      have hS2l : ∀ b, S2 b → b < wr.heap.size := fun b hb => (hPr.2.2.2.1 b hb).2.1
      have hgw : w.heap.size ≤ g := hPr.2.2.2.2.2.1
      have hg2w : w.heap.size ≤ g2 := hPr.2.2.2.2.2.2.1
      have hx1 := hx.pure_ (hpw.trans hp1)
      have hy1 := hy.pure_ (hpw.trans hp1)
      have c0 : W1.cell? ⟨wr.heap.size, 0, none⟩ = some (.int .i64 kd) := hb6.cell 0
      have c1 : W1.cell? ⟨wr.heap.size, 1, none⟩ = some (.int .i64 at0) := hb6.cell 1
      have c2 : W1.cell? ⟨wr.heap.size, 2, none⟩ = some (.slice a m d) := hb6.cell 2
      have c3 : W1.cell? ⟨wr.heap.size, 3, none⟩ = some (.slice a' m' d') := hb6.cell 3
      have hopI : op ≤ 4611686018427387904 := by omega
      have far : ∀ b, (S b ∨ b = g) → b < wr.heap.size := fun b hb => by
        rcases hb with hb | hb
        · exact hSl b hb
        · omega
      have far2 : ∀ b, (S2 b ∨ b = g2) → b < wr.heap.size := fun b hb => by
        rcases hb with hb | hb
        · exact hS2l b hb
        · omega
      by_cases hk0 : kd = 0
      · subst hk0
        go_wp2_with fail
        rw [← HW1.out]
        have hgo : ¬ Old w g := fun h => by have h9 : g < w.heap.size := h; omega
        go_region_held3 (fun X => X.cell? ⟨wr.heap.size, 1, none⟩ = some (.int .i64 at0) ∧ X.cell? ⟨wr.heap.size, 2, none⟩ = some (.slice a m d) ∧ X.cell? ⟨wr.heap.size, 3, none⟩ = some (.slice a' m' d'))
          (first | go_keep | exact ⟨c1, c2, c3⟩ | exact ⟨e1, e2, e3⟩ | exact ⟨f1, f2, f3⟩)
          (first
            | (go_at_call 42; refine (uadd_any g S gs nw op at0 a m d del a' m' d' ins (Old w) (Old w) W1.drew (hPr1.1.pure_ (Only.refl _ _).drew) (hx1.pure_ (Only.refl _ _).drew) (hy1.pure_ (Only.refl _ _).drew) sm sm' hgo hgo).mono ?_; rintro e w4 h; obtain ⟨rfl, hU4, ho4d⟩ := h.any; have ho4 := ho4d.ofDrew; have hPr4 := hPr1.turnU hU4 ho4; have hb64 := hb6.only ho4 (fun h => by have := far _ h; omega); have e1 : w4.cell? ⟨wr.heap.size, 1, none⟩ = some (.int .i64 at0) := hb64.cell 1; have e2 : w4.cell? ⟨wr.heap.size, 2, none⟩ = some (.slice a m d) := hb64.cell 2; have e3 : w4.cell? ⟨wr.heap.size, 3, none⟩ = some (.slice a' m' d') := hb64.cell 3; have hpw4 := hPr4.2.2.2.2.2.2.2)
            | (go_at_call 43; refine (radd_any g2 S2 gs nw op at0 a m d del a' m' d' ins (Old w) (Old w) w4 hPr4.2.1 (hx.pure_ hpw4) (hy.pure_ hpw4) sm sm').mono ?_; rintro e w5 h; obtain ⟨rfl, hU5, ho5⟩ := h.any; have hPr5 := hPr4.turnR hU5 ho5; have hb65 := hb64.only ho5 (fun h => by have := far2 _ h; omega); have f1 : w5.cell? ⟨wr.heap.size, 1, none⟩ = some (.int .i64 at0) := hb65.cell 1; have f2 : w5.cell? ⟨wr.heap.size, 2, none⟩ = some (.slice a m d) := hb65.cell 2; have f3 : w5.cell? ⟨wr.heap.size, 3, none⟩ = some (.slice a' m' d') := hb65.cell 3))
        generalize addCode ⟨at0, del, ins⟩ (tot gs nw) = cd
        have ncd : (cd == cd) = true := by simp
        go_wp2_with fail
        obtain ⟨gsz, hgsz⟩ : ∃ v, v = gsA gs nw op ⟨at0, del, ins⟩ := ⟨_, rfl⟩
        obtain ⟨nwz, hnwz⟩ : ∃ v, v = nwA gs nw op ⟨at0, del, ins⟩ := ⟨_, rfl⟩
        obtain ⟨opz, hopz⟩ : ∃ v, v = op := ⟨_, rfl⟩
        have hPz := hPr5
        rw [← hgsz, ← hnwz, ← hopz] at hPz
        have hoz0 : 0 ≤ opz := by rw [hopz]; exact hop0
        have hoz1 : opz ≤ (k : Int) + 1 := by rw [hopz]; exact (by omega)
        clear hgsz hnwz hopz
        have hP9 := fun q => hPz.pure_ ((Only.refl (fun _ => False) w5).drewN q)
        obtain ⟨Lz, hLz⟩ : ∃ Lz, Lz = gsz.length + min 1 nwz.length := ⟨_, rfl⟩
        obtain ⟨Tz, hTz⟩ : ∃ Tz, Tz = tot gsz nwz := ⟨_, rfl⟩
        have HLz := hid hLz
        have HTz := hid hTz
        have nL : ((Lz : Int) != (Lz : Int)) = false := by simp
        have nT : ((Tz : Int) != (Tz : Int)) = false := by simp
        have nO : (opz != opz) = false := by simp
        clear hLz hTz
        go_wp2_with (first
          | (go_at_call 48; refine (ulen_any g _ gsz nwz opz w5 hPz.1).mono ?_; rintro e w' ⟨rfl, q9, rfl⟩; rw [← HLz.out])
          | (go_at_call 62; refine (rlen_any g2 _ gsz nwz opz _ (hP9 q9).2.1).mono ?_; rintro e w' ⟨rfl, rfl⟩; rw [← HLz.out])
          | (go_at_call 49; refine (uedits_any g _ gsz nwz opz _ (hP9 q9).1).mono ?_; rintro e w' ⟨rfl, rfl⟩; rw [← HTz.out])
          | (go_at_call 63; refine (redits_any g2 _ gsz nwz opz _ (hP9 q9).2.1).mono ?_; rintro e w' ⟨rfl, rfl⟩; rw [← HTz.out])
          | (go_at_call 64; refine (uopen_any g _ gsz nwz opz _ (hP9 q9).1).mono ?_; rintro e w' ⟨rfl, rfl⟩)
          | (go_at_call 65; refine (ropen_any g2 _ gsz nwz opz _ (hP9 q9).2.1).mono ?_; rintro e w' ⟨rfl, rfl⟩))
        go_roundw
        case rel => exact ⟨k + 1, _, _, gsz, nwz, opz, _, _, by omega, by go_num, rfl, rfl, hP9 q9, hoz0, by omega⟩
        case measure => simp [intOf] <;> omega
      by_cases hk1 : kd = 1
      · subst hk1
        go_wp2_with fail
        rw [← HW1.out]
        refine (ubegin_any g S gs nw op W1 hPr1.1 hop0 hopI).mono ?_
        rintro e W2 ⟨rfl, hU2, ho2⟩
        have hPr2 := hPr1.turnU hU2 ho2
        go_wp2_with fail
        refine (rbegin_any g2 S2 gs nw op W2 hPr2.2.1 hop0 hopI).mono ?_
        rintro e W3 ⟨rfl, hU3, ho3⟩
        have hPr3 := hPr2.turnR hU3 ho3
        go_wp2_with fail
        obtain ⟨gsz, hgsz⟩ : ∃ v, v = gs := ⟨_, rfl⟩
        obtain ⟨nwz, hnwz⟩ : ∃ v, v = nw := ⟨_, rfl⟩
        obtain ⟨opz, hopz⟩ : ∃ v, v = op + 1 := ⟨_, rfl⟩
        have hPz := hPr3
        rw [← hgsz, ← hnwz, ← hopz] at hPz
        have hoz0 : 0 ≤ opz := by rw [hopz]; exact (by omega)
        have hoz1 : opz ≤ (k : Int) + 1 := by rw [hopz]; exact (by omega)
        clear hgsz hnwz hopz
        have hP9 := fun q => hPz.pure_ ((Only.refl (fun _ => False) W3).drewN q)
        obtain ⟨Lz, hLz⟩ : ∃ Lz, Lz = gsz.length + min 1 nwz.length := ⟨_, rfl⟩
        obtain ⟨Tz, hTz⟩ : ∃ Tz, Tz = tot gsz nwz := ⟨_, rfl⟩
        have HLz := hid hLz
        have HTz := hid hTz
        have nL : ((Lz : Int) != (Lz : Int)) = false := by simp
        have nT : ((Tz : Int) != (Tz : Int)) = false := by simp
        have nO : (opz != opz) = false := by simp
        clear hLz hTz
        go_wp2_with (first
          | (go_at_call 48; refine (ulen_any g _ gsz nwz opz W3 hPz.1).mono ?_; rintro e w' ⟨rfl, q9, rfl⟩; rw [← HLz.out])
          | (go_at_call 62; refine (rlen_any g2 _ gsz nwz opz _ (hP9 q9).2.1).mono ?_; rintro e w' ⟨rfl, rfl⟩; rw [← HLz.out])
          | (go_at_call 49; refine (uedits_any g _ gsz nwz opz _ (hP9 q9).1).mono ?_; rintro e w' ⟨rfl, rfl⟩; rw [← HTz.out])
          | (go_at_call 63; refine (redits_any g2 _ gsz nwz opz _ (hP9 q9).2.1).mono ?_; rintro e w' ⟨rfl, rfl⟩; rw [← HTz.out])
          | (go_at_call 64; refine (uopen_any g _ gsz nwz opz _ (hP9 q9).1).mono ?_; rintro e w' ⟨rfl, rfl⟩)
          | (go_at_call 65; refine (ropen_any g2 _ gsz nwz opz _ (hP9 q9).2.1).mono ?_; rintro e w' ⟨rfl, rfl⟩))
        go_roundw
        case rel => exact ⟨k + 1, _, _, gsz, nwz, opz, _, _, by omega, by go_num, rfl, rfl, hP9 q9, hoz0, by omega⟩
        case measure => simp [intOf] <;> omega
      by_cases hk2 : kd = 2
      · subst hk2
        go_wp2_with fail
        rw [← HW1.out]
        refine (uend_any g S gs nw op W1 hPr1.1 hop0 hopI).mono ?_
        rintro e W2 ⟨rfl, hU2, ho2⟩
        have hPr2 := hPr1.turnU hU2 ho2
        go_wp2_with fail
        refine (rend_any g2 S2 gs nw op W2 hPr2.2.1 hop0 hopI).mono ?_
        rintro e W3 ⟨rfl, hU3, ho3⟩
        have hPr3 := hPr2.turnR hU3 ho3
        have hlo := end_lo hop0
        generalize endCode op = cd
        have ncd : (cd == cd) = true := by simp
        go_wp2_with fail
        obtain ⟨gsz, hgsz⟩ : ∃ v, v = endG gs nw op := ⟨_, rfl⟩
        obtain ⟨nwz, hnwz⟩ : ∃ v, v = endN nw op := ⟨_, rfl⟩
        obtain ⟨opz, hopz⟩ : ∃ v, v = endO op := ⟨_, rfl⟩
        have hPz := hPr3
        rw [← hgsz, ← hnwz, ← hopz] at hPz
        have hoz0 : 0 ≤ opz := by rw [hopz]; exact hlo.1
        have hoz1 : opz ≤ (k : Int) + 1 := by rw [hopz]; exact (by omega)
        clear hgsz hnwz hopz
        have hP9 := fun q => hPz.pure_ ((Only.refl (fun _ => False) W3).drewN q)
        obtain ⟨Lz, hLz⟩ : ∃ Lz, Lz = gsz.length + min 1 nwz.length := ⟨_, rfl⟩
        obtain ⟨Tz, hTz⟩ : ∃ Tz, Tz = tot gsz nwz := ⟨_, rfl⟩
        have HLz := hid hLz
        have HTz := hid hTz
        have nL : ((Lz : Int) != (Lz : Int)) = false := by simp
        have nT : ((Tz : Int) != (Tz : Int)) = false := by simp
        have nO : (opz != opz) = false := by simp
        clear hLz hTz
        go_wp2_with (first
          | (go_at_call 48; refine (ulen_any g _ gsz nwz opz W3 hPz.1).mono ?_; rintro e w' ⟨rfl, q9, rfl⟩; rw [← HLz.out])
          | (go_at_call 62; refine (rlen_any g2 _ gsz nwz opz _ (hP9 q9).2.1).mono ?_; rintro e w' ⟨rfl, rfl⟩; rw [← HLz.out])
          | (go_at_call 49; refine (uedits_any g _ gsz nwz opz _ (hP9 q9).1).mono ?_; rintro e w' ⟨rfl, rfl⟩; rw [← HTz.out])
          | (go_at_call 63; refine (redits_any g2 _ gsz nwz opz _ (hP9 q9).2.1).mono ?_; rintro e w' ⟨rfl, rfl⟩; rw [← HTz.out])
          | (go_at_call 64; refine (uopen_any g _ gsz nwz opz _ (hP9 q9).1).mono ?_; rintro e w' ⟨rfl, rfl⟩)
          | (go_at_call 65; refine (ropen_any g2 _ gsz nwz opz _ (hP9 q9).2.1).mono ?_; rintro e w' ⟨rfl, rfl⟩))
        go_roundw
        case rel => exact ⟨k + 1, _, _, gsz, nwz, opz, _, _, by omega, by go_num, rfl, rfl, hP9 q9, hoz0, by omega⟩
        case measure => simp [intOf] <;> omega
      by_cases hk3 : kd = 3
      · subst hk3
        by_cases hem : gs = [] ∧ nw = []
        · obtain ⟨rfl, rfl⟩ := hem
          go_wp2_with fail
          rw [← HW1.out]
          refine (uundo_bell g S op W1 hPr1.1).mono ?_
          rintro e W2 ⟨rfl, hU2, ho2⟩
          have hPr2 := hPr1.turnU hU2 ho2
          go_wp2_with fail
          refine (rundo_bell g2 S2 op W2 hPr2.2.1).mono ?_
          rintro e W3 ⟨rfl, hU3, ho3⟩
          have hPr3 := hPr2.turnR hU3 ho3
          have hnil : RdE W3 (fun _ => False) none 0 0 [] := ⟨rfl, [], ⟨rfl, Nat.le_refl _, by unfold maxLen; omega, fun h => absurd h (by omega)⟩, fun j h => absurd h (by omega)⟩
          go_wp2_with fail
          refine (samelist_same none 0 0 _ none 0 _ [] W3 hnil hnil (by omega) (by simp)).mono ?_
          rintro e W4 ⟨rfl, hp4⟩
          have hPr4 := hPr3.pure_ hp4
          go_wp2_with fail
          obtain ⟨gsz, hgsz⟩ : ∃ v, v = ([] : List (List Ed)) := ⟨_, rfl⟩
          obtain ⟨nwz, hnwz⟩ : ∃ v, v = ([] : List Ed) := ⟨_, rfl⟩
          obtain ⟨opz, hopz⟩ : ∃ v, v = op := ⟨_, rfl⟩
          have hPz := hPr4
          rw [← hgsz, ← hnwz, ← hopz] at hPz
          have hoz0 : 0 ≤ opz := by rw [hopz]; exact hop0
          have hoz1 : opz ≤ (k : Int) + 1 := by rw [hopz]; exact (by omega)
          clear hgsz hnwz hopz
          have hP9 := fun q => hPz.pure_ ((Only.refl (fun _ => False) W4).drewN q)
          obtain ⟨Lz, hLz⟩ : ∃ Lz, Lz = gsz.length + min 1 nwz.length := ⟨_, rfl⟩
          obtain ⟨Tz, hTz⟩ : ∃ Tz, Tz = tot gsz nwz := ⟨_, rfl⟩
          have HLz := hid hLz
          have HTz := hid hTz
          have nL : ((Lz : Int) != (Lz : Int)) = false := by simp
          have nT : ((Tz : Int) != (Tz : Int)) = false := by simp
          have nO : (opz != opz) = false := by simp
          clear hLz hTz
          go_wp2_with (first
            | (go_at_call 48; refine (ulen_any g _ gsz nwz opz W4 hPz.1).mono ?_; rintro e w' ⟨rfl, q9, rfl⟩; rw [← HLz.out])
            | (go_at_call 62; refine (rlen_any g2 _ gsz nwz opz _ (hP9 q9).2.1).mono ?_; rintro e w' ⟨rfl, rfl⟩; rw [← HLz.out])
            | (go_at_call 49; refine (uedits_any g _ gsz nwz opz _ (hP9 q9).1).mono ?_; rintro e w' ⟨rfl, rfl⟩; rw [← HTz.out])
            | (go_at_call 63; refine (redits_any g2 _ gsz nwz opz _ (hP9 q9).2.1).mono ?_; rintro e w' ⟨rfl, rfl⟩; rw [← HTz.out])
            | (go_at_call 64; refine (uopen_any g _ gsz nwz opz _ (hP9 q9).1).mono ?_; rintro e w' ⟨rfl, rfl⟩)
            | (go_at_call 65; refine (ropen_any g2 _ gsz nwz opz _ (hP9 q9).2.1).mono ?_; rintro e w' ⟨rfl, rfl⟩))
          go_roundw
          case rel => exact ⟨k + 1, _, _, gsz, nwz, opz, _, _, by omega, by go_num, rfl, rfl, hP9 q9, hoz0, by omega⟩
          case measure => simp [intOf] <;> omega
        · have HEM := hid hem
          clear hem
          have hcl := hPr1.1.closed
          have hlast := last_flat (closeG gs nw)
          go_wp2_with fail
          rw [← HW1.out]
          refine (uundo_some g S gs nw op W1 hPr1.1 HEM.out).mono ?_
          rintro e W2 ⟨A2, n2, c2, rfl, hR2w, hU2, ho2⟩
          have hPr2 := hPr1.turnU hU2 ho2
          have hs2 := ho2.size
          go_wp2_with fail
          refine (rundo_some g2 S2 gs nw op W2 hPr2.2.1 HEM.out).mono ?_
          rintro e W3 ⟨A3, n3, c3, B3, rfl, hB3, hR3, hU3t, ho3⟩
          have hU3 : RL W3 (Plus S2 W2.heap.size) g2 (undoG gs nw) [] 0 := hU3t.mono (fun b _ hb => hb.1) (fun h => by
            rcases h with h | h
            · exact hPr.2.1.1 h
            · omega)
          have hPr3 := hPr2.turnR hU3 ho3
          have hR2 := RdK'.only hR2w ho3 (fun b hb _ e => by have h1 := far2 b e; have h2 : W1.heap.size ≤ b := hb; omega)
          have hlu : (undoOut gs nw).length ≤ 16384 := by unfold undoOut; rw [invs_len']; omega
          have hn2 : n2 ≤ 16384 := by rw [← hR2w.1]; exact hlu
          obtain rfl : n2 = n3 := by rw [← hR2w.1, ← hR3.1]
          have hfit : ∀ e ∈ undoOut gs nw, e.fit := invs_fit' fun e he => by
            obtain ⟨x, hx, hex⟩ := hlast.2 e he
            exact hcl.2 x hx e hex
          clear hR2w hcl hlast hlu hU3t
          go_wp2_with fail
          refine (samelist_same A2 n2 c2 _ A3 c3 _ _ W3 hR2 hR3 hn2 hfit).mono ?_
          rintro e W4 ⟨rfl, hp4⟩
          have hPr4 := hPr3.pure_ hp4
          go_wp2_with fail
          obtain ⟨gsz, hgsz⟩ : ∃ v, v = undoG gs nw := ⟨_, rfl⟩
          obtain ⟨nwz, hnwz⟩ : ∃ v, v = ([] : List Ed) := ⟨_, rfl⟩
          obtain ⟨opz, hopz⟩ : ∃ v, v = (0 : Int) := ⟨_, rfl⟩
          have hPz := hPr4
          rw [← hgsz, ← hnwz, ← hopz] at hPz
          have hoz0 : 0 ≤ opz := by rw [hopz]; exact (by omega)
          have hoz1 : opz ≤ (k : Int) + 1 := by rw [hopz]; exact (by omega)
          clear hgsz hnwz hopz
          have hP9 := fun q => hPz.pure_ ((Only.refl (fun _ => False) W4).drewN q)
          obtain ⟨Lz, hLz⟩ : ∃ Lz, Lz = gsz.length + min 1 nwz.length := ⟨_, rfl⟩
          obtain ⟨Tz, hTz⟩ : ∃ Tz, Tz = tot gsz nwz := ⟨_, rfl⟩
          have HLz := hid hLz
          have HTz := hid hTz
          have nL : ((Lz : Int) != (Lz : Int)) = false := by simp
          have nT : ((Tz : Int) != (Tz : Int)) = false := by simp
          have nO : (opz != opz) = false := by simp
          clear hLz hTz
          go_wp2_with (first
            | (go_at_call 48; refine (ulen_any g _ gsz nwz opz W4 hPz.1).mono ?_; rintro e w' ⟨rfl, q9, rfl⟩; rw [← HLz.out])
            | (go_at_call 62; refine (rlen_any g2 _ gsz nwz opz _ (hP9 q9).2.1).mono ?_; rintro e w' ⟨rfl, rfl⟩; rw [← HLz.out])
            | (go_at_call 49; refine (uedits_any g _ gsz nwz opz _ (hP9 q9).1).mono ?_; rintro e w' ⟨rfl, rfl⟩; rw [← HTz.out])
            | (go_at_call 63; refine (redits_any g2 _ gsz nwz opz _ (hP9 q9).2.1).mono ?_; rintro e w' ⟨rfl, rfl⟩; rw [← HTz.out])
            | (go_at_call 64; refine (uopen_any g _ gsz nwz opz _ (hP9 q9).1).mono ?_; rintro e w' ⟨rfl, rfl⟩)
            | (go_at_call 65; refine (ropen_any g2 _ gsz nwz opz _ (hP9 q9).2.1).mono ?_; rintro e w' ⟨rfl, rfl⟩))
          go_roundw
          case rel => exact ⟨k + 1, _, _, gsz, nwz, opz, _, _, by omega, by go_num, rfl, rfl, hP9 q9, hoz0, by omega⟩
          case measure => simp [intOf] <;> omega
      by_cases hk4 : kd = 4
      · subst hk4
        have hcl := hPr1.1.closed
        go_wp2_with fail
        rw [← HW1.out]
        refine (urevert_any g S gs nw op W1 hPr1.1).mono ?_
        rintro e W2 ⟨A2, n2, c2, rfl, hR2w, hU2, ho2⟩
        have hPr2 := hPr1.turnU hU2 ho2
        have hs2 := ho2.size
        go_wp2_with fail
        refine (rrevert_any g2 S2 gs nw op W2 hPr2.2.1).mono ?_
        rintro e W3 ⟨A3, n3, c3, rfl, hR3, hU3, ho3⟩
        have hPr3 := hPr2.turnR hU3 ho3
        have hR2 := RdK'.only hR2w ho3 (fun b hb _ e => by have h1 := far2 b e; have h2 : W1.heap.size ≤ b := hb; omega)
        have hn2 : n2 ≤ 16384 := by rw [← hR2w.1, invs_len']; exact hcl.1
        obtain rfl : n2 = n3 := by rw [← hR2w.1, ← hR3.1]
        have hfit : ∀ e ∈ invs (closeG gs nw).flatten, e.fit := invs_fit' fun e he => by
          obtain ⟨x, hx, hex⟩ := List.mem_flatten.1 he
          exact hcl.2 x hx e hex
        clear hR2w hcl
        go_wp2_with fail
        refine (samelist_same A2 n2 c2 _ A3 c3 _ _ W3 hR2 hR3 hn2 hfit).mono ?_
        rintro e W4 ⟨rfl, hp4⟩
        have hPr4 := hPr3.pure_ hp4
        go_wp2_with fail
        obtain ⟨gsz, hgsz⟩ : ∃ v, v = ([] : List (List Ed)) := ⟨_, rfl⟩
        obtain ⟨nwz, hnwz⟩ : ∃ v, v = ([] : List Ed) := ⟨_, rfl⟩
        obtain ⟨opz, hopz⟩ : ∃ v, v = (0 : Int) := ⟨_, rfl⟩
        have hPz := hPr4
        rw [← hgsz, ← hnwz, ← hopz] at hPz
        have hoz0 : 0 ≤ opz := by rw [hopz]; exact (by omega)
        have hoz1 : opz ≤ (k : Int) + 1 := by rw [hopz]; exact (by omega)
        clear hgsz hnwz hopz
        have hP9 := fun q => hPz.pure_ ((Only.refl (fun _ => False) W4).drewN q)
        obtain ⟨Lz, hLz⟩ : ∃ Lz, Lz = gsz.length + min 1 nwz.length := ⟨_, rfl⟩
        obtain ⟨Tz, hTz⟩ : ∃ Tz, Tz = tot gsz nwz := ⟨_, rfl⟩
        have HLz := hid hLz
        have HTz := hid hTz
        have nL : ((Lz : Int) != (Lz : Int)) = false := by simp
        have nT : ((Tz : Int) != (Tz : Int)) = false := by simp
        have nO : (opz != opz) = false := by simp
        clear hLz hTz
        go_wp2_with (first
          | (go_at_call 48; refine (ulen_any g _ gsz nwz opz W4 hPz.1).mono ?_; rintro e w' ⟨rfl, q9, rfl⟩; rw [← HLz.out])
          | (go_at_call 62; refine (rlen_any g2 _ gsz nwz opz _ (hP9 q9).2.1).mono ?_; rintro e w' ⟨rfl, rfl⟩; rw [← HLz.out])
          | (go_at_call 49; refine (uedits_any g _ gsz nwz opz _ (hP9 q9).1).mono ?_; rintro e w' ⟨rfl, rfl⟩; rw [← HTz.out])
          | (go_at_call 63; refine (redits_any g2 _ gsz nwz opz _ (hP9 q9).2.1).mono ?_; rintro e w' ⟨rfl, rfl⟩; rw [← HTz.out])
          | (go_at_call 64; refine (uopen_any g _ gsz nwz opz _ (hP9 q9).1).mono ?_; rintro e w' ⟨rfl, rfl⟩)
          | (go_at_call 65; refine (ropen_any g2 _ gsz nwz opz _ (hP9 q9).2.1).mono ?_; rintro e w' ⟨rfl, rfl⟩))
        go_roundw
        case rel => exact ⟨k + 1, _, _, gsz, nwz, opz, _, _, by omega, by go_num, rfl, rfl, hP9 q9, hoz0, by omega⟩
        case measure => simp [intOf] <;> omega
      by_cases hk5 : kd = 5
      · subst hk5
        go_wp2_with fail
        rw [← HW1.out]
        refine (uclear_any g S gs nw op W1 hPr1.1).mono ?_
        rintro e W2 ⟨rfl, hU2, ho2⟩
        have hPr2 := hPr1.turnU hU2 ho2
        have hs2 := ho2.size
        obtain ⟨W3, hW3⟩ : ∃ W3, W3 = W2.alloc (.cells #[.slice none 0 0, .int .i64 0, .slice none 0 0] 77) := ⟨_, rfl⟩
        have hp3 : Pure W2 W3 := by rw [hW3]; exact (Only.refl _ W2).alloc _
        have hb3 : Blk W3 W2.heap.size 77 #[.slice none 0 0, .int .i64 0, .slice none 0 0] := by rw [hW3]; exact Blk.new _ _ _
        have hs3 : W3.heap.size = W2.heap.size + 1 := by rw [hW3]; simp
        have hPr3 : Pr w g W2.heap.size [] [] 0 [] [] 0 (fun b => Plus S W1.heap.size b ∧ b < W2.heap.size) (fun _ => False) W3 := by
          obtain ⟨h1, h2, h3, h4, h5, h6, h7, h8⟩ := hPr2
          exact ⟨h1.pure_ hp3, RL.fresh w hb3, fun b hb => ⟨(h3 b hb).1, by have := hb.2; omega, fun h => h, by have := hb.2; omega⟩, fun _ h => h.elim, by omega, h6, by omega, h8.trans hp3⟩
        obtain ⟨g3, hg3⟩ : ∃ g3, g3 = W2.heap.size := ⟨_, rfl⟩
        rw [← hg3] at hPr3
        have HW3 := hid hW3
        have HG3 := hid hg3
        clear hb3 hp3 hW3 hg3 hs3
        go_wp2_with fail
        rw [← HW3.out, ← HG3.out]
        obtain ⟨gsz, hgsz⟩ : ∃ v, v = ([] : List (List Ed)) := ⟨_, rfl⟩
        obtain ⟨nwz, hnwz⟩ : ∃ v, v = ([] : List Ed) := ⟨_, rfl⟩
        obtain ⟨opz, hopz⟩ : ∃ v, v = (0 : Int) := ⟨_, rfl⟩
        have hPz := hPr3
        rw [← hgsz, ← hnwz, ← hopz] at hPz
        have hoz0 : 0 ≤ opz := by rw [hopz]; exact (by omega)
        have hoz1 : opz ≤ (k : Int) + 1 := by rw [hopz]; exact (by omega)
        clear hgsz hnwz hopz
        have hP9 := fun q => hPz.pure_ ((Only.refl (fun _ => False) W3).drewN q)
        obtain ⟨Lz, hLz⟩ : ∃ Lz, Lz = gsz.length + min 1 nwz.length := ⟨_, rfl⟩
        obtain ⟨Tz, hTz⟩ : ∃ Tz, Tz = tot gsz nwz := ⟨_, rfl⟩
        have HLz := hid hLz
        have HTz := hid hTz
        have nL : ((Lz : Int) != (Lz : Int)) = false := by simp
        have nT : ((Tz : Int) != (Tz : Int)) = false := by simp
        have nO : (opz != opz) = false := by simp
        clear hLz hTz
        go_wp2_with (first
          | (go_at_call 48; refine (ulen_any g _ gsz nwz opz W3 hPz.1).mono ?_; rintro e w' ⟨rfl, q9, rfl⟩; rw [← HLz.out])
          | (go_at_call 62; refine (rlen_any g3 _ gsz nwz opz _ (hP9 q9).2.1).mono ?_; rintro e w' ⟨rfl, rfl⟩; rw [← HLz.out])
          | (go_at_call 49; refine (uedits_any g _ gsz nwz opz _ (hP9 q9).1).mono ?_; rintro e w' ⟨rfl, rfl⟩; rw [← HTz.out])
          | (go_at_call 63; refine (redits_any g3 _ gsz nwz opz _ (hP9 q9).2.1).mono ?_; rintro e w' ⟨rfl, rfl⟩; rw [← HTz.out])
          | (go_at_call 64; refine (uopen_any g _ gsz nwz opz _ (hP9 q9).1).mono ?_; rintro e w' ⟨rfl, rfl⟩)
          | (go_at_call 65; refine (ropen_any g3 _ gsz nwz opz _ (hP9 q9).2.1).mono ?_; rintro e w' ⟨rfl, rfl⟩))
        go_roundw
        case rel => exact ⟨k + 1, _, _, gsz, nwz, opz, _, _, by omega, by go_num, rfl, rfl, hP9 q9, hoz0, by omega⟩
        case measure => simp [intOf] <;> omega
      by_cases hk6 : kd = 6
      · subst hk6
        go_wp2_with fail
        rw [← HW1.out]
        refine (uclone_any g S gs nw op W1 hPr1.1).mono ?_
        rintro e W2 ⟨p, rfl, hpp, hUp, hp2⟩
        have hs2 := hp2.size
        have hpl := hUp.lt
        have hPc2 : UL W2 (fun b => W1.heap.size ≤ b ∧ b < W2.heap.size ∧ b ≠ p) p gs nw op := hUp.tight.mono (fun b _ hb => ⟨hb.1.1, hb.2, hb.1.2⟩) fun h => h.2.2 rfl
        have hPr2 := hPr1.pure_ hp2
        have hb62 := hb6.pure_ hp2
        have p1 : W2.cell? ⟨wr.heap.size, 1, none⟩ = some (.int .i64 at0) := hb62.cell 1
        have p2 : W2.cell? ⟨wr.heap.size, 2, none⟩ = some (.slice a m d) := hb62.cell 2
        have p3 : W2.cell? ⟨wr.heap.size, 3, none⟩ = some (.slice a' m' d') := hb62.cell 3
        have hwl := hpw.size
        clear hUp
        go_wp2_with fail
        refine (uadd_any g S gs nw op at0 a m d del a' m' d' ins (Old w) (Old w) W2 hPr2.1 (hx1.pure_ hp2) (hy1.pure_ hp2) sm sm' (fun h => by have h9 : g < w.heap.size := h; omega) (fun h => by have h9 : g < w.heap.size := h; omega)).mono ?_
        rintro e W3 h
        obtain ⟨rfl, hU3, ho3⟩ := h.any
        have hs3 := ho3.size
        have hPc := hPc2.only ho3 (fun b hb e => by have := far b e; omega) (fun e => by have := far p e; omega)
        have hR3 := (hPr2.2.1).only ho3 (fun b hb e => by
          rcases e with e | e
          · exact (hPr1.2.2.1 b e).2.2.1 hb
          · exact (hPr1.2.2.2.1 b hb).2.2 e) (fun e => by
          rcases e with e | e
          · exact (hPr1.2.2.1 g2 e).2.2.2 rfl
          · exact hPr1.2.2.2.2.1 e.symm)
        have hpw3 : Pure w W3 := hPr2.2.2.2.2.2.2.2.then_ ho3 fun i hi e => by
          rcases e with e | e
          · have := (hPr1.2.2.1 i e).1; omega
          · omega
        clear h p1 p2 p3 hPc2 hb62
        generalize gsA gs nw op ⟨at0, del, ins⟩ = gs3 at hU3
        generalize nwA gs nw op ⟨at0, del, ins⟩ = nw3 at hU3
        by_cases hem : gs3 = [] ∧ nw3 = []
        · obtain ⟨rfl, rfl⟩ := hem
          go_wp2_with fail
          refine (uundo_bell g _ op W3 hU3).mono ?_
          rintro e W4 ⟨rfl, hU4, ho4⟩
          have hp4x : Only (fun b => (S b ∨ W2.heap.size ≤ b) ∨ b = g) W3 W4 := ho4
          have hPc4 := hPc.only hp4x (fun b hb e => by
            rcases e with (e | e) | e
            · have := hSl b e; omega
            · omega
            · omega) (fun e => by
            rcases e with (e | e) | e
            · have := hSl p e; omega
            · omega
            · omega)
          have hR4 := hR3.only hp4x (fun b hb e => by
            rcases e with (e | e) | e
            · exact (hPr1.2.2.1 b e).2.2.1 hb
            · have := hS2l b hb; omega
            · exact (hPr1.2.2.2.1 b hb).2.2 e) (fun e => by
            rcases e with (e | e) | e
            · exact (hPr1.2.2.1 g2 e).2.2.2 rfl
            · omega
            · exact hPr1.2.2.2.2.1 e.symm)
          have hs4 := hp4x.size
          have hpw4 : Pure w W4 := hpw3.then_ hp4x fun i hi e => by
            rcases e with (e | e) | e
            · have := (hPr1.2.2.1 i e).1; omega
            · omega
            · omega
          go_wp2_with fail
          refine (rcopy_any g2 S2 gs nw op W4 hR4).mono ?_
          rintro e W5 ⟨p2, rfl, hp2w, hRc, hp5⟩
          have hs5 := hp5.size
          have hp2l := hRc.lt
          have hPr5 : Pr w p p2 gs nw op gs nw op (fun b => W1.heap.size ≤ b ∧ b < W2.heap.size ∧ b ≠ p) (fun b => (W4.heap.size ≤ b ∧ b ≠ p2) ∧ b < W5.heap.size) W5 :=
            ⟨hPc4.pure_ hp5, hRc.tight, fun b hb => ⟨by omega, by omega, fun h => by have := h.1.1; omega, by omega⟩, fun b hb => ⟨by have := hb.1.1; omega, hb.2, by have := hb.1.1; omega⟩, by omega, by omega, by omega, hpw4.trans hp5⟩
          go_wp2_with fail
          obtain ⟨gsz, hgsz⟩ : ∃ v, v = gs := ⟨_, rfl⟩
          obtain ⟨nwz, hnwz⟩ : ∃ v, v = nw := ⟨_, rfl⟩
          obtain ⟨opz, hopz⟩ : ∃ v, v = op := ⟨_, rfl⟩
          have hPz := hPr5
          rw [← hgsz, ← hnwz, ← hopz] at hPz
          have hoz0 : 0 ≤ opz := by rw [hopz]; exact hop0
          have hoz1 : opz ≤ (k : Int) + 1 := by rw [hopz]; exact (by omega)
          clear hgsz hnwz hopz
          have hP9 := fun q => hPz.pure_ ((Only.refl (fun _ => False) W5).drewN q)
          obtain ⟨Lz, hLz⟩ : ∃ Lz, Lz = gsz.length + min 1 nwz.length := ⟨_, rfl⟩
          obtain ⟨Tz, hTz⟩ : ∃ Tz, Tz = tot gsz nwz := ⟨_, rfl⟩
          have HLz := hid hLz
          have HTz := hid hTz
          have nL : ((Lz : Int) != (Lz : Int)) = false := by simp
          have nT : ((Tz : Int) != (Tz : Int)) = false := by simp
          have nO : (opz != opz) = false := by simp
          clear hLz hTz
          go_wp2_with (first
            | (go_at_call 48; refine (ulen_any p _ gsz nwz opz W5 hPz.1).mono ?_; rintro e w' ⟨rfl, q9, rfl⟩; rw [← HLz.out])
            | (go_at_call 62; refine (rlen_any p2 _ gsz nwz opz _ (hP9 q9).2.1).mono ?_; rintro e w' ⟨rfl, rfl⟩; rw [← HLz.out])
            | (go_at_call 49; refine (uedits_any p _ gsz nwz opz _ (hP9 q9).1).mono ?_; rintro e w' ⟨rfl, rfl⟩; rw [← HTz.out])
            | (go_at_call 63; refine (redits_any p2 _ gsz nwz opz _ (hP9 q9).2.1).mono ?_; rintro e w' ⟨rfl, rfl⟩; rw [← HTz.out])
            | (go_at_call 64; refine (uopen_any p _ gsz nwz opz _ (hP9 q9).1).mono ?_; rintro e w' ⟨rfl, rfl⟩)
            | (go_at_call 65; refine (ropen_any p2 _ gsz nwz opz _ (hP9 q9).2.1).mono ?_; rintro e w' ⟨rfl, rfl⟩))
          go_roundw
          case rel => exact ⟨k + 1, _, _, gsz, nwz, opz, _, _, by omega, by go_num, rfl, rfl, hP9 q9, hoz0, by omega⟩
          case measure => simp [intOf] <;> omega
        · have HEM := hid hem
          clear hem
          go_wp2_with fail
          refine (uundo_some g _ gs3 nw3 op W3 hU3 HEM.out).mono ?_
          rintro e W4 ⟨A4, n4, c4, rfl, hE4, hU4, ho4⟩
          have hp4x : Only (fun b => (S b ∨ W2.heap.size ≤ b) ∨ b = g) W3 W4 := ho4
          have hPc4 := hPc.only hp4x (fun b hb e => by
            rcases e with (e | e) | e
            · have := hSl b e; omega
            · omega
            · omega) (fun e => by
            rcases e with (e | e) | e
            · have := hSl p e; omega
            · omega
            · omega)
          have hR4 := hR3.only hp4x (fun b hb e => by
            rcases e with (e | e) | e
            · exact (hPr1.2.2.1 b e).2.2.1 hb
            · have := hS2l b hb; omega
            · exact (hPr1.2.2.2.1 b hb).2.2 e) (fun e => by
            rcases e with (e | e) | e
            · exact (hPr1.2.2.1 g2 e).2.2.2 rfl
            · omega
            · exact hPr1.2.2.2.2.1 e.symm)
          have hs4 := hp4x.size
          have hpw4 : Pure w W4 := hpw3.then_ hp4x fun i hi e => by
            rcases e with (e | e) | e
            · have := (hPr1.2.2.1 i e).1; omega
            · omega
            · omega
          go_wp2_with fail
          refine (rcopy_any g2 S2 gs nw op W4 hR4).mono ?_
          rintro e W5 ⟨p2, rfl, hp2w, hRc, hp5⟩
          have hs5 := hp5.size
          have hp2l := hRc.lt
          have hPr5 : Pr w p p2 gs nw op gs nw op (fun b => W1.heap.size ≤ b ∧ b < W2.heap.size ∧ b ≠ p) (fun b => (W4.heap.size ≤ b ∧ b ≠ p2) ∧ b < W5.heap.size) W5 :=
            ⟨hPc4.pure_ hp5, hRc.tight, fun b hb => ⟨by omega, by omega, fun h => by have := h.1.1; omega, by omega⟩, fun b hb => ⟨by have := hb.1.1; omega, hb.2, by have := hb.1.1; omega⟩, by omega, by omega, by omega, hpw4.trans hp5⟩
          go_wp2_with fail
          obtain ⟨gsz, hgsz⟩ : ∃ v, v = gs := ⟨_, rfl⟩
          obtain ⟨nwz, hnwz⟩ : ∃ v, v = nw := ⟨_, rfl⟩
          obtain ⟨opz, hopz⟩ : ∃ v, v = op := ⟨_, rfl⟩
          have hPz := hPr5
          rw [← hgsz, ← hnwz, ← hopz] at hPz
          have hoz0 : 0 ≤ opz := by rw [hopz]; exact hop0
          have hoz1 : opz ≤ (k : Int) + 1 := by rw [hopz]; exact (by omega)
          clear hgsz hnwz hopz
          have hP9 := fun q => hPz.pure_ ((Only.refl (fun _ => False) W5).drewN q)
          obtain ⟨Lz, hLz⟩ : ∃ Lz, Lz = gsz.length + min 1 nwz.length := ⟨_, rfl⟩
          obtain ⟨Tz, hTz⟩ : ∃ Tz, Tz = tot gsz nwz := ⟨_, rfl⟩
          have HLz := hid hLz
          have HTz := hid hTz
          have nL : ((Lz : Int) != (Lz : Int)) = false := by simp
          have nT : ((Tz : Int) != (Tz : Int)) = false := by simp
          have nO : (opz != opz) = false := by simp
          clear hLz hTz
          go_wp2_with (first
            | (go_at_call 48; refine (ulen_any p _ gsz nwz opz W5 hPz.1).mono ?_; rintro e w' ⟨rfl, q9, rfl⟩; rw [← HLz.out])
            | (go_at_call 62; refine (rlen_any p2 _ gsz nwz opz _ (hP9 q9).2.1).mono ?_; rintro e w' ⟨rfl, rfl⟩; rw [← HLz.out])
            | (go_at_call 49; refine (uedits_any p _ gsz nwz opz _ (hP9 q9).1).mono ?_; rintro e w' ⟨rfl, rfl⟩; rw [← HTz.out])
            | (go_at_call 63; refine (redits_any p2 _ gsz nwz opz _ (hP9 q9).2.1).mono ?_; rintro e w' ⟨rfl, rfl⟩; rw [← HTz.out])
            | (go_at_call 64; refine (uopen_any p _ gsz nwz opz _ (hP9 q9).1).mono ?_; rintro e w' ⟨rfl, rfl⟩)
            | (go_at_call 65; refine (ropen_any p2 _ gsz nwz opz _ (hP9 q9).2.1).mono ?_; rintro e w' ⟨rfl, rfl⟩))
          go_roundw
          case rel => exact ⟨k + 1, _, _, gsz, nwz, opz, _, _, by omega, by go_num, rfl, rfl, hP9 q9, hoz0, by omega⟩
          case measure => simp [intOf] <;> omega
      have k0 : (kd == 0) = false := by simpa using hk0
      have k1 : (kd == 1) = false := by simpa using hk1
      have k2 : (kd == 2) = false := by simpa using hk2
      have k3 : (kd == 3) = false := by simpa using hk3
      have k4 : (kd == 4) = false := by simpa using hk4
      have k5 : (kd == 5) = false := by simpa using hk5
      have k6 : (kd == 6) = false := by simpa using hk6
      clear hk0 hk1 hk2 hk3 hk4 hk5 hk6
      go_wp2_with fail
      rw [← HW1.out]
      obtain ⟨gsz, hgsz⟩ : ∃ v, v = gs := ⟨_, rfl⟩
      obtain ⟨nwz, hnwz⟩ : ∃ v, v = nw := ⟨_, rfl⟩
      obtain ⟨opz, hopz⟩ : ∃ v, v = op := ⟨_, rfl⟩
      have hPz := hPr1
      rw [← hgsz, ← hnwz, ← hopz] at hPz
      have hoz0 : 0 ≤ opz := by rw [hopz]; exact hop0
      have hoz1 : opz ≤ (k : Int) + 1 := by rw [hopz]; exact (by omega)
      clear hgsz hnwz hopz
      have hP9 := fun q => hPz.pure_ ((Only.refl (fun _ => False) W1).drewN q)
      obtain ⟨Lz, hLz⟩ : ∃ Lz, Lz = gsz.length + min 1 nwz.length := ⟨_, rfl⟩
      obtain ⟨Tz, hTz⟩ : ∃ Tz, Tz = tot gsz nwz := ⟨_, rfl⟩
      have HLz := hid hLz
      have HTz := hid hTz
      have nL : ((Lz : Int) != (Lz : Int)) = false := by simp
      have nT : ((Tz : Int) != (Tz : Int)) = false := by simp
      have nO : (opz != opz) = false := by simp
      clear hLz hTz
      go_wp2_with (first
        | (go_at_call 48; refine (ulen_any g _ gsz nwz opz W1 hPz.1).mono ?_; rintro e w' ⟨rfl, q9, rfl⟩; rw [← HLz.out])
        | (go_at_call 62; refine (rlen_any g2 _ gsz nwz opz _ (hP9 q9).2.1).mono ?_; rintro e w' ⟨rfl, rfl⟩; rw [← HLz.out])
        | (go_at_call 49; refine (uedits_any g _ gsz nwz opz _ (hP9 q9).1).mono ?_; rintro e w' ⟨rfl, rfl⟩; rw [← HTz.out])
        | (go_at_call 63; refine (redits_any g2 _ gsz nwz opz _ (hP9 q9).2.1).mono ?_; rintro e w' ⟨rfl, rfl⟩; rw [← HTz.out])
        | (go_at_call 64; refine (uopen_any g _ gsz nwz opz _ (hP9 q9).1).mono ?_; rintro e w' ⟨rfl, rfl⟩)
        | (go_at_call 65; refine (ropen_any g2 _ gsz nwz opz _ (hP9 q9).2.1).mono ?_; rintro e w' ⟨rfl, rfl⟩))
      go_roundw
      case rel => exact ⟨k + 1, _, _, gsz, nwz, opz, _, _, by omega, by go_num, rfl, rfl, hP9 q9, hoz0, by omega⟩
      case measure => simp [intOf] <;> omega
    · obtain rfl : n = k := by omega
      go_wp2_with (first
        | (go_at_call 46; refine (rall_any g2 S2 gs nw op wr hPr.2.1).mono ?_; rintro e w10 ⟨Ar, cr, rfl, hLr, hp10⟩)
        | (go_at_call 45; refine (told_groups g S gs nw op w10 (hPr.1.pure_ hp10) Ar cr _ hLr).mono ?_; rintro e w11 ⟨rfl, hp11⟩))
      go_ret
      exact ⟨rfl, hPr.2.2.2.2.2.2.2.trans (hp10.trans hp11)⟩

end Go.Proofs.Ytinlpmgchcbjpaa
