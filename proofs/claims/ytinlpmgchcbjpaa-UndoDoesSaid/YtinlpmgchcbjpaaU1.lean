/- Edits: the same, clones, inverses. -/
import Derived.Test.YtinlpmgchcbjpaaUx
import Derived.Test.YtinlpmgchcbjpaaRd
namespace Go.Proofs.Ytinlpmgchcbjpaa
open Go Go.RowKit
set_option maxHeartbeats 1000000
set_option maxRecDepth 100000

/-- An edit, as it is read. -/
structure Ed where
  at_ : Int
  del : List Int
  ins : List Int
def Ed.none : Ed := ⟨0, [], []⟩
instance : Inhabited Ed := ⟨Ed.none⟩
def Ed.inv (e : Ed) : Ed := ⟨e.at_, e.ins, e.del⟩
def Ed.fit (e : Ed) : Prop := small e.del.length ∧ small e.ins.length

theorem runes_same (A : Option Addr) (n c : Nat) (xs : List Int) (S : Nat → Prop) (A' : Option Addr) (c' : Nat) (ys : List Int) (S' : Nat → Prop) (w : World)
    (hr : RdI w S A n c xs) (hr' : RdI w S' A' n c' ys) (hn : small n) :
    Calls Try.prog 35 #[.slice A n c, .slice A' n c'] w fun e w' => e = .returned (.bool (eqL xs ys)) ∧ ∃ q, w' = w.drewN q := by
  have hb : (n : Int) ≤ 9223372036854775807 := by unfold small at hn; omega
  go_enter Try.func35, Try.ntmps35
  go_wp2
  go_loopw [5] (fun i wr => ∃ k : Nat, k ≤ n ∧ i = .int .i64 k ∧ Alike' xs ys k ∧ ∃ q, wr = w.drewN q) (fun i _ => n - (intOf i).toNat)
  case atStart => exact ⟨0, Nat.zero_le _, rfl, (fun j h => by omega), 0, rfl⟩
  case round =>
    obtain ⟨k, hk, rfl, hal, q, rfl⟩ := hrel
    by_cases hlt : k < n
    · obtain ⟨g, off, rfl, _, _, hc⟩ := hr.at_ hlt
      obtain ⟨g', off', rfl, _, _, hc'⟩ := hr'.at_ hlt
      go_wp2
      go_quiet (fail)
      go_wp2
      · go_ret
        exact ⟨ret_bool (eqL_not (by assumption)).symm, drew2 _ _ _⟩
      · go_roundw
        case rel => exact ⟨k + 1, by omega, by go_num, hal.succ hr.len hr'.len hlt (by assumption), _, rfl⟩
        case measure => simp [intOf]; omega
    · obtain rfl : k = n := by omega
      go_wp2
      go_ret
      exact ⟨ret_bool (eqL_of hr.len hr'.len hal).symm, _, rfl⟩

theorem runes_lens (A : Option Addr) (n c : Nat) (xs : List Int) (S : Nat → Prop) (A' : Option Addr) (n' c' : Nat) (ys : List Int) (S' : Nat → Prop) (w : World)
    (hr : RdI w S A n c xs) (hr' : RdI w S' A' n' c' ys) (hne : ((n : Int) != (n' : Int)) = true) :
    Calls Try.prog 35 #[.slice A n c, .slice A' n' c'] w fun e w' => e = .returned (.bool (eqL xs ys)) ∧ ∃ q, w' = w.drewN q := by
  have he : eqL xs ys = false := by
    unfold eqL; rw [decide_eq_false_iff_not]; rintro rfl
    have h1 := hr.len; have h2 := hr'.len
    rw [bne_iff_ne] at hne; omega
  go_enter Try.func35, Try.ntmps35
  go_wp2
  go_ret
  exact ⟨ret_bool he.symm, 0, rfl⟩

/-- SameRunes. -/
theorem runes_any (A : Option Addr) (n c : Nat) (xs : List Int) (S : Nat → Prop) (A' : Option Addr) (n' c' : Nat) (ys : List Int) (S' : Nat → Prop) (w : World)
    (hr : RdI w S A n c xs) (hr' : RdI w S' A' n' c' ys) (hn : small n) :
    Calls Try.prog 35 #[.slice A n c, .slice A' n' c'] w fun e w' => e = .returned (.bool (eqL xs ys)) ∧ ∃ q, w' = w.drewN q := by
  by_cases h : n = n'
  · subst h; exact runes_same A n c xs S A' c' ys S' w hr hr' hn
  · exact runes_lens A n c xs S A' n' c' ys S' w hr hr' (by rw [bne_iff_ne]; omega)

/-- The reference's clone. -/
theorem rclone_any (A : Option Addr) (n c : Nat) (xs : List Int) (S : Nat → Prop) (w : World) (hr : RdI w S A n c xs) (hn : small n) :
    Calls Try.prog 75 #[.slice A n c] w (OutI w xs) := by
  go_enter Try.func75, Try.ntmps75
  go_wp2_with (at_builtin; refine appendI _ _ rfl rfl w.heap.size (.slice none 0 0) 0 [] rfl (World.ownsRow_nil _ _ _ _) S A n c _ rfl hr (oneI xs) (by simpa using hn.maxLen) (by simpa using hn.bytes) (Nat.le_refl _) ?_; intro A' c' w' ho hp _; simp only [Nat.zero_add, List.nil_append] at ho)
  go_ret
  exact ⟨_, _, _, rfl, own_new ho, hp.mono fun b _ e => by simp [Value.ownBlock] at e⟩

/-- An edit that is handed back: in new memory. -/
def EdOut (w : World) (e : Ed) (r : Ending) (w' : World) : Prop :=
  ∃ A n c A' n' c', r = .returned (.agg #[.int .i64 e.at_, .slice A n c, .slice A' n' c']) ∧ RdI w' (fun b => w.heap.size ≤ b) A n c e.del ∧ RdI w' (fun b => w.heap.size ≤ b) A' n' c' e.ins ∧ Pure w w'

theorem size60 : (Try.prog.info? 60).map (·.size) = some 3 := by kernel_rfl

theorem own_edit (at0 : Int) (A : Option Addr) (n c : Nat) (del : List Int) (A' : Option Addr) (n' c' : Nat) (ins : List Int) (S S' : Nat → Prop) (w : World) (hr : RdI w S A n c del) (hr' : RdI w S' A' n' c' ins) (hn : small n) (hn' : small n') :
    Calls Try.prog 77 #[.agg #[.int .i64 at0, .slice A n c, .slice A' n' c']] w (EdOut w ⟨at0, del, ins⟩) := by
  go_enter Try.func77, Try.ntmps77
  go_wp2_with fail
  obtain ⟨w0, hw0⟩ : ∃ w0, w0 = (w.alloc (.cells #[.int .i64 at0, .slice A n c, .slice A' n' c'] 60)).alloc (.cells #[.int .i64 0, .slice none 0 0, .slice none 0 0] 60) := ⟨_, rfl⟩
  rw [← hw0]
  have hp0 : Pure w w0 := by rw [hw0]; exact ((Only.refl _ w).alloc _).alloc _
  have hb : Blk w0 w.heap.size 60 #[.int .i64 at0, .slice A n c, .slice A' n' c'] := by rw [hw0]; exact (Blk.new w _ _).alloc _
  have hz : Blk w0 (w.heap.size + 1) 60 #[.int .i64 0, .slice none 0 0, .slice none 0 0] := by
    rw [hw0]; have := Blk.new (w.alloc (.cells #[.int .i64 at0, .slice A n c, .slice A' n' c'] 60)) 60 #[.int .i64 0, .slice none 0 0, .slice none 0 0]; rwa [World.size_alloc] at this
  have d0 : w0.cell? ⟨w.heap.size, 0, none⟩ = some (.int .i64 at0) := hb.cell 0
  have d1 : w0.cell? ⟨w.heap.size, 1, none⟩ = some (.slice A n c) := hb.cell 1
  have d2 : w0.cell? ⟨w.heap.size, 2, none⟩ = some (.slice A' n' c') := hb.cell 2
  clear hw0
  go_region_held3 (fun X => X.cell? ⟨w.heap.size, 0, none⟩ = some (.int .i64 at0) ∧ X.cell? ⟨w.heap.size, 1, none⟩ = some (.slice A n c) ∧ X.cell? ⟨w.heap.size, 2, none⟩ = some (.slice A' n' c'))
    (first | go_keep | exact ⟨d0, d1, d2⟩ | exact ⟨e0, e1, e2⟩ | exact ⟨f0, f1, f2⟩)
    (first
      | (go_at_call 70; refine (clone_any A' n' c' ins S' w4 ((hr'.pure_ hp0).pure_ hp4.ofDrew) hn').mono ?_; rintro e w5 ⟨A4, n4, c4, rfl, hR5, hp5⟩; have hb5 := hb4.pure_ hp5; have hz5 := hz4.pure_ hp5; have f0 : w5.cell? ⟨w.heap.size, 0, none⟩ = some (.int .i64 at0) := hb5.cell 0; have f1 : w5.cell? ⟨w.heap.size, 1, none⟩ = some (.slice A n c) := hb5.cell 1; have f2 : w5.cell? ⟨w.heap.size, 2, none⟩ = some (.slice A' n' c') := hb5.cell 2; have g0 : w5.cell? ⟨w.heap.size + 1, 0, none⟩ = some (.int .i64 0) := hz5.cell 0; have g1 : w5.cell? ⟨w.heap.size + 1, 1, none⟩ = some (.slice none 0 0) := hz5.cell 1; have g2 : w5.cell? ⟨w.heap.size + 1, 2, none⟩ = some (.slice none 0 0) := hz5.cell 2; have k0 := hz5.frozen 0; have k1 := hz5.frozen 1; have k2 := hz5.frozen 2)
      | (go_at_call 70; refine (clone_any A n c del S w0.drew (hr.pure_ hp0.drew) hn).mono ?_; rintro e w4 ⟨A3, n3, c3, rfl, hR4, hp4⟩; have hb4 := hb.pure_ hp4.ofDrew; have hz4 := hz.pure_ hp4.ofDrew; have e0 : w4.cell? ⟨w.heap.size, 0, none⟩ = some (.int .i64 at0) := hb4.cell 0; have e1 : w4.cell? ⟨w.heap.size, 1, none⟩ = some (.slice A n c) := hb4.cell 1; have e2 : w4.cell? ⟨w.heap.size, 2, none⟩ = some (.slice A' n' c') := hb4.cell 2))
  go_wp2
  have ho : Only (fun b => b = w.heap.size + 1) w5 (((w5.setCell ⟨w.heap.size + 1, 0, none⟩ (.int .i64 at0)).setCell ⟨w.heap.size + 1, 1, none⟩ (.slice A3 n3 c3)).setCell ⟨w.heap.size + 1, 2, none⟩ (.slice A4 n4 c4)) := (((Only.refl _ w5).set 0 _).set 1 _).set 2 _
  have hs0 := hp0.size
  have hs4 := hp4.ofDrew.size
  have hs5 := hp5.size
  have hlz := hz.lt
  refine bodyPost_ret (results_cell_row rfl _ _ (w.heap.size + 1) 60 #[.int .i64 at0, .slice A3 n3 c3, .slice A4 n4 c4] (0, 0) _ rfl (by simpa [Blk] using ((hz5.set_ 0 (.int .i64 at0)).set_ 1 (.slice A3 n3 c3)).set_ 2 (.slice A4 n4 c4)) Try.underlying60 rfl size60) rfl ?_
  have hR4' : RdI w4 (fun b => w0.heap.size ≤ b) A3 n3 c3 del := hR4
  refine ⟨A3, n3, c3, A4, n4, c4, rfl, RdI.mono ((hR4'.pure_ hp5).only ho fun b hb _ e => ?_) (fun b _ hb => ?_), RdI.mono (RdI.only hR5 ho fun b hb _ e => ?_) (fun b _ hb => ?_), ((hp0.trans hp4.ofDrew).trans hp5).then_ ho fun i hi e => ?_⟩
  · have h1 : w0.heap.size ≤ b := hb; have h2 : b = w.heap.size + 1 := e; omega
  · have h1 : w0.heap.size ≤ b := hb; omega
  · have h1 : w4.heap.size ≤ b := hb; have h2 : b = w.heap.size + 1 := e; omega
  · have h1 : w4.heap.size ≤ b := hb; omega
  · have h2 : i = w.heap.size + 1 := e; omega

theorem rclone_edit (at0 : Int) (A : Option Addr) (n c : Nat) (del : List Int) (A' : Option Addr) (n' c' : Nat) (ins : List Int) (S S' : Nat → Prop) (w : World) (hr : RdI w S A n c del) (hr' : RdI w S' A' n' c' ins) (hn : small n) (hn' : small n') :
    Calls Try.prog 41 #[.agg #[.int .i64 at0, .slice A n c, .slice A' n' c']] w (EdOut w ⟨at0, del, ins⟩) := by
  go_enter Try.func41, Try.ntmps41
  go_wp2_with fail
  obtain ⟨w0, hw0⟩ : ∃ w0, w0 = (w.alloc (.cells #[.int .i64 at0, .slice A n c, .slice A' n' c'] 60)).alloc (.cells #[.int .i64 0, .slice none 0 0, .slice none 0 0] 60) := ⟨_, rfl⟩
  rw [← hw0]
  have hp0 : Pure w w0 := by rw [hw0]; exact ((Only.refl _ w).alloc _).alloc _
  have hb : Blk w0 w.heap.size 60 #[.int .i64 at0, .slice A n c, .slice A' n' c'] := by rw [hw0]; exact (Blk.new w _ _).alloc _
  have hz : Blk w0 (w.heap.size + 1) 60 #[.int .i64 0, .slice none 0 0, .slice none 0 0] := by
    rw [hw0]; have := Blk.new (w.alloc (.cells #[.int .i64 at0, .slice A n c, .slice A' n' c'] 60)) 60 #[.int .i64 0, .slice none 0 0, .slice none 0 0]; rwa [World.size_alloc] at this
  have d0 : w0.cell? ⟨w.heap.size, 0, none⟩ = some (.int .i64 at0) := hb.cell 0
  have d1 : w0.cell? ⟨w.heap.size, 1, none⟩ = some (.slice A n c) := hb.cell 1
  have d2 : w0.cell? ⟨w.heap.size, 2, none⟩ = some (.slice A' n' c') := hb.cell 2
  clear hw0
  go_region_held3 (fun X => X.cell? ⟨w.heap.size, 0, none⟩ = some (.int .i64 at0) ∧ X.cell? ⟨w.heap.size, 1, none⟩ = some (.slice A n c) ∧ X.cell? ⟨w.heap.size, 2, none⟩ = some (.slice A' n' c'))
    (first | go_keep | exact ⟨d0, d1, d2⟩ | exact ⟨e0, e1, e2⟩ | exact ⟨f0, f1, f2⟩)
    (first
      | (go_at_call 75; refine (rclone_any A' n' c' ins S' w4 ((hr'.pure_ hp0).pure_ hp4.ofDrew) hn').mono ?_; rintro e w5 ⟨A4, n4, c4, rfl, hR5, hp5⟩; have hb5 := hb4.pure_ hp5; have hz5 := hz4.pure_ hp5; have f0 : w5.cell? ⟨w.heap.size, 0, none⟩ = some (.int .i64 at0) := hb5.cell 0; have f1 : w5.cell? ⟨w.heap.size, 1, none⟩ = some (.slice A n c) := hb5.cell 1; have f2 : w5.cell? ⟨w.heap.size, 2, none⟩ = some (.slice A' n' c') := hb5.cell 2; have g0 : w5.cell? ⟨w.heap.size + 1, 0, none⟩ = some (.int .i64 0) := hz5.cell 0; have g1 : w5.cell? ⟨w.heap.size + 1, 1, none⟩ = some (.slice none 0 0) := hz5.cell 1; have g2 : w5.cell? ⟨w.heap.size + 1, 2, none⟩ = some (.slice none 0 0) := hz5.cell 2; have k0 := hz5.frozen 0; have k1 := hz5.frozen 1; have k2 := hz5.frozen 2)
      | (go_at_call 75; refine (rclone_any A n c del S w0.drew (hr.pure_ hp0.drew) hn).mono ?_; rintro e w4 ⟨A3, n3, c3, rfl, hR4, hp4⟩; have hb4 := hb.pure_ hp4.ofDrew; have hz4 := hz.pure_ hp4.ofDrew; have e0 : w4.cell? ⟨w.heap.size, 0, none⟩ = some (.int .i64 at0) := hb4.cell 0; have e1 : w4.cell? ⟨w.heap.size, 1, none⟩ = some (.slice A n c) := hb4.cell 1; have e2 : w4.cell? ⟨w.heap.size, 2, none⟩ = some (.slice A' n' c') := hb4.cell 2))
  go_wp2
  have ho : Only (fun b => b = w.heap.size + 1) w5 (((w5.setCell ⟨w.heap.size + 1, 0, none⟩ (.int .i64 at0)).setCell ⟨w.heap.size + 1, 1, none⟩ (.slice A3 n3 c3)).setCell ⟨w.heap.size + 1, 2, none⟩ (.slice A4 n4 c4)) := (((Only.refl _ w5).set 0 _).set 1 _).set 2 _
  have hs0 := hp0.size
  have hs4 := hp4.ofDrew.size
  have hs5 := hp5.size
  have hlz := hz.lt
  refine bodyPost_ret (results_cell_row rfl _ _ (w.heap.size + 1) 60 #[.int .i64 at0, .slice A3 n3 c3, .slice A4 n4 c4] (0, 0) _ rfl (by simpa [Blk] using ((hz5.set_ 0 (.int .i64 at0)).set_ 1 (.slice A3 n3 c3)).set_ 2 (.slice A4 n4 c4)) Try.underlying60 rfl size60) rfl ?_
  have hR4' : RdI w4 (fun b => w0.heap.size ≤ b) A3 n3 c3 del := hR4
  refine ⟨A3, n3, c3, A4, n4, c4, rfl, RdI.mono ((hR4'.pure_ hp5).only ho fun b hb _ e => ?_) (fun b _ hb => ?_), RdI.mono (RdI.only hR5 ho fun b hb _ e => ?_) (fun b _ hb => ?_), ((hp0.trans hp4.ofDrew).trans hp5).then_ ho fun i hi e => ?_⟩
  · have h1 : w0.heap.size ≤ b := hb; have h2 : b = w.heap.size + 1 := e; omega
  · have h1 : w0.heap.size ≤ b := hb; omega
  · have h1 : w4.heap.size ≤ b := hb; have h2 : b = w.heap.size + 1 := e; omega
  · have h1 : w4.heap.size ≤ b := hb; omega
  · have h2 : i = w.heap.size + 1 := e; omega

theorem rinv_edit (at0 : Int) (A : Option Addr) (n c : Nat) (del : List Int) (A' : Option Addr) (n' c' : Nat) (ins : List Int) (S S' : Nat → Prop) (w : World) (hr : RdI w S A n c del) (hr' : RdI w S' A' n' c' ins) (hn : small n) (hn' : small n') :
    Calls Try.prog 38 #[.agg #[.int .i64 at0, .slice A n c, .slice A' n' c']] w (EdOut w ⟨at0, ins, del⟩) := by
  go_enter Try.func38, Try.ntmps38
  go_wp2_with fail
  obtain ⟨w0, hw0⟩ : ∃ w0, w0 = (w.alloc (.cells #[.int .i64 at0, .slice A n c, .slice A' n' c'] 60)).alloc (.cells #[.int .i64 0, .slice none 0 0, .slice none 0 0] 60) := ⟨_, rfl⟩
  rw [← hw0]
  have hp0 : Pure w w0 := by rw [hw0]; exact ((Only.refl _ w).alloc _).alloc _
  have hb : Blk w0 w.heap.size 60 #[.int .i64 at0, .slice A n c, .slice A' n' c'] := by rw [hw0]; exact (Blk.new w _ _).alloc _
  have hz : Blk w0 (w.heap.size + 1) 60 #[.int .i64 0, .slice none 0 0, .slice none 0 0] := by
    rw [hw0]; have := Blk.new (w.alloc (.cells #[.int .i64 at0, .slice A n c, .slice A' n' c'] 60)) 60 #[.int .i64 0, .slice none 0 0, .slice none 0 0]; rwa [World.size_alloc] at this
  have d0 : w0.cell? ⟨w.heap.size, 0, none⟩ = some (.int .i64 at0) := hb.cell 0
  have d1 : w0.cell? ⟨w.heap.size, 1, none⟩ = some (.slice A n c) := hb.cell 1
  have d2 : w0.cell? ⟨w.heap.size, 2, none⟩ = some (.slice A' n' c') := hb.cell 2
  clear hw0
  go_region_held3 (fun X => X.cell? ⟨w.heap.size, 0, none⟩ = some (.int .i64 at0) ∧ X.cell? ⟨w.heap.size, 1, none⟩ = some (.slice A n c) ∧ X.cell? ⟨w.heap.size, 2, none⟩ = some (.slice A' n' c'))
    (first | go_keep | exact ⟨d0, d1, d2⟩ | exact ⟨e0, e1, e2⟩ | exact ⟨f0, f1, f2⟩)
    (first
      | (go_at_call 75; refine (rclone_any A n c del S w4 ((hr.pure_ hp0).pure_ hp4.ofDrew) hn).mono ?_; rintro e w5 ⟨A4, n4, c4, rfl, hR5, hp5⟩; have hb5 := hb4.pure_ hp5; have hz5 := hz4.pure_ hp5; have f0 : w5.cell? ⟨w.heap.size, 0, none⟩ = some (.int .i64 at0) := hb5.cell 0; have f1 : w5.cell? ⟨w.heap.size, 1, none⟩ = some (.slice A n c) := hb5.cell 1; have f2 : w5.cell? ⟨w.heap.size, 2, none⟩ = some (.slice A' n' c') := hb5.cell 2; have g0 : w5.cell? ⟨w.heap.size + 1, 0, none⟩ = some (.int .i64 0) := hz5.cell 0; have g1 : w5.cell? ⟨w.heap.size + 1, 1, none⟩ = some (.slice none 0 0) := hz5.cell 1; have g2 : w5.cell? ⟨w.heap.size + 1, 2, none⟩ = some (.slice none 0 0) := hz5.cell 2; have k0 := hz5.frozen 0; have k1 := hz5.frozen 1; have k2 := hz5.frozen 2)
      | (go_at_call 75; refine (rclone_any A' n' c' ins S' w0.drew (hr'.pure_ hp0.drew) hn').mono ?_; rintro e w4 ⟨A3, n3, c3, rfl, hR4, hp4⟩; have hb4 := hb.pure_ hp4.ofDrew; have hz4 := hz.pure_ hp4.ofDrew; have e0 : w4.cell? ⟨w.heap.size, 0, none⟩ = some (.int .i64 at0) := hb4.cell 0; have e1 : w4.cell? ⟨w.heap.size, 1, none⟩ = some (.slice A n c) := hb4.cell 1; have e2 : w4.cell? ⟨w.heap.size, 2, none⟩ = some (.slice A' n' c') := hb4.cell 2))
  go_wp2
  have ho : Only (fun b => b = w.heap.size + 1) w5 (((w5.setCell ⟨w.heap.size + 1, 0, none⟩ (.int .i64 at0)).setCell ⟨w.heap.size + 1, 1, none⟩ (.slice A3 n3 c3)).setCell ⟨w.heap.size + 1, 2, none⟩ (.slice A4 n4 c4)) := (((Only.refl _ w5).set 0 _).set 1 _).set 2 _
  have hs0 := hp0.size
  have hs4 := hp4.ofDrew.size
  have hs5 := hp5.size
  have hlz := hz.lt
  refine bodyPost_ret (results_cell_row rfl _ _ (w.heap.size + 1) 60 #[.int .i64 at0, .slice A3 n3 c3, .slice A4 n4 c4] (0, 0) _ rfl (by simpa [Blk] using ((hz5.set_ 0 (.int .i64 at0)).set_ 1 (.slice A3 n3 c3)).set_ 2 (.slice A4 n4 c4)) Try.underlying60 rfl size60) rfl ?_
  have hR4' : RdI w4 (fun b => w0.heap.size ≤ b) A3 n3 c3 ins := hR4
  refine ⟨A3, n3, c3, A4, n4, c4, rfl, RdI.mono ((hR4'.pure_ hp5).only ho fun b hb _ e => ?_) (fun b _ hb => ?_), RdI.mono (RdI.only hR5 ho fun b hb _ e => ?_) (fun b _ hb => ?_), ((hp0.trans hp4.ofDrew).trans hp5).then_ ho fun i hi e => ?_⟩
  · have h1 : w0.heap.size ≤ b := hb; have h2 : b = w.heap.size + 1 := e; omega
  · have h1 : w0.heap.size ≤ b := hb; omega
  · have h1 : w4.heap.size ≤ b := hb; have h2 : b = w.heap.size + 1 := e; omega
  · have h1 : w4.heap.size ≤ b := hb; omega
  · have h2 : i = w.heap.size + 1 := e; omega

theorem inv_edit (at0 : Int) (A : Option Addr) (n c : Nat) (del : List Int) (A' : Option Addr) (n' c' : Nat) (ins : List Int) (S S' : Nat → Prop) (w : World) (hr : RdI w S A n c del) (hr' : RdI w S' A' n' c' ins) (hn : small n) (hn' : small n') :
    Calls Try.prog 37 #[.agg #[.int .i64 at0, .slice A n c, .slice A' n' c']] w (EdOut w ⟨at0, ins, del⟩) := by
  go_enter Try.func37, Try.ntmps37
  go_wp2_with fail
  obtain ⟨w0, hw0⟩ : ∃ w0, w0 = (w.alloc (.cells #[.int .i64 at0, .slice A n c, .slice A' n' c'] 60)).alloc (.cells #[.int .i64 0, .slice none 0 0, .slice none 0 0] 60) := ⟨_, rfl⟩
  rw [← hw0]
  have hp0 : Pure w w0 := by rw [hw0]; exact ((Only.refl _ w).alloc _).alloc _
  have hz : Blk w0 (w.heap.size + 1) 60 #[.int .i64 0, .slice none 0 0, .slice none 0 0] := by
    rw [hw0]; have := Blk.new (w.alloc (.cells #[.int .i64 at0, .slice A n c, .slice A' n' c'] 60)) 60 #[.int .i64 0, .slice none 0 0, .slice none 0 0]; rwa [World.size_alloc] at this
  clear hw0
  refine (own_edit at0 A' n' c' ins A n c del S' S w0 (hr'.pure_ hp0) (hr.pure_ hp0) hn' hn).mono ?_
  rintro e w5 ⟨A3, n3, c3, A4, n4, c4, rfl, hR3, hR4, hp5⟩
  have hz5 := hz.pure_ hp5
  have g0 : w5.cell? ⟨w.heap.size + 1, 0, none⟩ = some (.int .i64 0) := hz5.cell 0
  have g1 : w5.cell? ⟨w.heap.size + 1, 1, none⟩ = some (.slice none 0 0) := hz5.cell 1
  have g2 : w5.cell? ⟨w.heap.size + 1, 2, none⟩ = some (.slice none 0 0) := hz5.cell 2
  have k0 := hz5.frozen 0
  have k1 := hz5.frozen 1
  have k2 := hz5.frozen 2
  go_wp2_with fail
  have ho : Only (fun b => b = w.heap.size + 1) w5 (((w5.setCell ⟨w.heap.size + 1, 0, none⟩ (.int .i64 at0)).setCell ⟨w.heap.size + 1, 1, none⟩ (.slice A3 n3 c3)).setCell ⟨w.heap.size + 1, 2, none⟩ (.slice A4 n4 c4)) := (((Only.refl _ w5).set 0 _).set 1 _).set 2 _
  have hs0 := hp0.size
  have hs5 := hp5.size
  have hlz := hz.lt
  refine bodyPost_ret (results_cell_row rfl _ _ (w.heap.size + 1) 60 #[.int .i64 at0, .slice A3 n3 c3, .slice A4 n4 c4] (0, 0) _ rfl (by simpa [Blk] using ((hz5.set_ 0 (.int .i64 at0)).set_ 1 (.slice A3 n3 c3)).set_ 2 (.slice A4 n4 c4)) Try.underlying60 rfl size60) rfl ?_
  refine ⟨A3, n3, c3, A4, n4, c4, rfl, RdI.mono (RdI.only hR3 ho fun b hb _ e => ?_) (fun b _ hb => ?_), RdI.mono (RdI.only hR4 ho fun b hb _ e => ?_) (fun b _ hb => ?_), (hp0.trans hp5).then_ ho fun i hi e => ?_⟩
  · have h1 : w0.heap.size ≤ b := hb; have h2 : b = w.heap.size + 1 := e; omega
  · have h1 : w0.heap.size ≤ b := hb; omega
  · have h1 : w0.heap.size ≤ b := hb; have h2 : b = w.heap.size + 1 := e; omega
  · have h1 : w0.heap.size ≤ b := hb; omega
  · have h2 : i = w.heap.size + 1 := e; omega

end Go.Proofs.Ytinlpmgchcbjpaa
