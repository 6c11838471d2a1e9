/- Edits whose runes lie in rows of the call's own: own, the reference's Clone, Inverse; the copy of a list of edits. -/
import Derived.Test.YtinlpmgchcbjpaaU13
import Derived.Test.YtinlpmgchcbjpaaU3
import Derived.Test.YtinlpmgchcbjpaaRg
namespace Go.Proofs.Ytinlpmgchcbjpaa
open Go Go.RowKit
set_option maxHeartbeats 1000000
set_option maxRecDepth 100000

def OutO (w : World) (xs : List Int) (e : Ending) (w' : World) : Prop :=
  ∃ A n c, e = .returned (.slice A n c) ∧ w'.ownsRow w.heap.size 21 1 (.slice A n c) n (xs.map (Value.int .i32)) ∧ Pure w w'

theorem clone_own (A : Option Addr) (n c : Nat) (xs : List Int) (S : Nat → Prop) (w : World) (hr : RdI w S A n c xs) (hn : small n) :
    Calls Try.prog 70 #[.slice A n c] w (OutO w xs) := by
  have heq := fun W => Lib.run_eql_slice_nil (P := Try.prog) W 22 21 A n c 0 0 Try.underlying22
  have hA : A.isNone = true → xs = [] := by
    intro h
    rcases Nat.eq_zero_or_pos n with h0 | h0
    · have := hr.len; exact List.eq_nil_of_length_eq_zero (by omega)
    · obtain ⟨g, off, e, _⟩ := hr.at_ h0; subst e; simp at h
  go_enter Try.func70, Try.ntmps70
  go_wp2_with (at_builtin; refine appendI _ _ rfl rfl w.heap.size (.slice (some ⟨w.heap.size, 0, none⟩) 0 0) 0 [] rfl (World.ownsRow_made w #[] 0 (Nat.le_refl _) (Nat.zero_le _) rfl) S A n c _ rfl (Rd.pure_ hr ((Only.refl _ w).alloc _)) (oneI xs) (by simpa using hn.maxLen) (by simpa using hn.bytes) (by simp) ?_; intro A' c' w' ho hp _; simp only [Nat.zero_add, List.nil_append] at ho)
  · go_ret
    rw [hA (by assumption)]
    exact ⟨_, _, _, rfl, World.ownsRow_nil _ _ _ _, Only.refl _ _⟩
  · go_ret
    refine ⟨_, _, _, rfl, ho, ((Only.refl _ w).alloc _).then_ hp fun i hi hv => ?_⟩
    simp [Value.ownBlock] at hv
    omega

/-- An edit that is handed back, its runes in rows of the call's own. -/
def EdOutO (w : World) (e : Ed) (r : Ending) (w' : World) : Prop :=
  ∃ A n c A' n' c', r = .returned (.agg #[.int .i64 e.at_, .slice A n c, .slice A' n' c']) ∧ w'.ownsRow w.heap.size 21 1 (.slice A n c) n (e.del.map (Value.int .i32)) ∧ w'.ownsRow w.heap.size 21 1 (.slice A' n' c') n' (e.ins.map (Value.int .i32)) ∧ Pure w w'

theorem own_edit_o (at0 : Int) (A : Option Addr) (n c : Nat) (del : List Int) (A' : Option Addr) (n' c' : Nat) (ins : List Int) (S S' : Nat → Prop) (w : World) (hr : RdI w S A n c del) (hr' : RdI w S' A' n' c' ins) (hn : small n) (hn' : small n') :
    Calls Try.prog 77 #[.agg #[.int .i64 at0, .slice A n c, .slice A' n' c']] w (EdOutO w ⟨at0, del, ins⟩) := by
  go_enter Try.func77, Try.ntmps77
  go_wp2_with fail
  obtain ⟨w0, hw0⟩ : ∃ w0, w0 = (w.alloc (.cells #[.int .i64 at0, .slice A n c, .slice A' n' c'] 60)).alloc (.cells #[.int .i64 0, .slice none 0 0, .slice none 0 0] 60) := ⟨_, rfl⟩
  rw [← hw0]
  have hp0 : Pure w w0 := by rw [hw0]; exact ((Only.refl _ w).alloc _).alloc _
  have hb : Blk w0 w.heap.size 60 #[.int .i64 at0, .slice A n c, .slice A' n' c'] := by rw [hw0]; exact (Blk.new w _ _).alloc _
  have hz : Blk w0 (w.heap.size + 1) 60 #[.int .i64 0, .slice none 0 0, .slice none 0 0] := by
    rw [hw0]; have := Blk.new (w.alloc (.cells #[.int .i64 at0, .slice A n c, .slice A' n' c'] 60)) 60 #[.int .i64 0, .slice none 0 0, .slice none 0 0]; rwa [World.size_alloc] at this
  have d0 : w0.cell? ⟨w.heap.size, 0, none⟩ = some (.int .i64 at0) := hb.cell 0
  have d1 : w0.cell? ⟨w.heap.size, 1, none⟩ = some (.slice A n c) := hb.cell 1
  have d2 : w0.cell? ⟨w.heap.size, 2, none⟩ = some (.slice A' n' c') := hb.cell 2
  clear hw0
  go_region_held3 (fun X => X.cell? ⟨w.heap.size, 0, none⟩ = some (.int .i64 at0) ∧ X.cell? ⟨w.heap.size, 1, none⟩ = some (.slice A n c) ∧ X.cell? ⟨w.heap.size, 2, none⟩ = some (.slice A' n' c'))
    (first | go_keep | exact ⟨d0, d1, d2⟩ | exact ⟨e0, e1, e2⟩ | exact ⟨f0, f1, f2⟩)
    (first
      | (go_at_call 70; refine (clone_own A' n' c' ins S' w4 ((hr'.pure_ hp0).pure_ hp4.ofDrew) hn').mono ?_; rintro e w5 ⟨A4, n4, c4, rfl, hR5, hp5⟩; have hb5 := hb4.pure_ hp5; have hz5 := hz4.pure_ hp5; have f0 : w5.cell? ⟨w.heap.size, 0, none⟩ = some (.int .i64 at0) := hb5.cell 0; have f1 : w5.cell? ⟨w.heap.size, 1, none⟩ = some (.slice A n c) := hb5.cell 1; have f2 : w5.cell? ⟨w.heap.size, 2, none⟩ = some (.slice A' n' c') := hb5.cell 2; have g0 : w5.cell? ⟨w.heap.size + 1, 0, none⟩ = some (.int .i64 0) := hz5.cell 0; have g1 : w5.cell? ⟨w.heap.size + 1, 1, none⟩ = some (.slice none 0 0) := hz5.cell 1; have g2 : w5.cell? ⟨w.heap.size + 1, 2, none⟩ = some (.slice none 0 0) := hz5.cell 2; have k0 := hz5.frozen 0; have k1 := hz5.frozen 1; have k2 := hz5.frozen 2)
      | (go_at_call 70; refine (clone_own A n c del S w0.drew (hr.pure_ hp0.drew) hn).mono ?_; rintro e w4 ⟨A3, n3, c3, rfl, hR4, hp4⟩; have hb4 := hb.pure_ hp4.ofDrew; have hz4 := hz.pure_ hp4.ofDrew; have e0 : w4.cell? ⟨w.heap.size, 0, none⟩ = some (.int .i64 at0) := hb4.cell 0; have e1 : w4.cell? ⟨w.heap.size, 1, none⟩ = some (.slice A n c) := hb4.cell 1; have e2 : w4.cell? ⟨w.heap.size, 2, none⟩ = some (.slice A' n' c') := hb4.cell 2))
  go_wp2
  have ho : Only (fun b => b = w.heap.size + 1) w5 (((w5.setCell ⟨w.heap.size + 1, 0, none⟩ (.int .i64 at0)).setCell ⟨w.heap.size + 1, 1, none⟩ (.slice A3 n3 c3)).setCell ⟨w.heap.size + 1, 2, none⟩ (.slice A4 n4 c4)) := (((Only.refl _ w5).set 0 _).set 1 _).set 2 _
  have hs0 := hp0.size
  have hs4 := hp4.ofDrew.size
  have hs5 := hp5.size
  have hlz := hz.lt
  refine bodyPost_ret (results_cell_row rfl _ _ (w.heap.size + 1) 60 #[.int .i64 at0, .slice A3 n3 c3, .slice A4 n4 c4] (0, 0) _ rfl (by simpa [Blk] using ((hz5.set_ 0 (.int .i64 at0)).set_ 1 (.slice A3 n3 c3)).set_ 2 (.slice A4 n4 c4)) Try.underlying60 rfl size60) rfl ?_
  have hO4 : w4.ownsRow w0.heap.size 21 1 (.slice A3 n3 c3) n3 (del.map (Value.int .i32)) := hR4
  refine ⟨A3, n3, c3, A4, n4, c4, rfl, own_base (own_only (own_only hO4 hp5 fun _ _ x => x) ho fun b hb e => ?_) hs0, own_base (own_only hR5 ho fun b hb e => ?_) (by omega), ((hp0.trans hp4.ofDrew).trans hp5).then_ ho fun i hi e => ?_⟩
  · have h1 := (hO4.lt b hb).1; have h2 : b = w.heap.size + 1 := e; omega
  · have h1 := (hR5.lt b hb).1; have h2 : b = w.heap.size + 1 := e; omega
  · have h2 : i = w.heap.size + 1 := e; omega

theorem rclone_edit_o (at0 : Int) (A : Option Addr) (n c : Nat) (del : List Int) (A' : Option Addr) (n' c' : Nat) (ins : List Int) (S S' : Nat → Prop) (w : World) (hr : RdI w S A n c del) (hr' : RdI w S' A' n' c' ins) (hn : small n) (hn' : small n') :
    Calls Try.prog 41 #[.agg #[.int .i64 at0, .slice A n c, .slice A' n' c']] w (EdOutO w ⟨at0, del, ins⟩) := by
  go_enter Try.func41, Try.ntmps41
  go_wp2_with fail
  obtain ⟨w0, hw0⟩ : ∃ w0, w0 = (w.alloc (.cells #[.int .i64 at0, .slice A n c, .slice A' n' c'] 60)).alloc (.cells #[.int .i64 0, .slice none 0 0, .slice none 0 0] 60) := ⟨_, rfl⟩
  rw [← hw0]
  have hp0 : Pure w w0 := by rw [hw0]; exact ((Only.refl _ w).alloc _).alloc _
  have hb : Blk w0 w.heap.size 60 #[.int .i64 at0, .slice A n c, .slice A' n' c'] := by rw [hw0]; exact (Blk.new w _ _).alloc _
  have hz : Blk w0 (w.heap.size + 1) 60 #[.int .i64 0, .slice none 0 0, .slice none 0 0] := by
    rw [hw0]; have := Blk.new (w.alloc (.cells #[.int .i64 at0, .slice A n c, .slice A' n' c'] 60)) 60 #[.int .i64 0, .slice none 0 0, .slice none 0 0]; rwa [World.size_alloc] at this
  have d0 : w0.cell? ⟨w.heap.size, 0, none⟩ = some (.int .i64 at0) := hb.cell 0
  have d1 : w0.cell? ⟨w.heap.size, 1, none⟩ = some (.slice A n c) := hb.cell 1
  have d2 : w0.cell? ⟨w.heap.size, 2, none⟩ = some (.slice A' n' c') := hb.cell 2
  clear hw0
  go_region_held3 (fun X => X.cell? ⟨w.heap.size, 0, none⟩ = some (.int .i64 at0) ∧ X.cell? ⟨w.heap.size, 1, none⟩ = some (.slice A n c) ∧ X.cell? ⟨w.heap.size, 2, none⟩ = some (.slice A' n' c'))
    (first | go_keep | exact ⟨d0, d1, d2⟩ | exact ⟨e0, e1, e2⟩ | exact ⟨f0, f1, f2⟩)
    (first
      | (go_at_call 75; refine (rclone_own A' n' c' ins S' w4 ((hr'.pure_ hp0).pure_ hp4.ofDrew) hn').mono ?_; rintro e w5 ⟨A4, n4, c4, rfl, hR5, hp5⟩; have hb5 := hb4.pure_ hp5; have hz5 := hz4.pure_ hp5; have f0 : w5.cell? ⟨w.heap.size, 0, none⟩ = some (.int .i64 at0) := hb5.cell 0; have f1 : w5.cell? ⟨w.heap.size, 1, none⟩ = some (.slice A n c) := hb5.cell 1; have f2 : w5.cell? ⟨w.heap.size, 2, none⟩ = some (.slice A' n' c') := hb5.cell 2; have g0 : w5.cell? ⟨w.heap.size + 1, 0, none⟩ = some (.int .i64 0) := hz5.cell 0; have g1 : w5.cell? ⟨w.heap.size + 1, 1, none⟩ = some (.slice none 0 0) := hz5.cell 1; have g2 : w5.cell? ⟨w.heap.size + 1, 2, none⟩ = some (.slice none 0 0) := hz5.cell 2; have k0 := hz5.frozen 0; have k1 := hz5.frozen 1; have k2 := hz5.frozen 2)
      | (go_at_call 75; refine (rclone_own A n c del S w0.drew (hr.pure_ hp0.drew) hn).mono ?_; rintro e w4 ⟨A3, n3, c3, rfl, hR4, hp4⟩; have hb4 := hb.pure_ hp4.ofDrew; have hz4 := hz.pure_ hp4.ofDrew; have e0 : w4.cell? ⟨w.heap.size, 0, none⟩ = some (.int .i64 at0) := hb4.cell 0; have e1 : w4.cell? ⟨w.heap.size, 1, none⟩ = some (.slice A n c) := hb4.cell 1; have e2 : w4.cell? ⟨w.heap.size, 2, none⟩ = some (.slice A' n' c') := hb4.cell 2))
  go_wp2
  have ho : Only (fun b => b = w.heap.size + 1) w5 (((w5.setCell ⟨w.heap.size + 1, 0, none⟩ (.int .i64 at0)).setCell ⟨w.heap.size + 1, 1, none⟩ (.slice A3 n3 c3)).setCell ⟨w.heap.size + 1, 2, none⟩ (.slice A4 n4 c4)) := (((Only.refl _ w5).set 0 _).set 1 _).set 2 _
  have hs0 := hp0.size
  have hs4 := hp4.ofDrew.size
  have hs5 := hp5.size
  have hlz := hz.lt
  refine bodyPost_ret (results_cell_row rfl _ _ (w.heap.size + 1) 60 #[.int .i64 at0, .slice A3 n3 c3, .slice A4 n4 c4] (0, 0) _ rfl (by simpa [Blk] using ((hz5.set_ 0 (.int .i64 at0)).set_ 1 (.slice A3 n3 c3)).set_ 2 (.slice A4 n4 c4)) Try.underlying60 rfl size60) rfl ?_
  have hO4 : w4.ownsRow w0.heap.size 21 1 (.slice A3 n3 c3) n3 (del.map (Value.int .i32)) := hR4
  refine ⟨A3, n3, c3, A4, n4, c4, rfl, own_base (own_only (own_only hO4 hp5 fun _ _ x => x) ho fun b hb e => ?_) hs0, own_base (own_only hR5 ho fun b hb e => ?_) (by omega), ((hp0.trans hp4.ofDrew).trans hp5).then_ ho fun i hi e => ?_⟩
  · have h1 := (hO4.lt b hb).1; have h2 : b = w.heap.size + 1 := e; omega
  · have h1 := (hR5.lt b hb).1; have h2 : b = w.heap.size + 1 := e; omega
  · have h2 : i = w.heap.size + 1 := e; omega

theorem inv_edit_o (at0 : Int) (A : Option Addr) (n c : Nat) (del : List Int) (A' : Option Addr) (n' c' : Nat) (ins : List Int) (S S' : Nat → Prop) (w : World) (hr : RdI w S A n c del) (hr' : RdI w S' A' n' c' ins) (hn : small n) (hn' : small n') :
    Calls Try.prog 37 #[.agg #[.int .i64 at0, .slice A n c, .slice A' n' c']] w (EdOutO w ⟨at0, ins, del⟩) := by
  go_enter Try.func37, Try.ntmps37
  go_wp2_with fail
  obtain ⟨w0, hw0⟩ : ∃ w0, w0 = (w.alloc (.cells #[.int .i64 at0, .slice A n c, .slice A' n' c'] 60)).alloc (.cells #[.int .i64 0, .slice none 0 0, .slice none 0 0] 60) := ⟨_, rfl⟩
  rw [← hw0]
  have hp0 : Pure w w0 := by rw [hw0]; exact ((Only.refl _ w).alloc _).alloc _
  have hz : Blk w0 (w.heap.size + 1) 60 #[.int .i64 0, .slice none 0 0, .slice none 0 0] := by
    rw [hw0]; have := Blk.new (w.alloc (.cells #[.int .i64 at0, .slice A n c, .slice A' n' c'] 60)) 60 #[.int .i64 0, .slice none 0 0, .slice none 0 0]; rwa [World.size_alloc] at this
  clear hw0
  refine (own_edit_o at0 A' n' c' ins A n c del S' S w0 (hr'.pure_ hp0) (hr.pure_ hp0) hn' hn).mono ?_
  rintro e w5 ⟨A3, n3, c3, A4, n4, c4, rfl, hR3, hR4, hp5⟩
  have hz5 := hz.pure_ hp5
  have g0 : w5.cell? ⟨w.heap.size + 1, 0, none⟩ = some (.int .i64 0) := hz5.cell 0
  have g1 : w5.cell? ⟨w.heap.size + 1, 1, none⟩ = some (.slice none 0 0) := hz5.cell 1
  have g2 : w5.cell? ⟨w.heap.size + 1, 2, none⟩ = some (.slice none 0 0) := hz5.cell 2
  have k0 := hz5.frozen 0
  have k1 := hz5.frozen 1
  have k2 := hz5.frozen 2
  go_wp2_with fail
  have ho : Only (fun b => b = w.heap.size + 1) w5 (((w5.setCell ⟨w.heap.size + 1, 0, none⟩ (.int .i64 at0)).setCell ⟨w.heap.size + 1, 1, none⟩ (.slice A3 n3 c3)).setCell ⟨w.heap.size + 1, 2, none⟩ (.slice A4 n4 c4)) := (((Only.refl _ w5).set 0 _).set 1 _).set 2 _
  have hs0 := hp0.size
  have hs5 := hp5.size
  have hlz := hz.lt
  refine bodyPost_ret (results_cell_row rfl _ _ (w.heap.size + 1) 60 #[.int .i64 at0, .slice A3 n3 c3, .slice A4 n4 c4] (0, 0) _ rfl (by simpa [Blk] using ((hz5.set_ 0 (.int .i64 at0)).set_ 1 (.slice A3 n3 c3)).set_ 2 (.slice A4 n4 c4)) Try.underlying60 rfl size60) rfl ?_
  refine ⟨A3, n3, c3, A4, n4, c4, rfl, own_base (own_only hR3 ho fun b hb e => ?_) hs0, own_base (own_only hR4 ho fun b hb e => ?_) hs0, (hp0.trans hp5).then_ ho fun i hi e => ?_⟩
  · have h1 := (hR3.lt b hb).1; have h2 : b = w.heap.size + 1 := e; omega
  · have h1 := (hR4.lt b hb).1; have h2 : b = w.heap.size + 1 := e; omega
  · have h2 : i = w.heap.size + 1 := e; omega

theorem own_frame {w w' : World} {base : Nat} {e : TypeId} {size n : Nat} {v : Value} {xs : List Value} (h : w.ownsRow base e size v n xs) (hk : ∀ b, v.ownBlock = some b → b < w.heap.size → w'.heap[b]? = w.heap[b]?) : w'.ownsRow base e size v n xs := by
  refine ⟨h.1, ?_⟩
  rcases h.2 with hn | ⟨g, cap, cur, rfl, hb, hgg, rest⟩
  · exact .inl hn
  · exact .inr ⟨g, cap, cur, rfl, hb, (hk g rfl (Array.getElem?_eq_some_iff.1 hgg).1).trans hgg, rest⟩

/-- An edit whose runes lie in rows of the call's own. -/
def edKindO (base : Nat) : Kind Ed where
  rd w S cs x := ∃ a m d a' m' d', cs = [.int .i64 x.at_, .slice a m d, .slice a' m' d'] ∧ w.ownsRow base 21 1 (.slice a m d) m (x.del.map (Value.int .i32)) ∧ w.ownsRow base 21 1 (.slice a' m' d') m' (x.ins.map (Value.int .i32)) ∧
    (∀ b, (Value.slice a m d).ownBlock = some b → S b) ∧ (∀ b, (Value.slice a' m' d').ownBlock = some b → S b)
  frame := by
    rintro w w' S cs x ⟨a, m, d, a', m', d', e, h1, h2, h3, h4⟩ hk hs
    exact ⟨a, m, d, a', m', d', e, own_frame h1 fun b hb hl => hk b (h3 b hb) hl, own_frame h2 fun b hb hl => hk b (h4 b hb) hl, h3, h4⟩
  mono := by
    rintro w S S' cs x ⟨a, m, d, a', m', d', e, h1, h2, h3, h4⟩ hS
    exact ⟨a, m, d, a', m', d', e, h1, h2, fun b hb => hS b (h1.lt b hb).2 (h3 b hb), fun b hb => hS b (h2.lt b hb).2 (h4 b hb)⟩

theorem edKindO.ed {base : Nat} {w : World} {S : Nat → Prop} {cs : List Value} {x : Ed} (h : (edKindO base).rd w S cs x) : edKind.rd w S cs x := by
  obtain ⟨a, m, d, a', m', d', e, h1, h2, h3, h4⟩ := h
  exact ⟨a, m, d, a', m', d', e, Rd.of_own h1 h3, Rd.of_own h2 h4⟩
theorem OwnK.ed {base base' : Nat} {w : World} {A : Option Addr} {n c : Nat} {es : List Ed} {Se : Nat → Prop} (h : OwnK (edKindO base) 60 3 Ed.none base' w A n c es Se) : OwnE base' w A n c es Se := by
  obtain ⟨h1, vs, h2, h3, h4, h5⟩ := h
  exact ⟨h1, vs, h2, fun j hj => edKindO.ed (h3 j hj), h4, h5⟩
theorem OwnK.low {α : Type} {K : Kind α} {e : TypeId} {k : Nat} {z : α} {base base' : Nat} {w : World} {A : Option Addr} {n c : Nat} {xs : List α} {Se : Nat → Prop} (h : OwnK K e k z base w A n c xs Se) (hb : base' ≤ base) : OwnK K e k z base' w A n c xs Se := by
  obtain ⟨h1, vs, h2, h3⟩ := h
  exact ⟨h1, vs, own_base h2 hb, h3⟩

/-- A list of edits that is handed back, all of it in memory of the call's own. -/
def OutEO (w : World) (es : List Ed) (r : Ending) (w' : World) : Prop :=
  ∃ A n c Se, r = .returned (.slice A n c) ∧ OwnK (edKindO w.heap.size) 60 3 Ed.none w.heap.size w' A n c es Se ∧ (∀ b, Se b → w.heap.size ≤ b) ∧ Pure w w'

theorem take_ed {α : Type} (ls : List α) (z : α) (k : Nat) (h : k < ls.length) : ls.take (k + 1) = ls.take k ++ [ls[k]?.getD z] := by
  rw [List.take_add_one, List.getElem?_eq_getElem h]; rfl

set_option maxHeartbeats 2000000 in
theorem copied_any (A : Option Addr) (N c : Nat) (es : List Ed) (S : Nat → Prop) (w : World) (hL : RdE w S A N c es) (hN : N ≤ 16384) (hf : ∀ e ∈ es, e.fit) :
    Calls Try.prog 79 #[.slice A N c] w (OutEO w es) := by
  have hNI : (N : Int) ≤ 16384 := by omega
  have hlen : es.length = N := hL.1
  have HL := hid hlen
  clear hlen
  go_enter Try.func79, Try.ntmps79
  go_wp2
  go_loopw [3, 8] (fun v i wr => ∃ (k : Nat) (A2 : Option Addr) (c2 : Nat) (Se : Nat → Prop), k ≤ N ∧ i = .int .i64 k ∧ v = .slice A2 k c2 ∧ OwnK (edKindO w.heap.size) 60 3 Ed.none w.heap.size wr A2 k c2 (es.take k) Se ∧ (∀ b, Se b → w.heap.size ≤ b) ∧ Pure w wr) (fun _ i _ => N - (intOf i).toNat)
  case atStart => exact ⟨0, none, 0, fun _ => False, Nat.zero_le _, rfl, rfl, OwnK.nil _ _, fun _ h => h.elim, Only.refl _ _⟩
  case round =>
    obtain ⟨k, A2, c2, Se, hk, rfl, rfl, hO, hSe, hp⟩ := hrel
    by_cases hlt : k < N
    · obtain ⟨gx, ox, a, m, d, a', m', d', rfl, hgx, _, hc0, hc1, hc2, hx, hy⟩ := RdE.at_ (RdK'.pure_ hL hp) hlt
      have hkI : (k : Int) < N := by omega
      have ht := take_ed es Ed.none k (by rw [HL.out]; exact hlt)
      have hmem : (es[k]?.getD Ed.none).fit := by
        rw [List.getElem?_eq_getElem (by rw [HL.out]; exact hlt)]
        exact hf _ (List.getElem_mem _)
      obtain ⟨x, hxe⟩ : ∃ x, x = es[k]?.getD Ed.none := ⟨_, rfl⟩
      rw [← hxe] at ht hx hy hc0 hmem
      have hm : small m := by rw [← hx.len]; exact hmem.1
      have hm' : small m' := by rw [← hy.len]; exact hmem.2
      have HT := hid ht
      clear hxe ht hmem
      obtain ⟨hl2, vs, hown, hes, hd1, hd2⟩ := hO
      have HL2 := hid hl2
      clear hl2
      have hpa : Pure wr (wr.alloc (.cells #[.int .i64 x.at_, .slice a m d, .slice a' m' d'] 60)) := (Only.refl _ wr).alloc _
      go_wp2_with (first
        | (at_builtin; refine appendE (.tmp 12) (.tmp 15) rfl rfl w.heap.size (.slice A2 k c2) k vs rfl (own_only (own_only hown h3 fun _ _ x => x) ((Only.refl (fun _ => False) w3).alloc _) fun _ _ x => x) _ (some ⟨w3.heap.size, 0, none⟩) 1 1 [.int .i64 x.at_, .slice A3 n3 c3, .slice A4 n4 c4] (by rfl) (Rd.row w3 60 #[.int .i64 x.at_, .slice A3 n3 c3, .slice A4 n4 c4]) (by simp [Value.oneCell']) (by unfold maxLen; omega) (by omega) (by have h4 := hp.size; have h5 := h3.size; simp; omega) ?_; intro A5 c5 w5 ho5 hp5 hat5)
        | (go_at_call 77; refine (own_edit_o x.at_ a m d x.del a' m' d' x.ins S S _ (hx.pure_ hpa) (hy.pure_ hpa) hm hm').mono ?_; rintro e w3 ⟨A3, n3, c3, A4, n4, c4, rfl, hO3, hO4, hp3⟩; have h3 : Pure wr w3 := hpa.trans hp3))
      have hsw := hp.size
      have hsa : wr.heap.size ≤ (wr.alloc (.cells #[.int .i64 x.at_, .slice a m d, .slice a' m' d'] 60)).heap.size := hpa.size
      have hx3 : (edKindO w.heap.size).rd w3 (fun b => wr.heap.size ≤ b ∧ b < w3.heap.size) [.int .i64 x.at_, .slice A3 n3 c3, .slice A4 n4 c4] x :=
        ⟨A3, n3, c3, A4, n4, c4, rfl, own_base hO3 (by omega), own_base hO4 (by omega), fun b hb => ⟨by have := (hO3.lt b hb).1; omega, (hO3.lt b hb).2⟩, fun b hb => ⟨by have := (hO4.lt b hb).1; omega, (hO4.lt b hb).2⟩⟩
      have hst := OwnK.step (K := edKindO w.heap.size) (z := Ed.none) HL2.out hown hes hd1 hd2 h3 (x := x) (Sx := fun b => wr.heap.size ≤ b ∧ b < w3.heap.size) hx3 rfl
        (fun b hb => ⟨hb.2, fun e => by have := (hown.lt b e).2; have := hb.1; omega⟩) ((Only.refl (fun _ => False) _).alloc _) ho5 hp5 hat5
      rw [← HT.out] at hst
      have hp5' : Pure w w5 := ((hp.trans h3).alloc _).then_ hp5 fun i hi e => by have := (hown.lt i e).1; omega
      have hSe5 : ∀ b, (Se b ∨ wr.heap.size ≤ b ∧ b < w3.heap.size) → w.heap.size ≤ b := by
        rintro b (h | h)
        · exact hSe b h
        · omega
      clear ho5 hp5 hat5 hown hes hx3 hO3 hO4
      go_roundw
      case rel => exact ⟨k + 1, A5, c5, _, by omega, by go_num, rfl, hst, hSe5, hp5'⟩
      case measure => simp [intOf]; omega
    · obtain rfl : k = N := by omega
      rw [List.take_of_length_le (by rw [HL.out]; exact Nat.le_refl _)] at hO
      go_wp2
      go_ret
      exact ⟨A2, k, c2, Se, rfl, hO, hSe, hp⟩

end Go.Proofs.Ytinlpmgchcbjpaa
