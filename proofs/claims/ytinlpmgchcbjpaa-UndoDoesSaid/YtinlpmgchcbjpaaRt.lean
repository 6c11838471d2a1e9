/- From the form's own reading of an argument to the words of these walks: edits, steps, operations on lists of edits; slices of these. -/
import Derived.Test.YtinlpmgchcbjpaaRs
import Derived.Test.YtinlpmgchcbjpaaU19
namespace Go.Proofs.Ytinlpmgchcbjpaa
open Go Go.RowKit Go.ChangeShapes Go.WideShapes
set_option maxRecDepth 100000

theorem cells60 : Try.prog.cellsOf 60 = 3 := by kernel_rfl
theorem cells68 : Try.prog.cellsOf 68 = 5 := by kernel_rfl
theorem cells95 : Try.prog.cellsOf 95 = 4 := by kernel_rfl

section
variable {H : Type} {enc : TypeId × Value → H} {w : World} {base : Nat} {held : Bool} {fuel : Nat} {cs : List Value} {x : DataW H × List MemPlace}

theorem field_word {n : Nat} {u : Value} {y : DataW H × List MemPlace} (h : DataW.trod enc Try.prog w base (fun _ => true) held n 3 [u] = some y) : ∃ z : Int, u = .int .i64 z ∧ word z := by
  obtain ⟨z, hz, _, hw⟩ := DataW.trod_int Try.underlying3 h
  refine ⟨z, by simpa using hz, ?_⟩
  unfold word
  simpa [Lit.wf, IntKind.min, IntKind.max, IntKind.signed, IntKind.bits] using hw

/-- An edit whose number a machine's word holds, whose slices are within the reach. -/
def Ed.near (e : Ed) : Prop := word e.at_ ∧ e.del.length ≤ 35184372087808 ∧ e.ins.length ≤ 35184372087808
theorem Ed.near.fit {e : Ed} (h : e.near) : e.fit := by
  obtain ⟨_, h1, h2⟩ := h
  exact ⟨by unfold small; omega, by unfold small; omega⟩
theorem Ed.near_none : Ed.none.near := ⟨by unfold word Ed.none; decide, by decide, by decide⟩

/-- An edit. -/
theorem open_edit (h : DataW.trod enc Try.prog w base (fun _ => true) held fuel 60 cs = some x) (hz : Reached Try.prog 60 x.1) :
    ∃ (e : Ed) (A : Option Addr) (n c : Nat) (A' : Option Addr) (n' c' : Nat), cs = [.int .i64 e.at_, .slice A n c, .slice A' n' c'] ∧ RdI w (Old w) A n c e.del ∧ RdI w (Old w) A' n' c' e.ins ∧ e.near := by
  have hl := (open_field Try.underlying60 h).1
  rw [cells60] at hl
  obtain ⟨c0, c1, c2, rfl⟩ := list3 hl
  obtain ⟨n0, y0, h0, _⟩ := open_part (i := 0) Try.underlying60 h rfl cells3 rfl
  obtain ⟨n1, y1, h1, z1⟩ := open_part (i := 1) Try.underlying60 h rfl cells22 rfl
  obtain ⟨n2, y2, h2, z2⟩ := open_part (i := 2) Try.underlying60 h rfl cells22 rfl
  obtain ⟨at0, rfl, hw⟩ := field_word h0
  obtain ⟨A, n, c, del, rfl, hr, hn⟩ := open_runes Try.underlying22 Try.underlying21 cells21 bytes21 h1 (fun z hz' => hz z (z1 z hz'))
  obtain ⟨A', n', c', ins, rfl, hr', hn'⟩ := open_runes Try.underlying22 Try.underlying21 cells21 bytes21 h2 (fun z hz' => hz z (z2 z hz'))
  exact ⟨⟨at0, del, ins⟩, A, n, c, A', n', c', rfl, hr, hr', hw, by simp only [hr.len]; omega, by simp only [hr'.len]; omega⟩

/-- A step. -/
theorem open_step (h : DataW.trod enc Try.prog w base (fun _ => true) held fuel 68 cs = some x) (hz : Reached Try.prog 68 x.1) :
    ∃ (at0 mn : Int) (A : Option Addr) (n c : Nat) (b0 b1 : Bool) (ins : List Int), cs = [.int .i64 at0, .int .i64 mn, .slice A n c, .bool b0, .bool b1] ∧ RdI w (Old w) A n c ins ∧ n ≤ 35184372087808 := by
  have hl := (open_field Try.underlying68 h).1
  rw [cells68] at hl
  obtain ⟨c0, c1, c2, c3, c4, rfl⟩ := list5 hl
  obtain ⟨n0, y0, h0, _⟩ := open_part (i := 0) Try.underlying68 h rfl cells3 rfl
  obtain ⟨n1, y1, h1, _⟩ := open_part (i := 1) Try.underlying68 h rfl cells3 rfl
  obtain ⟨n2, y2, h2, z2⟩ := open_part (i := 2) Try.underlying68 h rfl cells22 rfl
  obtain ⟨n3, y3, h3, _⟩ := open_part (i := 3) Try.underlying68 h rfl cells4 rfl
  obtain ⟨n4, y4, h4, _⟩ := open_part (i := 4) Try.underlying68 h rfl cells4 rfl
  obtain ⟨at0, rfl, _⟩ := field_word h0
  obtain ⟨mn, rfl, _⟩ := field_word h1
  obtain ⟨A, n, c, ins, rfl, hr, hn⟩ := open_runes Try.underlying22 Try.underlying21 cells21 bytes21 h2 (fun z hz' => hz z (z2 z hz'))
  obtain ⟨b0, hb0, _⟩ := DataW.trod_bool Try.underlying4 h3
  obtain ⟨b1, hb1, _⟩ := DataW.trod_bool Try.underlying4 h4
  obtain rfl : c3 = .bool b0 := by simpa using hb0
  obtain rfl : c4 = .bool b1 := by simpa using hb1
  exact ⟨at0, mn, A, n, c, b0, b1, ins, rfl, hr, by omega⟩

/-- A SLICE OF EDITS. -/
theorem open_edits {v : Value} (h : DataW.trod enc Try.prog w base (fun _ => true) held fuel 71 [v] = some x) (hz : Reached Try.prog 71 x.1) :
    ∃ A n c es, v = .slice A n c ∧ RdE w (Old w) A n c es ∧ n ≤ 35184372087808 ∧ ∀ e ∈ es, e.near := by
  obtain ⟨A, n, c, vs, rfl, hr, hw, hi⟩ := open_rd Try.underlying71 cells60 (by omega) h
  have hrow : ∀ i, i < n → ∃ e : Ed, edKind.rd w (Old w) ((vs.drop (i * 3)).take 3) e ∧ e.near := by
    intro i hin
    obtain ⟨mf, y, h1, h3⟩ := hi i hin
    obtain ⟨e, A, n, c, A', n', c', he, hx, hx', hn⟩ := open_edit h1 (fun z hz' => hz z (h3 z hz'))
    exact ⟨e, ⟨A, n, c, A', n', c', he, hx, hx'⟩, hn⟩
  obtain ⟨Y, hY⟩ := Go.Deep.choose_lt hrow
  refine ⟨A, n, c, (List.range n).map Y, rfl, ⟨by simp, vs, hr, fun k hk => ?_⟩, ?_, ?_⟩
  · have e : (((List.range n).map Y)[k]?.getD Ed.none) = Y k := by simp [hk]
    rw [e]
    exact (hY k hk).1
  · rcases Nat.eq_zero_or_pos n with h0 | h0
    · omega
    · have h1 := hz _ (hw h0)
      have h2 := hr.2.1
      have hb : Try.prog.bytesOf 60 = 56 := by kernel_rfl
      rw [hb] at h1
      unfold reachBytes at h1
      omega
  · intro e he
    simp at he
    obtain ⟨k, hk, rfl⟩ := he
    exact (hY k hk).2
end

/-- A step, as it is read. -/
structure St1 where
  at_ : Int
  many : Int
  ins : List Int
  bg : Bool
  en : Bool
def St1.none : St1 := ⟨0, 0, [], false, false⟩
instance : Inhabited St1 := ⟨St1.none⟩
def stKind : Kind St1 where
  rd w S cs x := ∃ a m d, cs = [.int .i64 x.at_, .int .i64 x.many, .slice a m d, .bool x.bg, .bool x.en] ∧ RdI w S a m d x.ins
  frame := by rintro w w' S cs x ⟨a, m, d, e, h1⟩ hk hs; exact ⟨a, m, d, e, h1.frame hk hs⟩
  mono := by rintro w S S' cs x ⟨a, m, d, e, h1⟩ hS; exact ⟨a, m, d, e, h1.mono hS⟩
/-- An operation, as it is read. -/
structure Op1 where
  kd : Int
  ed : Ed
def Op1.none : Op1 := ⟨0, Ed.none⟩
instance : Inhabited Op1 := ⟨Op1.none⟩
def opKind : Kind Op1 where
  rd w S cs x := ∃ a m d a' m' d', cs = [.int .i64 x.kd, .int .i64 x.ed.at_, .slice a m d, .slice a' m' d'] ∧ RdI w S a m d x.ed.del ∧ RdI w S a' m' d' x.ed.ins
  frame := by rintro w w' S cs x ⟨a, m, d, a', m', d', e, h1, h2⟩ hk hs; exact ⟨a, m, d, a', m', d', e, h1.frame hk hs, h2.frame hk hs⟩
  mono := by rintro w S S' cs x ⟨a, m, d, a', m', d', e, h1, h2⟩ hS; exact ⟨a, m, d, a', m', d', e, h1.mono hS, h2.mono hS⟩

section
variable {H : Type} {enc : TypeId × Value → H} {w : World} {base : Nat} {held : Bool} {fuel : Nat} {x : DataW H × List MemPlace}
/-- A SLICE OF STEPS. -/
theorem open_steps {v : Value} (h : DataW.trod enc Try.prog w base (fun _ => true) held fuel 85 [v] = some x) (hz : Reached Try.prog 85 x.1) :
    ∃ A n c es, v = .slice A n c ∧ RdK' stKind 5 St1.none w (Old w) A n c es ∧ n ≤ 35184372087808 ∧ ∀ e ∈ es, e.ins.length ≤ 35184372087808 := by
  obtain ⟨A, n, c, vs, rfl, hr, hw, hi⟩ := open_rd Try.underlying85 cells68 (by omega) h
  have hrow : ∀ i, i < n → ∃ e : St1, stKind.rd w (Old w) ((vs.drop (i * 5)).take 5) e ∧ e.ins.length ≤ 35184372087808 := by
    intro i hin
    obtain ⟨mf, y, h1, h3⟩ := hi i hin
    obtain ⟨at0, mn, A, n, c, b0, b1, ins, he, hx, hn⟩ := open_step h1 (fun z hz' => hz z (h3 z hz'))
    exact ⟨⟨at0, mn, ins, b0, b1⟩, ⟨A, n, c, he, hx⟩, by simp only [hx.len]; exact hn⟩
  obtain ⟨Y, hY⟩ := Go.Deep.choose_lt hrow
  refine ⟨A, n, c, (List.range n).map Y, rfl, ⟨by simp, vs, hr, fun k hk => ?_⟩, ?_, ?_⟩
  · have e : (((List.range n).map Y)[k]?.getD St1.none) = Y k := by simp [hk]
    rw [e]
    exact (hY k hk).1
  · rcases Nat.eq_zero_or_pos n with h0 | h0
    · omega
    · have h1 := hz _ (hw h0)
      have h2 := hr.2.1
      have hb : Try.prog.bytesOf 68 = 48 := by kernel_rfl
      rw [hb] at h1
      unfold reachBytes at h1
      omega
  · intro e he
    simp at he
    obtain ⟨k, hk, rfl⟩ := he
    exact (hY k hk).2

/-- An operation. -/
theorem open_uop {cs : List Value} (h : DataW.trod enc Try.prog w base (fun _ => true) held fuel 95 cs = some x) (hz : Reached Try.prog 95 x.1) :
    ∃ (kd : Int) (e : Ed) (A : Option Addr) (n c : Nat) (A' : Option Addr) (n' c' : Nat), cs = [.int .i64 kd, .int .i64 e.at_, .slice A n c, .slice A' n' c'] ∧ RdI w (Old w) A n c e.del ∧ RdI w (Old w) A' n' c' e.ins ∧ e.near := by
  have hl := (open_field Try.underlying95 h).1
  rw [cells95] at hl
  obtain ⟨c0, c1, c2, c3, rfl⟩ := list4 hl
  obtain ⟨n0, y0, h0, _⟩ := open_part (i := 0) Try.underlying95 h rfl cells3 rfl
  obtain ⟨n1, y1, h1, z1⟩ := open_part (i := 1) Try.underlying95 h rfl cells60 rfl
  obtain ⟨kd, rfl, _⟩ := field_word h0
  obtain ⟨e, A, n, c, A', n', c', he, h2⟩ := open_edit h1 (fun z hz' => hz z (z1 z hz'))
  injection he with e1 he
  injection he with e2 he
  injection he with e3 he
  subst e1 e2 e3
  exact ⟨kd, e, A, n, c, A', n', c', rfl, h2⟩

/-- A SLICE OF OPERATIONS. -/
theorem open_uops {v : Value} (h : DataW.trod enc Try.prog w base (fun _ => true) held fuel 93 [v] = some x) (hz : Reached Try.prog 93 x.1) :
    ∃ A n c es, v = .slice A n c ∧ RdK' opKind 4 Op1.none w (Old w) A n c es ∧ n ≤ 35184372087808 ∧ ∀ e ∈ es, e.ed.near := by
  obtain ⟨A, n, c, vs, rfl, hr, hw, hi⟩ := open_rd Try.underlying93 cells95 (by omega) h
  have hrow : ∀ i, i < n → ∃ e : Op1, opKind.rd w (Old w) ((vs.drop (i * 4)).take 4) e ∧ e.ed.near := by
    intro i hin
    obtain ⟨mf, y, h1, h3⟩ := hi i hin
    obtain ⟨kd, e, A, n, c, A', n', c', he, hx, hx', hn⟩ := open_uop h1 (fun z hz' => hz z (h3 z hz'))
    exact ⟨⟨kd, e⟩, ⟨A, n, c, A', n', c', he, hx, hx'⟩, hn⟩
  obtain ⟨Y, hY⟩ := Go.Deep.choose_lt hrow
  refine ⟨A, n, c, (List.range n).map Y, rfl, ⟨by simp, vs, hr, fun k hk => ?_⟩, ?_, ?_⟩
  · have e : (((List.range n).map Y)[k]?.getD Op1.none) = Y k := by simp [hk]
    rw [e]
    exact (hY k hk).1
  · rcases Nat.eq_zero_or_pos n with h0 | h0
    · omega
    · have h1 := hz _ (hw h0)
      have h2 := hr.2.1
      have hb : Try.prog.bytesOf 95 = 64 := by kernel_rfl
      rw [hb] at h1
      unfold reachBytes at h1
      omega
  · intro e he
    simp at he
    obtain ⟨k, hk, rfl⟩ := he
    exact (hY k hk).2
end

end Go.Proofs.Ytinlpmgchcbjpaa
