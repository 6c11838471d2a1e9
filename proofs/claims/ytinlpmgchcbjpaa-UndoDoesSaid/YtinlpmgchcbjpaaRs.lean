/- From the form's own reading of a struct argument to the words of these walks: operations, edits, steps. -/
import Derived.Test.YtinlpmgchcbjpaaApp
import Derived.Test.YtinlpmgchcbjpaaRd
namespace Go.Proofs.Ytinlpmgchcbjpaa
open Go Go.RowKit Go.ChangeShapes Go.WideShapes
set_option maxRecDepth 100000

section
variable {H : Type} {enc : TypeId × Value → H} {P : Program} {w : World} {base : Nat} {held : Bool}

theorem open_field {t : TypeId} {fs : Array Field} {fuel : Nat} {cs : List Value} {x : DataW H × List MemPlace} (ht : P.underlying t = some (.struct fs)) (h : DataW.trod enc P w base (fun _ => true) held fuel t cs = some x) :
    cs.length = P.cellsOf t ∧ ∀ (i : Nat) (f : Field), fs[i]? = some f → ∃ n y, DataW.trod enc P w base (fun _ => true) held n f.type ((cs.drop f.offset).take (P.cellsOf f.type)) = some y ∧ ∀ z ∈ y.1.weights P f.type, z ∈ x.1.weights P t := by
  obtain ⟨xs, n, _, rfl, hl, hlen, hf⟩ := DataW.trod_struct ht h
  refine ⟨hl, fun i f hi => ?_⟩
  have hlt : i < fs.size := (Array.getElem?_eq_some_iff.1 hi).1
  refine ⟨n, xs[i]'(by omega), by rw [hf i f hi]; exact List.getElem?_eq_getElem _, fun z hz => ?_⟩
  simp only [DataW.weights, ht]
  exact DataW.weights_mem_each (j := i) (by simpa using congrArg (Option.map (·.type)) hi) (by simp [List.getElem?_eq_getElem (show i < xs.length by omega)]) z hz
theorem open_part {t ty : TypeId} {fs : Array Field} {fuel i off k : Nat} {cs us : List Value} {x : DataW H × List MemPlace} (ht : P.underlying t = some (.struct fs)) (h : DataW.trod enc P w base (fun _ => true) held fuel t cs = some x)
    (hi : (fs[i]?).map (fun f => (f.type, f.offset)) = some (ty, off)) (hc : P.cellsOf ty = k) (hu : (cs.drop off).take k = us) : ∃ n y, DataW.trod enc P w base (fun _ => true) held n ty us = some y ∧ ∀ z ∈ y.1.weights P ty, z ∈ x.1.weights P t := by
  obtain ⟨f, hf, he⟩ := Option.map_eq_some_iff.1 hi
  obtain ⟨rfl, rfl⟩ := Prod.mk.inj he
  have := (open_field ht h).2 i f hf
  rwa [hc, hu] at this
theorem list3 {α : Type} {l : List α} (h : l.length = 3) : ∃ a b c, l = [a, b, c] := by
  match l, h with
  | [a, b, c], _ => exact ⟨a, b, c, rfl⟩
theorem list4 {α : Type} {l : List α} (h : l.length = 4) : ∃ a b c d, l = [a, b, c, d] := by
  match l, h with
  | [a, b, c, d], _ => exact ⟨a, b, c, d, rfl⟩
theorem list5 {α : Type} {l : List α} (h : l.length = 5) : ∃ a b c d e, l = [a, b, c, d, e] := by
  match l, h with
  | [a, b, c, d, e], _ => exact ⟨a, b, c, d, e, rfl⟩
end

section
variable {H : Type} {enc : TypeId × Value → H} {w : World} {base : Nat} {held : Bool} {fuel : Nat} {cs : List Value} {x : DataW H × List MemPlace}

theorem cells35 : Try.prog.cellsOf 35 = 5 := by kernel_rfl
theorem cells3 : Try.prog.cellsOf 3 = 1 := by kernel_rfl
theorem cells22 : Try.prog.cellsOf 22 = 1 := by kernel_rfl
theorem cells21 : Try.prog.cellsOf 21 = 1 := by kernel_rfl
theorem cells4 : Try.prog.cellsOf 4 = 1 := by kernel_rfl
theorem bytes21 : Try.prog.bytesOf 21 = 4 := by kernel_rfl

theorem field_int {i : Nat} {u : Value} {n : Nat} {y : DataW H × List MemPlace} (_ : i = i) (h : DataW.trod enc Try.prog w base (fun _ => true) held n 3 [u] = some y) : ∃ z : Int, u = .int .i64 z := by
  obtain ⟨z, hz, _⟩ := DataW.trod_int Try.underlying3 h
  exact ⟨z, by simpa using hz⟩

/-- An operation on a ring. -/
theorem open_kop (h : DataW.trod enc Try.prog w base (fun _ => true) held fuel 35 cs = some x) (hz : Reached Try.prog 35 x.1) :
    ∃ (kd wy : Int) (A : Option Addr) (n c : Nat) (tx : List Int) (nn sp : Int), cs = [.int .i64 kd, .int .i64 wy, .slice A n c, .int .i64 nn, .int .i64 sp] ∧ RdI w (Old w) A n c tx ∧ n * 4 ≤ 140737488351232 := by
  have hl := (open_field Try.underlying35 h).1
  rw [cells35] at hl
  obtain ⟨c0, c1, c2, c3, c4, rfl⟩ := list5 hl
  obtain ⟨n0, y0, h0, _⟩ := open_part (i := 0) Try.underlying35 h rfl cells3 rfl
  obtain ⟨n1, y1, h1, _⟩ := open_part (i := 1) Try.underlying35 h rfl cells3 rfl
  obtain ⟨n2, y2, h2, z2⟩ := open_part (i := 2) Try.underlying35 h rfl cells22 rfl
  obtain ⟨n3, y3, h3, _⟩ := open_part (i := 3) Try.underlying35 h rfl cells3 rfl
  obtain ⟨n4, y4, h4, _⟩ := open_part (i := 4) Try.underlying35 h rfl cells3 rfl
  obtain ⟨kd, rfl⟩ := field_int (i := 0) rfl h0
  obtain ⟨wy, rfl⟩ := field_int (i := 0) rfl h1
  obtain ⟨nn, rfl⟩ := field_int (i := 0) rfl h3
  obtain ⟨sp, rfl⟩ := field_int (i := 0) rfl h4
  obtain ⟨A, n, c, tx, rfl, hr, hn⟩ := open_runes Try.underlying22 Try.underlying21 cells21 bytes21 h2 (fun z hz' => hz z (z2 z hz'))
  exact ⟨kd, wy, A, n, c, tx, nn, sp, rfl, hr, hn⟩

end

/-- An operation on a ring, as it is read: its kind, its way, its text, its number, where to stop. -/
structure KOp where
  kd : Int
  wy : Int
  tx : List Int
  nn : Int
  sp : Int

def KOp.none : KOp := ⟨0, 0, [], 0, 0⟩
instance : Inhabited KOp := ⟨KOp.none⟩

/-- A slice of such operations. -/
def RdK (w : World) (S : Nat → Prop) (A : Option Addr) (N c : Nat) (ops : List KOp) : Prop :=
  ops.length = N ∧ ∃ vs, Rd w S 5 A N c vs ∧ ∀ k, k < N → ∃ a m d, (vs.drop (k * 5)).take 5 = [.int .i64 (ops[k]?.getD .none).kd, .int .i64 (ops[k]?.getD .none).wy, .slice a m d, .int .i64 (ops[k]?.getD .none).nn, .int .i64 (ops[k]?.getD .none).sp] ∧ RdI w S a m d (ops[k]?.getD .none).tx

theorem RdK.pure_ {w w' : World} {S : Nat → Prop} {A : Option Addr} {N c : Nat} {ops : List KOp} (h : RdK w S A N c ops) (hp : Pure w w') : RdK w' S A N c ops := by
  obtain ⟨h1, vs, h2, h3⟩ := h
  refine ⟨h1, vs, h2.pure_ hp, fun k hk => ?_⟩
  obtain ⟨a, m, d, h4, h5⟩ := h3 k hk
  exact ⟨a, m, d, h4, h5.pure_ hp⟩

theorem row_get {vs us : List Value} {o n j : Nat} {u : Value} (h : (vs.drop o).take n = us) (hu : us[j]? = some u) : vs[o + j]? = some u := by
  rw [← h] at hu
  by_cases hj : j < n
  · rwa [List.getElem?_take_of_lt hj, List.getElem?_drop] at hu
  · rw [List.getElem?_eq_none (by simp; omega)] at hu; cases hu

theorem RdK.at_ {w : World} {S : Nat → Prop} {A : Option Addr} {N c : Nat} {ops : List KOp} (h : RdK w S A N c ops) {k : Nat} (hk : k < N) : ∃ g off a m d, A = some ⟨g, off, none⟩ ∧ g < w.heap.size ∧
    w.cell? ⟨g, off + k * 5, none⟩ = some (.int .i64 (ops[k]?.getD .none).kd) ∧ w.cell? ⟨g, off + k * 5 + 1, none⟩ = some (.int .i64 (ops[k]?.getD .none).wy) ∧ w.cell? ⟨g, off + k * 5 + 2, none⟩ = some (.slice a m d) ∧
    w.cell? ⟨g, off + k * 5 + 3, none⟩ = some (.int .i64 (ops[k]?.getD .none).nn) ∧ w.cell? ⟨g, off + k * 5 + 4, none⟩ = some (.int .i64 (ops[k]?.getD .none).sp) ∧ RdI w S a m d (ops[k]?.getD .none).tx := by
  obtain ⟨_, vs, hr, hi⟩ := h
  obtain ⟨a, m, d, h1, h2⟩ := hi k hk
  obtain ⟨g, off, e, _, hg, hc⟩ := hr.2.2.2 (by omega)
  refine ⟨g, off, a, m, d, e, hg, ?_, ?_, ?_, ?_, ?_, h2⟩
  · exact hc (k * 5) _ (row_get (j := 0) h1 rfl)
  · exact hc (k * 5 + 1) _ (row_get (j := 1) h1 rfl)
  · exact hc (k * 5 + 2) _ (row_get (j := 2) h1 rfl)
  · exact hc (k * 5 + 3) _ (row_get (j := 3) h1 rfl)
  · exact hc (k * 5 + 4) _ (row_get (j := 4) h1 rfl)

/-- A SLICE OF OPERATIONS. -/
theorem open_kops {H : Type} {enc : TypeId × Value → H} {w : World} {base : Nat} {held : Bool} {fuel : Nat} {v : Value} {x : DataW H × List MemPlace} (h : DataW.trod enc Try.prog w base (fun _ => true) held fuel 45 [v] = some x) (hz : Reached Try.prog 45 x.1) :
    ∃ A n c ops, v = .slice A n c ∧ RdK w (Old w) A n c ops ∧ n ≤ 140737488351232 := by
  obtain ⟨A, n, c, vs, rfl, hr, hw, hi⟩ := open_rd Try.underlying45 cells35 (by omega) h
  have hrow : ∀ i, i < n → ∃ (o : KOp) (a : Option Addr) (m d : Nat), (vs.drop (i * 5)).take 5 = [.int .i64 o.kd, .int .i64 o.wy, .slice a m d, .int .i64 o.nn, .int .i64 o.sp] ∧ RdI w (Old w) a m d o.tx := by
    intro i hin
    obtain ⟨mf, y, h1, h3⟩ := hi i hin
    obtain ⟨kd, wy, a, m, d, tx, nn, sp, e, hx, _⟩ := open_kop h1 (fun z hz' => hz z (h3 z hz'))
    exact ⟨⟨kd, wy, tx, nn, sp⟩, a, m, d, e, hx⟩
  obtain ⟨Y, hY⟩ := Go.Deep.choose_lt hrow
  refine ⟨A, n, c, (List.range n).map Y, rfl, ⟨by simp, vs, hr, fun k hk => ?_⟩, ?_⟩
  · obtain ⟨a, m, d, h1, h2⟩ := hY k hk
    have e : (((List.range n).map Y)[k]?.getD .none) = Y k := by simp [hk]
    rw [e]
    exact ⟨a, m, d, h1, h2⟩
  · rcases Nat.eq_zero_or_pos n with h0 | h0
    · omega
    · have h1 := hz _ (hw h0)
      have h2 := hr.2.1
      have hb : Try.prog.bytesOf 35 = 56 := by kernel_rfl
      rw [hb] at h1
      unfold reachBytes at h1
      omega

end Go.Proofs.Ytinlpmgchcbjpaa
