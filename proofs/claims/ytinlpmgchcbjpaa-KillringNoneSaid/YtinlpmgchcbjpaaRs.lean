/- From the form's own reading of a struct argument to the words of these walks: operations, edits, steps. -/
import Derived.Test.YtinlpmgchcbjpaaApp
import Derived.Test.YtinlpmgchcbjpaaRd
namespace Go.Proofs.Ytinlpmgchcbjpaa
open Go Go.RowKit Go.ChangeShapes Go.WideShapes
set_option maxRecDepth 100000

section
variable {H : Type} {enc : TypeId × Value → H} {P : Program} {w : World} {base : Nat} {held : Bool}

theorem open_field {t : TypeId} {fs : Array Field} {fuel : Nat} {cs : List Value} {x : DataW H × List MemPlace} (ht : P.underlying t = some (.struct fs)) (h : DataW.trod enc P w base (fun _ => true) held fuel t cs = some x) :
    cs.length = P.cellsOf t ∧ ∀ (i : Nat) (f : Field), fs[i]? = some f → ∃ n y, DataW.trod enc P w base (fun _ => true) held n f.type ((cs.drop f.offset).take (P.cellsOf f.type)) = some y ∧ ∀ z ∈ y.1.weights P f.type, z ∈ x.1.weights P t := by
  obtain ⟨xs, n, _, rfl, hl, hlen, hf⟩ := DataW.trod_struct ht h
  refine ⟨hl, fun i f hi => ?_⟩
  have hlt : i < fs.size := (Array.getElem?_eq_some_iff.1 hi).1
  refine ⟨n, xs[i]'(by omega), by rw [hf i f hi]; exact List.getElem?_eq_getElem _, fun z hz => ?_⟩
  simp only [DataW.weights, ht]
  exact DataW.weights_mem_each (j := i) (by simpa using congrArg (Option.map (·.type)) hi) (by simp [List.getElem?_eq_getElem (show i < xs.length by omega)]) z hz
theorem open_part {t ty : TypeId} {fs : Array Field} {fuel i off k : Nat} {cs us : List Value} {x : DataW H × List MemPlace} (ht : P.underlying t = some (.struct fs)) (h : DataW.trod enc P w base (fun _ => true) held fuel t cs = some x)
    (hi : (fs[i]?).map (fun f => (f.type, f.offset)) = some (ty, off)) (hc : P.cellsOf ty = k) (hu : (cs.drop off).take k = us) : ∃ n y, DataW.trod enc P w base (fun _ => true) held n ty us = some y ∧ ∀ z ∈ y.1.weights P ty, z ∈ x.1.weights P t := by
  obtain ⟨f, hf, he⟩ := Option.map_eq_some_iff.1 hi
  obtain ⟨rfl, rfl⟩ := Prod.mk.inj he
  have := (open_field ht h).2 i f hf
  rwa [hc, hu] at this
theorem list3 {α : Type} {l : List α} (h : l.length = 3) : ∃ a b c, l = [a, b, c] := by
  match l, h with
  | [a, b, c], _ => exact ⟨a, b, c, rfl⟩
theorem list4 {α : Type} {l : List α} (h : l.length = 4) : ∃ a b c d, l = [a, b, c, d] := by
  match l, h with
  | [a, b, c, d], _ => exact ⟨a, b, c, d, rfl⟩
theorem list5 {α : Type} {l : List α} (h : l.length = 5) : ∃ a b c d e, l = [a, b, c, d, e] := by
  match l, h with
  | [a, b, c, d, e], _ => exact ⟨a, b, c, d, e, rfl⟩
end

section
variable {H : Type} {enc : TypeId × Value → H} {w : World} {base : Nat} {held : Bool} {fuel : Nat} {cs : List Value} {x : DataW H × List MemPlace}

theorem cells35 : Try.prog.cellsOf 35 = 5 := by kernel_rfl
theorem cells3 : Try.prog.cellsOf 3 = 1 := by kernel_rfl
theorem cells22 : Try.prog.cellsOf 22 = 1 := by kernel_rfl
theorem cells21 : Try.prog.cellsOf 21 = 1 := by kernel_rfl
theorem cells4 : Try.prog.cellsOf 4 = 1 := by kernel_rfl
theorem bytes21 : Try.prog.bytesOf 21 = 4 := by kernel_rfl

theorem field_int {i : Nat} {u : Value} {n : Nat} {y : DataW H × List MemPlace} (_ : i = i) (h : DataW.trod enc Try.prog w base (fun _ => true) held n 3 [u] = some y) : ∃ z : Int, u = .int .i64 z := by
  obtain ⟨z, hz, _⟩ := DataW.trod_int Try.underlying3 h
  exact ⟨z, by simpa using hz⟩

/-- An operation on a ring. -/
theorem open_kop (h : DataW.trod enc Try.prog w base (fun _ => true) held fuel 35 cs = some x) (hz : Reached Try.prog 35 x.1) :
    ∃ (kd wy : Int) (A : Option Addr) (n c : Nat) (tx : List Int) (nn sp : Int), cs = [.int .i64 kd, .int .i64 wy, .slice A n c, .int .i64 nn, .int .i64 sp] ∧ RdI w (Old w) A n c tx ∧ n * 4 ≤ 140737488351232 := by
  have hl := (open_field Try.underlying35 h).1
  rw [cells35] at hl
  obtain ⟨c0, c1, c2, c3, c4, rfl⟩ := list5 hl
  obtain ⟨n0, y0, h0, _⟩ := open_part (i := 0) Try.underlying35 h rfl cells3 rfl
  obtain ⟨n1, y1, h1, _⟩ := open_part (i := 1) Try.underlying35 h rfl cells3 rfl
  obtain ⟨n2, y2, h2, z2⟩ := open_part (i := 2) Try.underlying35 h rfl cells22 rfl
  obtain ⟨n3, y3, h3, _⟩ := open_part (i := 3) Try.underlying35 h rfl cells3 rfl
  obtain ⟨n4, y4, h4, _⟩ := open_part (i := 4) Try.underlying35 h rfl cells3 rfl
  obtain ⟨kd, rfl⟩ := field_int (i := 0) rfl h0
  obtain ⟨wy, rfl⟩ := field_int (i := 0) rfl h1
  obtain ⟨nn, rfl⟩ := field_int (i := 0) rfl h3
  obtain ⟨sp, rfl⟩ := field_int (i := 0) rfl h4
  obtain ⟨A, n, c, tx, rfl, hr, hn⟩ := open_runes Try.underlying22 Try.underlying21 cells21 bytes21 h2 (fun z hz' => hz z (z2 z hz'))
  exact ⟨kd, wy, A, n, c, tx, nn, sp, rfl, hr, hn⟩
end

end Go.Proofs.Ytinlpmgchcbjpaa
