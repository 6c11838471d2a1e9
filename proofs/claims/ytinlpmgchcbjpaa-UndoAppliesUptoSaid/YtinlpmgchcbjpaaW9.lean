/- UndoApplies answers true for every input whose bulk is at most 1048576 and leaves its arguments as they were. The second form: no condition but that bound. -/
import Derived.Test.YtinlpmgchcbjpaaRows
import Derived.Test.YtinlpmgchcbjpaaV9
import Derived.Test.YtinlpmgchcbjpaaUb
import Derived.Deep.CondSized
import Derived.ProofKit
import Derived.OpenShut
import Derived.ChangeOld
import Derived.Below
namespace Go.Proofs.Ytinlpmgchcbjpaa
open Go Go.ChangeShapes Go.WideShapes Go.ChangeAt Go.RowKit
set_option maxRecDepth 100000

theorem own : ownKnob Try.prog.godebug = none := by kernel_rfl
theorem laidOut : laidOutB Try.prog = true := by kernel_rfl

theorem lifted (os : Os) (started : os.Started) (H : Type) (enc : TypeId × Value → H) (F : Stop.Interp) :
    ReturnsInHanded {} Try.checked os 9 .any ((Rows.OpenSpec.upto Rows.undoAppliesSpec).pre6 enc Try.prog Try.f9 Rows.undoAppliesUptoRow.domain false) (((Rows.OpenSpec.upto Rows.undoAppliesSpec).at F).post enc Try.prog Try.f9 false true false false) := by
  refine returnsInHanded_of_cond_sized (C := Try.checked) (s := Rows.OpenSpec.upto Rows.undoAppliesSpec) (k := Rows.uptoSmall) rfl own started (by kernel_rfl) Try.func9
    (OpenSpec.witness (enc := enc) (C := Try.checked) (s := Rows.OpenSpec.upto Rows.undoAppliesSpec) (k := Rows.uptoSmall) rfl false ⟨#[], #[.slice none 0 0, .agg #[.int .i64 0, .slice none 0 0, .slice none 0 0], .agg #[.int .i64 0, .slice none 0 0, .slice none 0 0]], []⟩ 8 (by kernel_rfl) (by kernel_rfl) (by kernel_rfl)
      (x := ([.nil, .agg [.lit (.int .i64 0), .nil, .nil], .agg [.lit (.int .i64 0), .nil, .nil]], [], [])) (by kernel_rfl) rfl (by kernel_rfl)) ?_
  intro W base args ds gs before hval0 hW _ hk hsz0 _
  have hsz : (DataW.weightsEach Try.prog (Try.f9.params.toList ++ Rows.undoAppliesSpec.plain.varTypes Try.prog) (ds ++ gs)).all (· ≤ reachBytes) = true := hsz0
  have hval : ∀ (j : Nat) t v, Try.f9.params[j]? = some t → args[j]? = some v → Value.okWide Try.prog W .any base t v := hval0
  have hW' := hW
  obtain ⟨p, q, hA0, hV, rfl, hfz, hnd⟩ := hW
  have hA : DataW.TrodAll enc Try.prog W 0 (fun _ => true) true Try.f9.params.toList args.toList ds p := hA0
  rw [Try.params9] at hA hval hsz
  obtain ⟨v0, vs0, d0, ds0, p0, q0, hargs, rfl, rfl, h0, r0⟩ := trodAll_cons hA
  obtain ⟨v1, vs1, d1, ds1, p1, q1, rfl, rfl, rfl, h1, r1⟩ := trodAll_cons r0
  obtain ⟨v2, vs2, d2, ds2, p2, q2, rfl, rfl, rfl, h2, r2⟩ := trodAll_cons r1
  obtain ⟨rfl, rfl, rfl⟩ := trodAll_nil r2
  obtain rfl : args = #[v0, v1, v2] := by cases args; simp_all
  obtain ⟨rfl, rfl⟩ := trodVars_none hV
  have lt0 : ∀ x ∈ p0, x.block < W.heap.size := by obtain ⟨m, hm⟩ := h0; exact DataW.trod_lt m _ _ _ hm
  have lt1 : ∀ x ∈ p1, x.block < W.heap.size := by obtain ⟨m, hm⟩ := h1; exact DataW.trod_lt m _ _ _ hm
  have lt2 : ∀ x ∈ p2, x.block < W.heap.size := by obtain ⟨m, hm⟩ := h2; exact DataW.trod_lt m _ _ _ hm
  obtain ⟨_, _, _, rfl⟩ := okWide_slice Try.underlying22 (hval 0 22 v0 rfl rfl)
  have k0 := h0
  obtain ⟨f0, hf0⟩ := h0
  have k1 := h1
  obtain ⟨f1, hf1⟩ := h1
  have k2 := h2
  obtain ⟨f2, hf2⟩ := h2
  obtain ⟨A0, n0, c0, xs0, e0, hR0, hB0⟩ := open_runes Try.underlying22 Try.underlying21 (by kernel_rfl) (by kernel_rfl) (by simpa [Value.cells] using hf0) (reached_of hsz (j := 0) rfl rfl)
  simp only [Value.slice.injEq] at e0
  obtain ⟨rfl, rfl, rfl⟩ := e0
  obtain ⟨cs1, hv1, hz1⟩ := okWide_struct Try.underlying60 (hval 1 60 v1 rfl rfl)
  subst hv1
  obtain ⟨ed1, A1, n1, c1, A1', n1', c1', e1, hR1, hR1', hB1⟩ := open_edit (cs := cs1.toList) (by simpa [Value.cells] using hf1) (reached_of hsz (j := 1) rfl rfl)
  obtain rfl : cs1 = #[.int .i64 ed1.at_, .slice A1 n1 c1, .slice A1' n1' c1'] := by cases cs1; simpa using e1
  obtain ⟨cs2, hv2, hz2⟩ := okWide_struct Try.underlying60 (hval 2 60 v2 rfl rfl)
  subst hv2
  obtain ⟨ed2, A2, n2, c2, A2', n2', c2', e2, hR2, hR2', hB2⟩ := open_edit (cs := cs2.toList) (by simpa [Value.cells] using hf2) (reached_of hsz (j := 2) rfl rfl)
  obtain rfl : cs2 = #[.int .i64 ed2.at_, .slice A2 n2 c2, .slice A2' n2' c2'] := by cases cs2; simpa using e2
  have hall : Rows.uptoBulkAll [d0, d1, d2] ≤ 1048576 := of_decide_eq_true hk
  simp only [Rows.uptoBulkAll] at hall
  have hS1 : n1 ≤ 1048576 ∧ n1' ≤ 1048576 := by
    have h9 := edit_bulk (x := (d1, p1)) (by simpa [Value.cells] using hf1)
    simp only at h9
    omega
  have hS2 : n2 ≤ 1048576 ∧ n2' ≤ 1048576 := by
    have h9 := edit_bulk (x := (d2, p2)) (by simpa [Value.cells] using hf2)
    simp only at h9
    omega
  clear hA0 hval0 hsz0
  refine (applies_any (w := W) (hL := hR0) (hr := hR1) (hr' := hR1') (hq := hR2) (hq' := hR2') (w0 := hB1.1) (w1 := hB2.1) (hN := by unfold small; omega) (hn := hS1.1) (hn' := hS1.2) (hm := hS2.1) (hm' := hS2.2)).mono fun e W' ⟨he, hp⟩ => ?_
  subst he
  have bel : Below W.heap.size W W' := hp.pure_below
  exact ⟨_, rfl, _, _, _, [], _, [], hW', trodAll_mk1 (shut_bool Try.underlying4 _), (trodAll_cons_mk (Below.trod laidOut (by kernel_rfl) (of_decide_eq_true (by kernel_rfl)) k0 bel lt0) (trodAll_cons_mk (Below.trod laidOut (by kernel_rfl) (of_decide_eq_true (by kernel_rfl)) k1 bel lt1) (trodAll_cons_mk (Below.trod laidOut (by kernel_rfl) (of_decide_eq_true (by kernel_rfl)) k2 bel lt2) trodAll_mk0))), rfl, bel.frame _, fun h => by cases h⟩

theorem over : Rows.undoAppliesUptoRow.holds Try.pinned (Rows.OpenSpec.upto Rows.undoAppliesSpec) :=
  OpenClaim.holds_of_cond 9 Try.f9 rfl rfl rfl rfl rfl rfl rfl ⟨rfl, rfl, rfl, rfl, rfl⟩ rfl rfl rfl rfl rfl (by kernel_rfl) Try.func9 (by kernel_rfl)
    (of_decide_eq_true (by kernel_rfl)) (by unfold Func.isWrapper; first | (rw [if_pos (by decide +kernel)]; kernel_rfl) | (rw [if_neg (by decide +kernel)]; exact ⟨rfl, rfl⟩))
    (fun os started H enc _ F => lifted os started H enc F)

/-- The statement. -/
theorem undoApplies_holds : Rows.UndoAppliesUptoSaid := over
#print axioms undoApplies_holds

end Go.Proofs.Ytinlpmgchcbjpaa
