/- UndoInverts answers true for every input and leaves its arguments as they were. No condition. -/
import Derived.Test.YtinlpmgchcbjpaaRows
import Derived.Test.YtinlpmgchcbjpaaV10
import Derived.Test.YtinlpmgchcbjpaaRt
import Derived.ProofKit
import Derived.OpenShut
import Derived.ChangeOld
import Derived.Below
namespace Go.Proofs.Ytinlpmgchcbjpaa
open Go Go.ChangeShapes Go.WideShapes Go.ChangeAt Go.RowKit
set_option maxRecDepth 100000

theorem own : ownKnob Try.prog.godebug = none := by kernel_rfl
theorem laidOut : laidOutB Try.prog = true := by kernel_rfl

theorem lifted (os : Os) (started : os.Started) (H : Type) (enc : TypeId × Value → H) :
    ReturnsInHanded {} Try.checked os 10 .any (Rows.undoInvertsSpec.pre6 enc Try.prog Try.f10 Rows.undoInvertsRow.domain false) (Rows.undoInvertsSpec.post enc Try.prog Try.f10 false true false false) := by
  refine returnsInHanded_of_change_sized (C := Try.checked) own started (by kernel_rfl) Try.func10
    (ChangeSpec.witness6 (enc := enc) (C := Try.checked) false ⟨#[], #[.slice none 0 0, .agg #[.int .i64 0, .int .i64 0, .slice none 0 0, .bool false, .bool false], .agg #[.int .i64 0, .int .i64 0, .slice none 0 0, .bool false, .bool false]], []⟩ 8 (by kernel_rfl) (by kernel_rfl) (by kernel_rfl) (by kernel_rfl)) ?_
  intro W base args ds gs before hval0 hW _ hsz0 _
  have hsz : (DataW.weightsEach Try.prog (Try.f10.params.toList ++ Rows.undoInvertsSpec.plain.varTypes Try.prog) (ds ++ gs)).all (· ≤ reachBytes) = true := hsz0
  have hval : ∀ (j : Nat) t v, Try.f10.params[j]? = some t → args[j]? = some v → Value.okWide Try.prog W .any base t v := hval0
  have hW' := hW
  obtain ⟨p, q, hA0, hV, rfl, hfz, hnd⟩ := hW
  have hA : DataW.TrodAll enc Try.prog W 0 (fun _ => true) true Try.f10.params.toList args.toList ds p := hA0
  rw [Try.params10] at hA hval hsz
  obtain ⟨v0, vs0, d0, ds0, p0, q0, hargs, rfl, rfl, h0, r0⟩ := trodAll_cons hA
  obtain ⟨v1, vs1, d1, ds1, p1, q1, rfl, rfl, rfl, h1, r1⟩ := trodAll_cons r0
  obtain ⟨v2, vs2, d2, ds2, p2, q2, rfl, rfl, rfl, h2, r2⟩ := trodAll_cons r1
  obtain ⟨rfl, rfl, rfl⟩ := trodAll_nil r2
  obtain rfl : args = #[v0, v1, v2] := by cases args; simp_all
  obtain ⟨rfl, rfl⟩ := trodVars_none hV
  have lt0 : ∀ x ∈ p0, x.block < W.heap.size := by obtain ⟨m, hm⟩ := h0; exact DataW.trod_lt m _ _ _ hm
  have lt1 : ∀ x ∈ p1, x.block < W.heap.size := by obtain ⟨m, hm⟩ := h1; exact DataW.trod_lt m _ _ _ hm
  have lt2 : ∀ x ∈ p2, x.block < W.heap.size := by obtain ⟨m, hm⟩ := h2; exact DataW.trod_lt m _ _ _ hm
  obtain ⟨_, _, _, rfl⟩ := okWide_slice Try.underlying22 (hval 0 22 v0 rfl rfl)
  have k0 := h0
  obtain ⟨f0, hf0⟩ := h0
  have k1 := h1
  obtain ⟨f1, hf1⟩ := h1
  have k2 := h2
  obtain ⟨f2, hf2⟩ := h2
  obtain ⟨A0, n0, c0, xs0, e0, hR0, hB0⟩ := open_runes Try.underlying22 Try.underlying21 (by kernel_rfl) (by kernel_rfl) (by simpa [Value.cells] using hf0) (reached_of hsz (j := 0) rfl rfl)
  simp only [Value.slice.injEq] at e0
  obtain ⟨rfl, rfl, rfl⟩ := e0
  obtain ⟨cs1, hv1, hz1⟩ := okWide_struct Try.underlying68 (hval 1 68 v1 rfl rfl)
  subst hv1
  obtain ⟨at1, mn1, A1, n1, c1, bg1, en1, ins1, e1, hR1, hB1⟩ := open_step (cs := cs1.toList) (by simpa [Value.cells] using hf1) (reached_of hsz (j := 1) rfl rfl)
  obtain rfl : cs1 = #[.int .i64 at1, .int .i64 mn1, .slice A1 n1 c1, .bool bg1, .bool en1] := by cases cs1; simpa using e1
  obtain ⟨cs2, hv2, hz2⟩ := okWide_struct Try.underlying68 (hval 2 68 v2 rfl rfl)
  subst hv2
  obtain ⟨at2, mn2, A2, n2, c2, bg2, en2, ins2, e2, hR2, hB2⟩ := open_step (cs := cs2.toList) (by simpa [Value.cells] using hf2) (reached_of hsz (j := 2) rfl rfl)
  obtain rfl : cs2 = #[.int .i64 at2, .int .i64 mn2, .slice A2 n2 c2, .bool bg2, .bool en2] := by cases cs2; simpa using e2
  clear hA0 hval0 hsz0
  refine (inverts_any _ _ _ xs0 _ _ _ _ _ _ _ _ ins1 _ _ _ _ _ _ _ _ ins2 _ W hR0 hR1 hR2 (by omega) hB1 hB2).mono fun e W' ⟨he, hp⟩ => ?_
  subst he
  have bel : Below W.heap.size W W' := hp.pure_below
  exact ⟨_, rfl, _, _, _, [], _, [], hW', trodAll_mk1 (shut_bool Try.underlying4 _), (trodAll_cons_mk (Below.trod laidOut (by kernel_rfl) (of_decide_eq_true (by kernel_rfl)) k0 bel lt0) (trodAll_cons_mk (Below.trod laidOut (by kernel_rfl) (of_decide_eq_true (by kernel_rfl)) k1 bel lt1) (trodAll_cons_mk (Below.trod laidOut (by kernel_rfl) (of_decide_eq_true (by kernel_rfl)) k2 bel lt2) trodAll_mk0))), rfl, bel.frame _, fun h => by cases h⟩

theorem over : Rows.undoInvertsRow.holds Try.pinned (OpenSpec.ofChange Rows.undoInvertsSpec) :=
  OpenClaim.holds_of_wide 10 Try.f10 rfl rfl rfl rfl rfl rfl rfl ⟨rfl, rfl, rfl, rfl, rfl⟩ rfl rfl rfl rfl rfl (by kernel_rfl) Try.func10 (by kernel_rfl)
    (of_decide_eq_true (by kernel_rfl)) (by unfold Func.isWrapper; first | (rw [if_pos (by decide +kernel)]; kernel_rfl) | (rw [if_neg (by decide +kernel)]; exact ⟨rfl, rfl⟩))
    (fun os started H enc _ => lifted os started H enc)

/-- The statement. -/
theorem undoInverts_holds : Rows.UndoInvertsSaid := over
#print axioms undoInverts_holds

end Go.Proofs.Ytinlpmgchcbjpaa
