/- Step.edit: a step as an edit of a line. -/
import Derived.Test.YtinlpmgchcbjpaaU2
import Derived.Deep.RegionLaw
namespace Go.Proofs.Ytinlpmgchcbjpaa
open Go Go.RowKit
set_option maxHeartbeats 1000000
set_option maxRecDepth 100000

def stepAt (at0 : Int) (N : Nat) : Nat := if 0 < N ∧ 0 < at0 then (at0 % ((N : Int) + 1)).toNat else 0
def stepMany (many at0 : Int) (N : Nat) : Nat := (min (max many 0) ((N : Int) - (stepAt at0 N : Nat))).toNat
theorem stepAt_le (at0 : Int) (N : Nat) : stepAt at0 N ≤ N := by
  unfold stepAt
  split
  · have h1 := Int.emod_lt_of_pos at0 (b := (N : Int) + 1) (by omega)
    have h2 := Int.emod_nonneg at0 (b := (N : Int) + 1) (by omega)
    omega
  · omega
theorem stepMany_le (many at0 : Int) (N : Nat) : stepAt at0 N + stepMany many at0 N ≤ N := by
  have := stepAt_le at0 N
  unfold stepMany
  omega
theorem stepMany_eq (many at0 : Int) (N : Nat) : min (max many 0) ((N : Int) - (stepAt at0 N : Nat)) = ((stepMany many at0 N : Nat) : Int) := by
  have := stepAt_le at0 N
  unfold stepMany
  omega

def stepEd (at0 many : Int) (line ins : List Int) : Ed := ⟨(stepAt at0 line.length : Nat), (line.drop (stepAt at0 line.length)).take (stepMany many at0 line.length), ins⟩

/-- What a step hands back: the deleted runes in new memory, the inserted ones as they came. -/
def StepOut (w : World) (at0 many : Int) (line ins : List Int) (A' : Option Addr) (n' c' : Nat) (r : Ending) (w' : World) : Prop :=
  ∃ A n c, r = .returned (.agg #[.int .i64 (stepAt at0 line.length : Nat), .slice A n c, .slice A' n' c']) ∧ RdI w' (fun b => w.heap.size ≤ b) A n c (stepEd at0 many line ins).del ∧ Pure w w'

set_option maxHeartbeats 800000 in
theorem step_any (at0 many : Int) (A' : Option Addr) (n' c' : Nat) (bg en : Value) (ins : List Int) (AL : Option Addr) (N C : Nat) (line : List Int) (SL : Nat → Prop) (w : World) (hL : RdI w SL AL N C line) (hN : small N) :
    Calls Try.prog 39 #[.agg #[.int .i64 at0, .int .i64 many, .slice A' n' c', bg, en], .slice AL N C] w (StepOut w at0 many line ins A' n' c') := by
  have hNI : (N : Int) ≤ 35184372088832 := by unfold small at hN; omega
  have HL := hid hL.len
  have hk : stepAt at0 N ≤ N := stepAt_le at0 N
  have hkj := stepMany_le many at0 N
  have hme := stepMany_eq many at0 N
  obtain ⟨k, hke⟩ : ∃ k, k = stepAt at0 N := ⟨_, rfl⟩
  obtain ⟨j, hje⟩ : ∃ j, j = stepMany many at0 N := ⟨_, rfl⟩
  rw [← hke] at hk hkj hme
  rw [← hje] at hkj hme
  obtain ⟨M, hM⟩ : ∃ M, (if many < 0 then 0 else many) = M := ⟨_, rfl⟩
  have hmin : (if (N : Int) - (k : Int) < M then (N : Int) - (k : Int) else M) = (j : Int) := by
    rw [← hme, ← hM]; split <;> split <;> omega
  clear hme
  have HK := hid hke
  have HJ := hid hje
  by_cases h0 : 0 < N ∧ 0 < at0
  · have hmod : at0.tmod ((N : Int) + 1) = (k : Int) := by
      rw [Int.tmod_eq_emod_of_nonneg (by omega), hke]
      unfold stepAt
      rw [if_pos h0]
      have := Int.emod_nonneg at0 (b := (N : Int) + 1) (by omega)
      omega
    have hN0 : (0 : Int) < N := by omega
    have ha0 : 0 < at0 := h0.2
    have hsum : IntKind.i64.wrap ((N : Int) + 1) = (N : Int) + 1 := IntWalk.i64_in _ (by omega)
    have hz : ((N : Int) + 1 == 0) = false := by rw [beq_eq_false_iff_ne]; omega
    have hz' : ¬ (N : Int) + 1 = 0 := by omega
    have hsub : IntKind.i64.wrap ((N : Int) - (k : Int)) = (N : Int) - (k : Int) := IntWalk.i64_in _ (by omega)
    have hX := hL.sub k (k + j) (by omega) hkj
    have hcapL := hL.cap
    rw [show k + j - k = j by omega] at hX
    obtain ⟨B1, hB1⟩ : ∃ B1, (if C = k then AL else Option.map (fun x => x.add k) AL) = B1 := ⟨_, rfl⟩
    rw [hB1] at hX
    obtain ⟨X, hXe⟩ : ∃ X, X = (line.drop k).take j := ⟨_, rfl⟩
    rw [← hXe] at hX
    have HX := hid hXe
    have hsumJ : IntKind.i64.wrap ((k : Int) + (j : Int)) = (k : Int) + (j : Int) := IntWalk.i64_in _ (by omega)
    have hsum0 : (0 : Int) ≤ (k : Int) + (j : Int) := by omega
    have hsumN : ((k : Int) + (j : Int)).toNat = k + j := by omega
    have hle : (k : Int) ≤ (k : Int) + (j : Int) := by omega
    have hcap1 : (k : Int) + (j : Int) ≤ (C : Int) := by omega
    have hkk : k + j - k = j := by omega
    clear hXe hke hje h0
    go_enter Try.func39, Try.ntmps39
    go_wp2
    obtain ⟨w0, hw0⟩ : ∃ w0, w0 = (w.alloc (.cells #[.int .i64 at0, .int .i64 many, .slice A' n' c', bg, en] 68)).alloc (.cells #[.int .i64 0, .slice none 0 0, .slice none 0 0] 60) := ⟨_, rfl⟩
    rw [← hw0]
    have hp0 : Pure w w0 := by rw [hw0]; exact ((Only.refl _ w).alloc _).alloc _
    have hb : Blk w0 w.heap.size 68 #[.int .i64 at0, .int .i64 many, .slice A' n' c', bg, en] := by rw [hw0]; exact (Blk.new w _ _).alloc _
    have hz : Blk w0 (w.heap.size + 1) 60 #[.int .i64 0, .slice none 0 0, .slice none 0 0] := by
      rw [hw0]; have := Blk.new (w.alloc (.cells #[.int .i64 at0, .int .i64 many, .slice A' n' c', bg, en] 68)) 60 #[.int .i64 0, .slice none 0 0, .slice none 0 0]; rwa [World.size_alloc] at this
    have d2 : w0.cell? ⟨w.heap.size, 2, none⟩ = some (.slice A' n' c') := hb.cell 2
    have z0 : w0.cell? ⟨w.heap.size + 1, 0, none⟩ = some (.int .i64 0) := hz.cell 0
    have z1 : w0.cell? ⟨w.heap.size + 1, 1, none⟩ = some (.slice none 0 0) := hz.cell 1
    have z2 : w0.cell? ⟨w.heap.size + 1, 2, none⟩ = some (.slice none 0 0) := hz.cell 2
    clear hw0
    go_region_law (first | ((refine stepI (.const (.slice none 0 0)) (.tmp 35) (by rfl) (by rfl) w0.heap.size (.slice none 0 0) 0 [] (by rfl) (World.ownsRow_nil _ _ _ _) SL B1 j (C - k) _ (by go_simp) (hX.pure_ hp0.drew) (oneI X) (by unfold maxLen; omega) (by omega) (Nat.le_refl _) ?_; intro A5 c5 w5 ho5 hp5 hat5; have hq5 : Pure w0 w5 := (hp5.mono (fun b _ e => by simp [Value.ownBlock] at e)).ofDrew; have hb5 := hb.pure_ hq5; have hz5 := hz.pure_ hq5; have e2 : w5.cell? ⟨w.heap.size, 2, none⟩ = some (.slice A' n' c') := hb5.cell 2; have g0 : w5.cell? ⟨w.heap.size + 1, 0, none⟩ = some (.int .i64 0) := hz5.cell 0; have g1 : w5.cell? ⟨w.heap.size + 1, 1, none⟩ = some (.slice none 0 0) := hz5.cell 1; have g2 : w5.cell? ⟨w.heap.size + 1, 2, none⟩ = some (.slice none 0 0) := hz5.cell 2; have k0 := hz5.frozen 0; have k1 := hz5.frozen 1; have k2 := hz5.frozen 2)))
    all_goals
      go_wp2
      simp only [Nat.zero_add, List.nil_append] at ho5
      have ho : Only (fun b => b = w.heap.size + 1) w5 (((w5.setCell ⟨w.heap.size + 1, 0, none⟩ (.int .i64 (k : Int))).setCell ⟨w.heap.size + 1, 1, none⟩ (.slice A5 j c5)).setCell ⟨w.heap.size + 1, 2, none⟩ (.slice A' n' c')) := (((Only.refl _ w5).set 0 _).set 1 _).set 2 _
      have hs0 := hp0.size
      have hlz := hz.lt
      refine bodyPost_ret (results_cell_row rfl _ _ (w.heap.size + 1) 60 #[.int .i64 (k : Int), .slice A5 j c5, .slice A' n' c'] (0, 0) _ rfl (by simpa [Blk] using ((hz5.set_ 0 (.int .i64 (k : Int))).set_ 1 (.slice A5 j c5)).set_ 2 (.slice A' n' c')) Try.underlying60 rfl size60) rfl ?_
      have hX5 : RdI w5 (fun b => w0.heap.size ≤ b) A5 j c5 X := Rd.of_own ho5 fun b hb => (ho5.lt b hb).1
      have hfin : X = (stepEd at0 many line ins).del := by
        unfold stepEd
        simp only [HL.out]
        rw [← HK.out, ← HJ.out]; exact HX.out
      refine ⟨A5, j, c5, by rw [HL.out, ← HK.out], ?_, (hp0.trans hq5).then_ ho fun i hi e => ?_⟩
      · rw [← hfin]
        exact RdI.mono (hX5.only ho fun b hb _ e => by have h1 : w0.heap.size ≤ b := hb; have h2 : b = w.heap.size + 1 := e; omega) fun b _ hb => by have h1 : w0.heap.size ≤ b := hb; omega
      · have h2 : i = w.heap.size + 1 := e; omega
  · have hk0 : k = 0 := by rw [hke]; unfold stepAt; rw [if_neg h0]
    clear hke
    subst hk0
    simp only [Int.ofNat_zero, Int.sub_zero] at hmin
    by_cases hN0 : 0 < N
    · have hN1 : (0 : Int) < N := by omega
      have ha0 : ¬ 0 < at0 := fun h => h0 ⟨hN0, h⟩
      clear h0 hN0
      have hX := hL.pre (k := j) (by omega)
      have hcapL := hL.cap
      obtain ⟨X, hXe⟩ : ∃ X, X = line.take j := ⟨_, rfl⟩
      rw [← hXe] at hX
      have HX := hid hXe
      have hjC : (j : Int) ≤ (C : Int) := by omega
      have hwj : IntKind.i64.wrap (j : Int) = (j : Int) := IntWalk.i64_in _ (by omega)
      clear hXe hje
      go_enter Try.func39, Try.ntmps39
      go_wp2
      obtain ⟨w0, hw0⟩ : ∃ w0, w0 = (w.alloc (.cells #[.int .i64 at0, .int .i64 many, .slice A' n' c', bg, en] 68)).alloc (.cells #[.int .i64 0, .slice none 0 0, .slice none 0 0] 60) := ⟨_, rfl⟩
      rw [← hw0]
      have hp0 : Pure w w0 := by rw [hw0]; exact ((Only.refl _ w).alloc _).alloc _
      have hb : Blk w0 w.heap.size 68 #[.int .i64 at0, .int .i64 many, .slice A' n' c', bg, en] := by rw [hw0]; exact (Blk.new w _ _).alloc _
      have hz : Blk w0 (w.heap.size + 1) 60 #[.int .i64 0, .slice none 0 0, .slice none 0 0] := by
        rw [hw0]; have := Blk.new (w.alloc (.cells #[.int .i64 at0, .int .i64 many, .slice A' n' c', bg, en] 68)) 60 #[.int .i64 0, .slice none 0 0, .slice none 0 0]; rwa [World.size_alloc] at this
      have d2 : w0.cell? ⟨w.heap.size, 2, none⟩ = some (.slice A' n' c') := hb.cell 2
      have z0 : w0.cell? ⟨w.heap.size + 1, 0, none⟩ = some (.int .i64 0) := hz.cell 0
      have z1 : w0.cell? ⟨w.heap.size + 1, 1, none⟩ = some (.slice none 0 0) := hz.cell 1
      have z2 : w0.cell? ⟨w.heap.size + 1, 2, none⟩ = some (.slice none 0 0) := hz.cell 2
      clear hw0
      go_region_law (first | ((refine stepI (.const (.slice none 0 0)) (.tmp 35) (by rfl) (by rfl) w0.heap.size (.slice none 0 0) 0 [] (by rfl) (World.ownsRow_nil _ _ _ _) SL AL j C _ (by go_simp) (hX.pure_ hp0.drew) (oneI X) (by unfold maxLen; omega) (by omega) (Nat.le_refl _) ?_; intro A5 c5 w5 ho5 hp5 hat5; have hq5 : Pure w0 w5 := (hp5.mono (fun b _ e => by simp [Value.ownBlock] at e)).ofDrew; have hb5 := hb.pure_ hq5; have hz5 := hz.pure_ hq5; have e2 : w5.cell? ⟨w.heap.size, 2, none⟩ = some (.slice A' n' c') := hb5.cell 2; have g0 : w5.cell? ⟨w.heap.size + 1, 0, none⟩ = some (.int .i64 0) := hz5.cell 0; have g1 : w5.cell? ⟨w.heap.size + 1, 1, none⟩ = some (.slice none 0 0) := hz5.cell 1; have g2 : w5.cell? ⟨w.heap.size + 1, 2, none⟩ = some (.slice none 0 0) := hz5.cell 2; have k0 := hz5.frozen 0; have k1 := hz5.frozen 1; have k2 := hz5.frozen 2)))
      all_goals
        go_wp2
        simp only [Nat.zero_add, List.nil_append] at ho5
        have ho : Only (fun b => b = w.heap.size + 1) w5 (((w5.setCell ⟨w.heap.size + 1, 0, none⟩ (.int .i64 0)).setCell ⟨w.heap.size + 1, 1, none⟩ (.slice A5 j c5)).setCell ⟨w.heap.size + 1, 2, none⟩ (.slice A' n' c')) := (((Only.refl _ w5).set 0 _).set 1 _).set 2 _
        have hs0 := hp0.size
        have hlz := hz.lt
        refine bodyPost_ret (results_cell_row rfl _ _ (w.heap.size + 1) 60 #[.int .i64 0, .slice A5 j c5, .slice A' n' c'] (0, 0) _ rfl (by simpa [Blk] using ((hz5.set_ 0 (.int .i64 0)).set_ 1 (.slice A5 j c5)).set_ 2 (.slice A' n' c')) Try.underlying60 rfl size60) rfl ?_
        have hX5 : RdI w5 (fun b => w0.heap.size ≤ b) A5 j c5 X := Rd.of_own ho5 fun b hb => (ho5.lt b hb).1
        have hfin : X = (stepEd at0 many line ins).del := by
          unfold stepEd
          simp only [HL.out]
          rw [← HK.out, ← HJ.out]; simpa using HX.out
        refine ⟨A5, j, c5, by rw [HL.out, ← HK.out]; rfl, ?_, (hp0.trans hq5).then_ ho fun i hi e => ?_⟩
        · rw [← hfin]
          exact RdI.mono (hX5.only ho fun b hb _ e => by have h1 : w0.heap.size ≤ b := hb; have h2 : b = w.heap.size + 1 := e; omega) fun b _ hb => by have h1 : w0.heap.size ≤ b := hb; omega
        · have h2 : i = w.heap.size + 1 := e; omega
    · have hN1 : ¬ (0 : Int) < N := by omega
      clear h0 hN0
      have hX := hL.pre (k := j) (by omega)
      have hcapL := hL.cap
      obtain ⟨X, hXe⟩ : ∃ X, X = line.take j := ⟨_, rfl⟩
      rw [← hXe] at hX
      have HX := hid hXe
      have hjC : (j : Int) ≤ (C : Int) := by omega
      have hwj : IntKind.i64.wrap (j : Int) = (j : Int) := IntWalk.i64_in _ (by omega)
      clear hXe hje
      go_enter Try.func39, Try.ntmps39
      go_wp2
      obtain ⟨w0, hw0⟩ : ∃ w0, w0 = (w.alloc (.cells #[.int .i64 at0, .int .i64 many, .slice A' n' c', bg, en] 68)).alloc (.cells #[.int .i64 0, .slice none 0 0, .slice none 0 0] 60) := ⟨_, rfl⟩
      rw [← hw0]
      have hp0 : Pure w w0 := by rw [hw0]; exact ((Only.refl _ w).alloc _).alloc _
      have hb : Blk w0 w.heap.size 68 #[.int .i64 at0, .int .i64 many, .slice A' n' c', bg, en] := by rw [hw0]; exact (Blk.new w _ _).alloc _
      have hz : Blk w0 (w.heap.size + 1) 60 #[.int .i64 0, .slice none 0 0, .slice none 0 0] := by
        rw [hw0]; have := Blk.new (w.alloc (.cells #[.int .i64 at0, .int .i64 many, .slice A' n' c', bg, en] 68)) 60 #[.int .i64 0, .slice none 0 0, .slice none 0 0]; rwa [World.size_alloc] at this
      have d2 : w0.cell? ⟨w.heap.size, 2, none⟩ = some (.slice A' n' c') := hb.cell 2
      have z0 : w0.cell? ⟨w.heap.size + 1, 0, none⟩ = some (.int .i64 0) := hz.cell 0
      have z1 : w0.cell? ⟨w.heap.size + 1, 1, none⟩ = some (.slice none 0 0) := hz.cell 1
      have z2 : w0.cell? ⟨w.heap.size + 1, 2, none⟩ = some (.slice none 0 0) := hz.cell 2
      clear hw0
      go_region_law (first | ((refine stepI (.const (.slice none 0 0)) (.tmp 35) (by rfl) (by rfl) w0.heap.size (.slice none 0 0) 0 [] (by rfl) (World.ownsRow_nil _ _ _ _) SL AL j C _ (by go_simp) (hX.pure_ hp0.drew) (oneI X) (by unfold maxLen; omega) (by omega) (Nat.le_refl _) ?_; intro A5 c5 w5 ho5 hp5 hat5; have hq5 : Pure w0 w5 := (hp5.mono (fun b _ e => by simp [Value.ownBlock] at e)).ofDrew; have hb5 := hb.pure_ hq5; have hz5 := hz.pure_ hq5; have e2 : w5.cell? ⟨w.heap.size, 2, none⟩ = some (.slice A' n' c') := hb5.cell 2; have g0 : w5.cell? ⟨w.heap.size + 1, 0, none⟩ = some (.int .i64 0) := hz5.cell 0; have g1 : w5.cell? ⟨w.heap.size + 1, 1, none⟩ = some (.slice none 0 0) := hz5.cell 1; have g2 : w5.cell? ⟨w.heap.size + 1, 2, none⟩ = some (.slice none 0 0) := hz5.cell 2; have k0 := hz5.frozen 0; have k1 := hz5.frozen 1; have k2 := hz5.frozen 2)))
      all_goals
        go_wp2
        simp only [Nat.zero_add, List.nil_append] at ho5
        have ho : Only (fun b => b = w.heap.size + 1) w5 (((w5.setCell ⟨w.heap.size + 1, 0, none⟩ (.int .i64 0)).setCell ⟨w.heap.size + 1, 1, none⟩ (.slice A5 j c5)).setCell ⟨w.heap.size + 1, 2, none⟩ (.slice A' n' c')) := (((Only.refl _ w5).set 0 _).set 1 _).set 2 _
        have hs0 := hp0.size
        have hlz := hz.lt
        refine bodyPost_ret (results_cell_row rfl _ _ (w.heap.size + 1) 60 #[.int .i64 0, .slice A5 j c5, .slice A' n' c'] (0, 0) _ rfl (by simpa [Blk] using ((hz5.set_ 0 (.int .i64 0)).set_ 1 (.slice A5 j c5)).set_ 2 (.slice A' n' c')) Try.underlying60 rfl size60) rfl ?_
        have hX5 : RdI w5 (fun b => w0.heap.size ≤ b) A5 j c5 X := Rd.of_own ho5 fun b hb => (ho5.lt b hb).1
        have hfin : X = (stepEd at0 many line ins).del := by
          unfold stepEd
          simp only [HL.out]
          rw [← HK.out, ← HJ.out]; simpa using HX.out
        refine ⟨A5, j, c5, by rw [HL.out, ← HK.out]; rfl, ?_, (hp0.trans hq5).then_ ho fun i hi e => ?_⟩
        · rw [← hfin]
          exact RdI.mono (hX5.only ho fun b hb _ e => by have h1 : w0.heap.size ≤ b := hb; have h2 : b = w.heap.size + 1 := e; omega) fun b _ hb => by have h1 : w0.heap.size ≤ b := hb; omega
        · have h2 : i = w.heap.size + 1 := e; omega

end Go.Proofs.Ytinlpmgchcbjpaa
