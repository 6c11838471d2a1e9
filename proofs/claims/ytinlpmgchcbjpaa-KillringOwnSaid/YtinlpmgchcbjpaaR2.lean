/- The reference's Yank, Rotate and Kill. -/
import Derived.Test.YtinlpmgchcbjpaaR1
import Derived.Test.YtinlpmgchcbjpaaL6
import Derived.Deep.RegionWith
namespace Go.Proofs.Ytinlpmgchcbjpaa
open Go Go.RowKit
set_option maxHeartbeats 1000000
set_option maxRecDepth 100000

def RefRotDid (w : World) (S : Nat → Prop) (g : Nat) (es : List (List Int)) (place : Nat) (n : Int) (e : Ending) (w' : World) : Prop :=
  ∃ A m c, e = .returned (.tuple #[.slice A m c, .int .i64 (rotErr es)]) ∧
    RdI w' (fun b => w.heap.size ≤ b) A m c (rotTxt n es place) ∧ RefRing w' S g es (rotNew n es place) ∧ Only (fun b => b = g) w w'

theorem RefRing.pure_ {w w' : World} {S : Nat → Prop} {g place : Nat} {es : List (List Int)} (h : RefRing w S g es place) (hp : Pure w w') : RefRing w' S g es place := by
  obtain ⟨h1, A, N, c, hB, hL, h2⟩ := h
  exact ⟨h1, A, N, c, hB.pure_ hp, hL.pure_ hp, h2⟩
theorem RefRing.lt {w : World} {S : Nat → Prop} {g place : Nat} {es : List (List Int)} (h : RefRing w S g es place) : g < w.heap.size := by
  obtain ⟨h1, A, N, c, hB, hL, h2⟩ := h
  exact hB.lt
theorem RefRing.only {w w' : World} {S T : Nat → Prop} {g place : Nat} {es : List (List Int)} (h : RefRing w S g es place) (ho : Only T w w') (hT : ∀ b, S b → b < w.heap.size → ¬ T b) (hg : ¬ T g) : RefRing w' S g es place := by
  obtain ⟨h1, A, N, c, hB, hL, h2⟩ := h
  exact ⟨h1, A, N, c, hB.only ho hg, hL.only ho hT, h2⟩
theorem RefRing.mono {w : World} {S S' : Nat → Prop} {g place : Nat} {es : List (List Int)} (h : RefRing w S g es place) (hS : ∀ b, b < w.heap.size → S b → S' b) (hg : ¬ S' g) : RefRing w S' g es place := by
  obtain ⟨h1, A, N, c, hB, hL, h2⟩ := h
  exact ⟨hg, A, N, c, hB, hL.mono hS, h2⟩

theorem ref_yank_none (g : Nat) (S : Nat → Prop) (place : Nat) (w : World) (hR : RefRing w S g [] place) :
    Calls Try.prog 25 #[.pointer (some ⟨g, 0, none⟩)] w fun e w' => e = .returned (.tuple #[.slice none 0 0, .int .i64 6]) ∧ w = w' := by
  obtain ⟨h1, A, N, c, hB, hL, h2⟩ := hR
  obtain rfl : N = 0 := hL.len.symm
  have c0 : w.cell? ⟨g, 0, none⟩ = some (.slice A 0 c) := hB.cell 0
  go_enter Try.func25, Try.ntmps25
  go_wp2
  go_ret2
  exact ⟨rfl, rfl⟩

theorem ref_yank_ok (g : Nat) (S : Nat → Prop) (es : List (List Int)) (place : Nat) (w : World) (hR : RefRing w S g es place) (hne : es ≠ []) :
    Calls Try.prog 25 #[.pointer (some ⟨g, 0, none⟩)] w fun e w' => ∃ A m c, e = .returned (.tuple #[.slice A m c, .int .i64 0]) ∧ RdI w' (fun b => w.heap.size ≤ b) A m c (es[place]?.getD []) ∧ Pure w w' := by
  obtain ⟨h1, A, N, c, hB, hL, hN, hm, hpl⟩ := hR
  have hlen := hL.len
  have hN0 : 0 < N := by rw [← hlen]; exact List.length_pos_iff.2 hne
  have hpN : place < N := by omega
  obtain ⟨gx, ox, a, m, d, rfl, _, hgx, hc, hx⟩ := hL.at_ hpN
  have hm1 : m ≤ 1024 := by rw [← hx.len]; exact hm place
  have c0 : w.cell? ⟨g, 0, none⟩ = some (.slice (some ⟨gx, ox, none⟩) N c) := hB.cell 0
  have c1 : w.cell? ⟨g, 1, none⟩ = some (.int .i64 (place : Int)) := hB.cell 1
  have hpI : (place : Int) < N := by omega
  have hNI : (N : Int) ≤ 60 := by omega
  have hN00 : ((N : Int) == 0) = false := by rw [beq_eq_false_iff_ne]; omega
  clear hN hpl hlen hm
  go_enter Try.func25, Try.ntmps25
  go_wp2
  go_region_with (go_at_call 72; refine (both_any a m d _ S none 0 0 [] (fun _ => False) w.drew hx (RdI.nil _ _ _ _ (Nat.zero_le _)) (by omega)).mono ?_; rintro e w3 ⟨A3, n3, c3, rfl, hx3, h3⟩; rw [List.append_nil] at hx3)
  all_goals
    go_wp2
    go_ret2
    exact ⟨A3, n3, c3, rfl, hx3, h3.ofDrew⟩

theorem RefRing.len {w : World} {S : Nat → Prop} {g place : Nat} {es : List (List Int)} (h : RefRing w S g es place) : es.length ≤ 60 ∧ (place < es.length ∨ place = 0) := by
  obtain ⟨h1, A, N, c, hB, hL, hN, hm, hpl⟩ := h; exact ⟨hN, hpl⟩

theorem ref_yank_any (g : Nat) (S : Nat → Prop) (es : List (List Int)) (place : Nat) (w : World) (hR : RefRing w S g es place) :
    Calls Try.prog 25 #[.pointer (some ⟨g, 0, none⟩)] w (RefRotDid w S g es place 0) := by
  by_cases hne : es = []
  · subst hne
    refine (ref_yank_none g S place w hR).mono ?_
    rintro e w' ⟨rfl, rfl⟩
    exact ⟨none, 0, 0, rfl, RdI.nil _ _ _ _ (Nat.zero_le _), hR, Only.refl _ _⟩
  · refine (ref_yank_ok g S es place w hR hne).mono ?_
    rintro e w' ⟨A, m, c, rfl, hx, hp⟩
    have hpl := hR.len.2
    have h0 : 0 < es.length := List.length_pos_iff.2 hne
    have hr : rotPl 0 es.length place = place := rotPl_0 (by omega)
    exact ⟨A, m, c, by rw [rotErr_some hne], by rw [rotTxt_some hne, hr]; exact hx, by rw [rotNew_some hne, hr]; exact hR.pure_ hp, Only.of_pure hp⟩

theorem ref_rot_none (g : Nat) (S : Nat → Prop) (place : Nat) (n : Int) (w : World) (hR : RefRing w S g [] place) :
    Calls Try.prog 26 #[.pointer (some ⟨g, 0, none⟩), .int .i64 n] w fun e w' => e = .returned (.tuple #[.slice none 0 0, .int .i64 6]) ∧ w = w' := by
  obtain ⟨h1, A, N, c, hB, hL, h2⟩ := hR
  obtain rfl : N = 0 := hL.len.symm
  have c0 : w.cell? ⟨g, 0, none⟩ = some (.slice A 0 c) := hB.cell 0
  go_enter Try.func26, Try.ntmps26
  go_wp2
  go_ret2
  exact ⟨rfl, rfl⟩

theorem ref_rot_ok (g : Nat) (S : Nat → Prop) (es : List (List Int)) (place : Nat) (n : Int) (w : World) (hR : RefRing w S g es place) (hne : es ≠ []) :
    Calls Try.prog 26 #[.pointer (some ⟨g, 0, none⟩), .int .i64 n] w fun e w' => ∃ A m c, e = .returned (.tuple #[.slice A m c, .int .i64 0]) ∧ RdI w' (fun b => w.heap.size ≤ b) A m c (es[rotPl n es.length place]?.getD []) ∧ RefRing w' S g es (rotPl n es.length place) ∧ Only (fun b => b = g) w w' := by
  obtain ⟨h1, A, E, c, hB, hL, hle, hm, hpl⟩ := hR
  have hlen := hL.len
  have hE0 : 0 < E := by rw [← hlen]; exact List.length_pos_iff.2 hne
  rw [hlen] at hpl hle ⊢
  have c0 : w.cell? ⟨g, 0, none⟩ = some (.slice A E c) := hB.cell 0
  have c1 : w.cell? ⟨g, 1, none⟩ = some (.int .i64 (place : Int)) := hB.cell 1
  have f1 : w.frozen? ⟨g, 1, none⟩ = false := hB.frozen 1
  have hE1 : (1 : Int) ≤ (E : Int) := by omega
  have hE60 : (E : Int) ≤ 60 := by omega
  have hp60 : (place : Int) ≤ 60 := by omega
  have hp0 : (0 : Int) ≤ (place : Int) := by omega
  have hEE : ((E : Int) == 0) = false := by rw [beq_eq_false_iff_ne]; omega
  have HE := hid hlen
  have HM := hid hm
  have H60 := hid hle
  clear hpl hle hlen hm
  go_enter Try.func26, Try.ntmps26
  go_wp2
  have b1 := Int.tmod_lt_of_pos n (b := (E : Int)) (by omega)
  have b2 := Int.lt_tmod_of_pos n (b := (E : Int)) (by omega)
  have q1 := Int.tmod_lt_of_pos ((place : Int) + n.tmod E) (b := (E : Int)) (by omega)
  have q2 := Int.lt_tmod_of_pos ((place : Int) + n.tmod E) (b := (E : Int)) (by omega)
  have h2 : IntKind.i64.wrap ((place : Int) + n.tmod E) = (place : Int) + n.tmod E := IntWalk.i64_in _ (by omega)
  have h3 : IntKind.i64.wrap (((place : Int) + n.tmod E).tmod E + E) = ((place : Int) + n.tmod E).tmod E + E := IntWalk.i64_in _ (by omega)
  have hE00 : ¬ (E : Int) = 0 := by omega
  go_region
  clear h2 h3 q1 q2 b1 b2
  go_wp2_with fail
  rw [rotPl_eq n place hE0]
  have hP := rotPl_lt n place hE0
  obtain ⟨P, hPe⟩ : ∃ P, P = rotPl n E place := ⟨_, rfl⟩
  rw [← hPe] at hP ⊢
  obtain ⟨w1, hw1⟩ : ∃ w1, w1 = (w.setCell ⟨g, 1, none⟩ (.int .i64 (P : Int))).drew := ⟨_, rfl⟩
  rw [← hw1]
  have ho1 : Only (fun b => b = g) w w1 := by rw [hw1]; exact ((Only.refl _ w).set _ _).drew
  have hB1 : Blk w1 g 48 #[.slice A E c, .int .i64 (P : Int)] := by rw [hw1]; exact (hB.set_ 1 _).drew
  have hL1 : RdL w1 S A E c es := hL.only ho1 fun b hb _ e => h1 (e ▸ hb)
  have HP := hid hPe
  clear hw1 c0 c1 f1 hB hL hPe
  obtain ⟨gx, ox, a, m, d, rfl, _, hgx, hc, hx⟩ := hL1.at_ hP
  have hm1 : m ≤ 1024 := by rw [← hx.len]; exact HM.out P
  have d0 : w1.cell? ⟨g, 0, none⟩ = some (.slice (some ⟨gx, ox, none⟩) E c) := hB1.cell 0
  have d1 : w1.cell? ⟨g, 1, none⟩ = some (.int .i64 (P : Int)) := hB1.cell 1
  have hPI : (P : Int) < E := by omega
  go_region_with (go_at_call 72; refine (both_any a m d _ S none 0 0 [] (fun _ => False) w1.drew hx (RdI.nil _ _ _ _ (Nat.zero_le _)) (by omega)).mono ?_; rintro e w3 ⟨A3, n3, c3, rfl, hx3, h3⟩; rw [List.append_nil] at hx3)
  all_goals
    go_wp2
    go_ret2
    have h3' := h3.ofDrew
    rw [HP.out] at hx3 hB1 hP
    exact ⟨A3, n3, c3, rfl, RdI.mono hx3 (fun b _ hb => Nat.le_trans ho1.size hb), ⟨h1, _, E, c, hB1.pure_ h3', hL1.pure_ h3', by rw [HE.out]; exact H60.out, HM.out, .inl (by rw [HE.out]; exact hP)⟩, ho1.trans (Only.of_pure h3')⟩

theorem ref_rot_any (g : Nat) (S : Nat → Prop) (es : List (List Int)) (place : Nat) (n : Int) (w : World) (hR : RefRing w S g es place) :
    Calls Try.prog 26 #[.pointer (some ⟨g, 0, none⟩), .int .i64 n] w (RefRotDid w S g es place n) := by
  by_cases hne : es = []
  · subst hne
    refine (ref_rot_none g S place n w hR).mono ?_
    rintro e w' ⟨rfl, rfl⟩
    exact ⟨none, 0, 0, rfl, RdI.nil _ _ _ _ (Nat.zero_le _), hR, Only.refl _ _⟩
  · refine (ref_rot_ok g S es place n w hR hne).mono ?_
    rintro e w' ⟨A, m, c, rfl, hx, hr, ho⟩
    exact ⟨A, m, c, by rw [rotErr_some hne], by rw [rotTxt_some hne]; exact hx, by rw [rotNew_some hne]; exact hr, ho⟩

/-- A row of one cell of the call's own. -/
theorem ownsRow_one (w : World) (base : Nat) (e : TypeId) (u : Value) (hb : base ≤ w.heap.size) : (w.alloc (.cells #[u] e)).ownsRow base e 1 (.slice (some ⟨w.heap.size, 0, none⟩) 1 1) 1 [u] :=
  ⟨by simp, .inr ⟨w.heap.size, 1, #[u], rfl, hb, heap_alloc_new w _, Nat.le_refl _, by unfold maxLen; omega, rfl, by simp⟩⟩
theorem Rd.tail {w : World} {S : Nat → Prop} {g off n c : Nat} {v : Value} {vs : List Value} (h : Rd w S 1 (some ⟨g, off, none⟩) (n + 1) c (v :: vs)) : Rd w S 1 (some ⟨g, off + 1, none⟩) n (c - 1) vs := by
  obtain ⟨h1, h2, h3, h4⟩ := h
  refine ⟨by simpa using h1, by omega, by omega, fun hn => ?_⟩
  obtain ⟨g', off', e, hS, hg, hc⟩ := h4 (by omega)
  simp only [Option.some.injEq, Addr.mk.injEq, and_true] at e
  obtain ⟨rfl, rfl⟩ := e
  refine ⟨g, off + 1, rfl, hS, hg, fun j u hu => ?_⟩
  rw [Nat.add_assoc, Nat.add_comm 1 j]
  exact hc (j + 1) u (by simpa using hu)
theorem Rd.take {w : World} {S : Nat → Prop} {A : Option Addr} {n c k : Nat} {vs : List Value} (h : Rd w S 1 A n c vs) (hk : k ≤ n) : Rd w S 1 A k c (vs.take k) := by
  obtain ⟨h1, h2, h3, h4⟩ := h
  refine ⟨by simp [h1]; omega, by omega, h3, fun hn => ?_⟩
  obtain ⟨g, off, e, hS, hg, hc⟩ := h4 (by omega)
  exact ⟨g, off, e, hS, hg, fun j u hu => hc j u (by
    by_cases hj : j < k
    · rwa [List.getElem?_take_of_lt hj] at hu
    · rw [List.getElem?_eq_none (by simp; omega)] at hu; simp at hu)⟩

end Go.Proofs.Ytinlpmgchcbjpaa
