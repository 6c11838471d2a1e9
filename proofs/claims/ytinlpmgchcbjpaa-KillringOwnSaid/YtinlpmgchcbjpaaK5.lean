/- The law's own first look at a ring: 'live'. -/
import Derived.Test.YtinlpmgchcbjpaaK4
import Derived.Laws.Cover4
namespace Go.Proofs.Ytinlpmgchcbjpaa
open Go Go.RowKit
set_option maxHeartbeats 400000
set_option maxRecDepth 100000

theorem Ring.tight {w : World} {S : Nat → Prop} {g place : Nat} {es : List (List Int)} (h : Ring w S g es place) : Ring w (fun b => S b ∧ b < w.heap.size) g es place :=
  h.mono (fun _ hb hS => ⟨hS, hb⟩) (fun hb => h.1 hb.1)

theorem RdI.one (W : World) (x : Int) : RdI (W.alloc (.cells #[.int .i32 x] 21)) (fun b => b = W.heap.size) (some ⟨W.heap.size, 0, none⟩) 1 1 [x] := by
  refine ⟨rfl, Nat.le_refl _, by unfold maxLen; omega, fun _ => ⟨W.heap.size, 0, rfl, rfl, by simp, fun j u hj => ?_⟩⟩
  have hb : Blk (W.alloc (.cells #[.int .i32 x] 21)) W.heap.size 21 #[.int .i32 x] := Blk.new _ _ _
  rw [hb.cell, Nat.zero_add]
  simpa using hj

theorem convert_ab (w : World) (S : Nat → Prop) (A : Option Addr) (n c : Nat) (hr : RdI w S A n c [97, 98]) : (convert 22 9 (.slice A n c)).run Try.prog w = .ok (.string ⟨#[97, 98]⟩) w := by
  have hl := hr.len
  simp at hl
  subst hl
  obtain ⟨g, off, u, rfl, _, _, h0, c0⟩ := Rd.at_ hr (k := 0) (by omega)
  obtain ⟨g', off', u', e, _, _, h1, c1⟩ := Rd.at_ hr (k := 1) (by omega)
  injection e with e
  injection e with e1 e2
  subst e1 e2
  simp at h0 h1
  subst h0 h1
  have := run_convert_runes (P := Try.prog) w 22 9 21 ⟨g, off, none⟩ 2 c [97, 98] (by simp) Try.underlying22 Try.underlying21 Try.underlying9 (by
    intro j hj
    match j, hj with
    | 0, _ => rw [addr_add]; exact c0
    | 1, _ => rw [addr_add]; exact c1)
  rw [this]
  rfl

theorem live_any (w : World) : Calls Try.prog 16 #[] w fun e w' => e = .returned (.bool true) ∧ Pure w w' := by
  have hc1 : killCode 0 [97] [] = 0 := by decide
  have hc2 : killCode 1 [98] [[97]] = 0 := by decide
  have he1 : killEs 0 [97] [] = [[97]] := by decide
  have hp1 : killPl 0 [97] [] 0 = 0 := by decide
  have he2 : killEs 1 [98] [[97]] = [[97, 98]] := by decide
  have hp2 : killPl 1 [98] [[97]] 0 = 0 := by decide
  have hr1 : rotErr [[97, 98]] = 0 := by decide
  have hr2 : rotTxt 0 [[97, 98]] 0 = [97, 98] := by decide
  go_enter Try.func16, Try.ntmps16
  go_wp2_with (go_at_call 15; refine (new_ring w).mono ?_; rintro e w1 h; obtain ⟨g, rfl, hg0, hR1, ho1⟩ := h)
  have hne : ¬ g = w1.heap.size := by have := hR1.lt; omega
  refine (kill_any g _ _ [] 0 0 _ 1 1 [97] _ (hR1.pure_ ((Only.refl _ w1).alloc _)) (RdI.one w1 97) hne).mono ?_
  rintro e w2 h
  obtain ⟨rfl, hR2, ho2⟩ := h.of_push
  rw [he1, hp1] at hR2
  clear h
  go_wp2_with fail
  have hne2 : ¬ g = w2.heap.size := by have := hR2.lt; omega
  refine (kill_any g _ _ [[97]] 0 1 _ 1 1 [98] _ (hR2.pure_ ((Only.refl _ w2).alloc _)) (RdI.one w2 98) hne2).mono ?_
  rintro e w3 h
  obtain ⟨rfl, hR3, ho3⟩ := h.of_push
  rw [he2, hp2] at hR3
  clear h
  go_wp2_with fail
  refine (yank_any g _ [[97, 98]] 0 w3 hR3).mono ?_
  rintro e w4 ⟨A, m, c, rfl, hr4, hR4, ho4⟩
  rw [hr2] at hr4
  have hcv := convert_ab w4 _ A m c hr4
  have c0 := hR4.c0
  have c62 := hR4.c62
  go_wp2_with (go_at_call 20; refine (len_made g _ _ c0 c62).mono ?_; rintro e w' ⟨rfl, rfl⟩)
  go_ret
  have hT : ∀ i, i < w.heap.size → i = g → False := fun i hi e => by omega
  exact ⟨rfl, ((((ho1.alloc _).then_ ho2 hT).alloc _).then_ ho3 hT).then_ ho4 hT⟩

end Go.Proofs.Ytinlpmgchcbjpaa
