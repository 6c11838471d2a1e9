/- The list of edits: End, Clear; lists that no call made. -/
import Derived.Test.YtinlpmgchcbjpaaU16
namespace Go.Proofs.Ytinlpmgchcbjpaa
open Go Go.RowKit
set_option maxHeartbeats 1000000
set_option maxRecDepth 100000

def endCode (op : Int) : Int := if op = 0 then 1 else 0
def endG (gs : List (List Ed)) (now : List Ed) (op : Int) : List (List Ed) := if op = 1 then closeG gs now else gs
def endN (now : List Ed) (op : Int) : List Ed := if op = 1 then [] else now
def endO (op : Int) : Int := if op = 0 then 0 else op - 1

theorem uend_any (g : Nat) (S : Nat → Prop) (gs : List (List Ed)) (now : List Ed) (op : Int) (w : World) (hU : UL w S g gs now op) (h0 : 0 ≤ op) (h1 : op ≤ 4611686018427387904) :
    Calls Try.prog 50 #[.pointer (some ⟨g, 0, none⟩)] w (ULDid w S g (endG gs now op) (endN now op) (endO op) (.int .i64 (endCode op))) := by
  have c4 := hU.c4
  have c2 := hU.c2
  have hlt := hU.lt
  have f2 : w.frozen? ⟨g, 2, none⟩ = false := by obtain ⟨_, Ag, ng, cg, An, nn, cn, Sg, Sn, hB, _⟩ := hU; exact hB.frozen 2
  by_cases hz : op = 0
  · subst hz
    go_enter Try.func50, Try.ntmps50
    go_wp2_with (go_at_call 78; refine (unone_made g w c4).mono ?_; rintro e w' ⟨rfl, rfl⟩)
    go_ret
    exact ULDid.same hU (Only.refl _ _)
  · have hz' : (op == 0) = false := by simpa using hz
    have hset := hU.setOpen (op - 1)
    have hos : Only (fun b => S b ∨ b = g) w (w.setCell ⟨g, 2, none⟩ (.int .i64 (op - 1))) := ((Only.refl (fun b => b = g) w).set 2 _).mono fun _ _ e => .inr e
    have hsz : (w.setCell ⟨g, 2, none⟩ (.int .i64 (op - 1))).heap.size = w.heap.size := by simp [World.setCell]
    by_cases ho : op = 1
    · subst ho
      have hG : endG gs now 1 = closeG gs now := rfl
      have hN : endN now 1 = [] := rfl
      have hC : endCode 1 = 0 := rfl
      have hO : endO 1 = 0 := rfl
      rw [hG, hN, hC, hO]
      go_enter Try.func50, Try.ntmps50
      go_wp2_with (go_at_call 78; refine (unone_made g w c4).mono ?_; rintro e w' ⟨rfl, rfl⟩)
      refine (uclose_any g S gs now (1 - 1) (w.setCell ⟨g, 2, none⟩ (.int .i64 (1 - 1))) hset).mono ?_
      rintro e w3 ⟨rfl, hU3, ho3⟩
      go_wp2
      go_ret
      rw [hsz] at hU3
      exact ⟨rfl, hU3, hos.trans ho3⟩
    · have hz2 : (op - 1 == 0) = false := by rw [beq_eq_false_iff_ne]; omega
      have hG : endG gs now op = gs := if_neg ho
      have hN : endN now op = now := if_neg ho
      have hC : endCode op = 0 := if_neg hz
      have hO : endO op = op - 1 := if_neg hz
      rw [hG, hN, hC, hO]
      clear hG hN hC hO hz ho
      go_enter Try.func50, Try.ntmps50
      go_wp2_with (go_at_call 78; refine (unone_made g w c4).mono ?_; rintro e w' ⟨rfl, rfl⟩)
      go_ret
      exact ⟨rfl, hset.plus hlt, hos⟩

theorem uclear_any (g : Nat) (S : Nat → Prop) (gs : List (List Ed)) (now : List Ed) (op : Int) (w : World) (hU : UL w S g gs now op) :
    Calls Try.prog 60 #[.pointer (some ⟨g, 0, none⟩)] w (ULDid w S g [] [] 0 (.tuple #[])) := by
  have c4 := hU.c4
  have hlt := hU.lt
  obtain ⟨h0, Ag, ng, cg, An, nn, cn, Sg, Sn, hB, _⟩ := hU
  have c0 : w.cell? ⟨g, 0, none⟩ = some (.slice Ag ng cg) := hB.cell 0
  have c1 : w.cell? ⟨g, 1, none⟩ = some (.slice An nn cn) := hB.cell 1
  have c2 : w.cell? ⟨g, 2, none⟩ = some (.int .i64 op) := hB.cell 2
  have c3 : w.cell? ⟨g, 3, none⟩ = some (.int .i64 (tot gs now : Nat)) := hB.cell 3
  have f0 := hB.frozen 0
  have f1 := hB.frozen 1
  have f2 := hB.frozen 2
  have f3 := hB.frozen 3
  have f4 := hB.frozen 4
  go_enter Try.func60, Try.ntmps60
  go_wp2_with (go_at_call 78; refine (unone_made g w c4).mono ?_; rintro e w' ⟨rfl, rfl⟩)
  go_end0
  have ho : Only (fun b => b = g) w (((((w.setCell ⟨g, 0, none⟩ (.slice none 0 0)).setCell ⟨g, 1, none⟩ (.slice none 0 0)).setCell ⟨g, 2, none⟩ (.int .i64 0)).setCell ⟨g, 3, none⟩ (.int .i64 0)).setCell ⟨g, 4, none⟩ (.bool true)) := (((((Only.refl _ w).set 0 _).set 1 _).set 2 _).set 3 _).set 4 _
  refine ⟨rfl, UL.plus ⟨h0, none, 0, 0, none, 0, 0, fun _ => False, fun _ => False, ?_, OwnK.nil _ _, OwnK.nil _ _, ?_, ?_, ?_, ?_, ?_, ?_, ?_⟩ hlt, ho.mono fun _ _ e => .inr e⟩
  · simpa [tot] using ((((hB.set_ 0 (.slice none 0 0)).set_ 1 (.slice none 0 0)).set_ 2 (.int .i64 0)).set_ 3 (.int .i64 0)).set_ 4 (.bool true)
  · rintro b (hb | hb | hb | hb)
    · exact hb.elim
    · exact hb.elim
    · simp [Value.ownBlock] at hb
    · simp [Value.ownBlock] at hb
  · intro b hb; simp [Value.ownBlock] at hb
  · intro b hb; simp [Value.ownBlock] at hb
  · simp [tot]
  · simp
  · simp
  · simp

/-- A list that no call made: nil, or zero. -/
def NoneU (p : Option Addr) (w : World) : Prop := p = none ∨ ∃ g, p = some ⟨g, 0, none⟩ ∧ w.cell? ⟨g, 4, none⟩ = some (.bool false) ∧ g < w.heap.size
theorem NoneU.pure_ {p : Option Addr} {w w' : World} (h : NoneU p w) (hp : Pure w w') : NoneU p w' := by
  rcases h with h | ⟨g, h, hc, hg⟩
  · exact .inl h
  · exact .inr ⟨g, h, (hp.cell (p := ⟨g, 4, none⟩) hg (fun x => x)).trans hc, Nat.lt_of_lt_of_le hg hp.size⟩

theorem unone_no (p : Option Addr) (w : World) (h : NoneU p w) : Calls Try.prog 78 #[.pointer p] w fun e w' => e = .returned (.bool true) ∧ w = w' := by
  rcases h with rfl | ⟨g, rfl, hc, _⟩
  · go_enter Try.func78, Try.ntmps78
    go_wp2
    go_ret
    exact ⟨rfl, rfl⟩
  · go_enter Try.func78, Try.ntmps78
    go_wp2
    go_ret
    exact ⟨rfl, rfl⟩

theorem no_begin (p : Option Addr) (w : World) (h : NoneU p w) : Calls Try.prog 47 #[.pointer p] w fun e w' => e = .returned (.int .i64 2) ∧ w = w' := by
  go_enter Try.func47, Try.ntmps47
  go_wp2_with (go_at_call 78; refine (unone_no p w h).mono ?_; rintro e w' ⟨rfl, rfl⟩)
  go_ret
  exact ⟨rfl, rfl⟩
theorem no_end (p : Option Addr) (w : World) (h : NoneU p w) : Calls Try.prog 50 #[.pointer p] w fun e w' => e = .returned (.int .i64 2) ∧ w = w' := by
  go_enter Try.func50, Try.ntmps50
  go_wp2_with (go_at_call 78; refine (unone_no p w h).mono ?_; rintro e w' ⟨rfl, rfl⟩)
  go_ret
  exact ⟨rfl, rfl⟩
theorem no_add (p : Option Addr) (cs : Array Value) (w : World) (h : NoneU p w) : Calls Try.prog 42 #[.pointer p, .agg cs] w fun e w' => e = .returned (.int .i64 2) ∧ Pure w w' := by
  have h' := h.pure_ ((Only.refl (fun _ => False) w).alloc (.cells cs 60))
  go_enter Try.func42, Try.ntmps42
  go_wp2_with (go_at_call 78; refine (unone_no p _ h').mono ?_; rintro e w' ⟨rfl, rfl⟩)
  go_ret
  exact ⟨rfl, (Only.refl _ w).alloc _⟩
theorem no_undo (p : Option Addr) (w : World) (h : NoneU p w) : Calls Try.prog 54 #[.pointer p] w fun e w' => e = .returned (.tuple #[.slice none 0 0, .int .i64 2]) ∧ w = w' := by
  go_enter Try.func54, Try.ntmps54
  go_wp2_with (go_at_call 78; refine (unone_no p w h).mono ?_; rintro e w' ⟨rfl, rfl⟩)
  go_ret2
  exact ⟨rfl, rfl⟩
theorem no_clear (p : Option Addr) (w : World) (h : NoneU p w) : Calls Try.prog 60 #[.pointer p] w fun e w' => e = .returned (.tuple #[]) ∧ w = w' := by
  go_enter Try.func60, Try.ntmps60
  go_wp2_with (go_at_call 78; refine (unone_no p w h).mono ?_; rintro e w' ⟨rfl, rfl⟩)
  go_end0
  exact ⟨rfl, rfl⟩
theorem no_revert (p : Option Addr) (w : World) (h : NoneU p w) : Calls Try.prog 53 #[.pointer p] w fun e w' => e = .returned (.slice none 0 0) ∧ w = w' := by
  go_enter Try.func53, Try.ntmps53
  go_wp2_with (go_at_call 78; refine (unone_no p w h).mono ?_; rintro e w' ⟨rfl, rfl⟩)
  go_ret
  exact ⟨rfl, rfl⟩
theorem no_len (p : Option Addr) (w : World) (h : NoneU p w) : Calls Try.prog 48 #[.pointer p] w fun e w' => e = .returned (.int .i64 0) ∧ w = w' := by
  go_enter Try.func48, Try.ntmps48
  go_wp2_with (go_at_call 78; refine (unone_no p w h).mono ?_; rintro e w' ⟨rfl, rfl⟩)
  go_ret
  exact ⟨rfl, rfl⟩
theorem no_edits (p : Option Addr) (w : World) (h : NoneU p w) : Calls Try.prog 49 #[.pointer p] w fun e w' => e = .returned (.int .i64 0) ∧ w = w' := by
  go_enter Try.func49, Try.ntmps49
  go_wp2_with (go_at_call 78; refine (unone_no p w h).mono ?_; rintro e w' ⟨rfl, rfl⟩)
  go_ret
  exact ⟨rfl, rfl⟩
theorem no_open (p : Option Addr) (w : World) (h : NoneU p w) : Calls Try.prog 64 #[.pointer p] w fun e w' => e = .returned (.int .i64 0) ∧ w = w' := by
  go_enter Try.func64, Try.ntmps64
  go_wp2_with (go_at_call 78; refine (unone_no p w h).mono ?_; rintro e w' ⟨rfl, rfl⟩)
  go_ret
  exact ⟨rfl, rfl⟩
theorem no_clone (p : Option Addr) (w : World) (h : NoneU p w) : Calls Try.prog 51 #[.pointer p] w fun e w' => e = .returned (.pointer none) ∧ w = w' := by
  go_enter Try.func51, Try.ntmps51
  go_wp2_with (go_at_call 78; refine (unone_no p w h).mono ?_; rintro e w' ⟨rfl, rfl⟩)
  go_ret
  exact ⟨rfl, rfl⟩
theorem no_groups (p : Option Addr) (w : World) (h : NoneU p w) : Calls Try.prog 44 #[.pointer p] w fun e w' => ∃ Bn, e = .returned (.func (.func 81) #[] #[.pointer (some ⟨Bn, 0, none⟩)]) ∧ Blk w' Bn 75 #[.slice none 0 0] ∧ w.heap.size ≤ Bn ∧ Pure w w' := by
  have h' := h.pure_ ((Only.refl (fun _ => False) w).alloc (.cells #[.slice none 0 0] 75))
  refine calls_of_wp_marks Try.func44 rfl ?_
  simp only [Try.ntmps44, List.size_toArray, List.length_cons, List.length_nil, Nat.reduceAdd, Nat.reduceSub, Array.replicate_succ, Array.replicate_zero, List.push_toArray, List.append_toArray, List.nil_append, List.cons_append]
  go_wp2_with (go_at_call 78; refine (unone_no p _ h').mono ?_; rintro e w' ⟨rfl, rfl⟩)
  refine leave_marks (B := w.heap.size) [] _ (Marks.nil _ _) fun W' hk' => ⟨_, results_tmp rfl _ _ _, ?_⟩
  exact ⟨w.heap.size, rfl, (Blk.new w 75 #[.slice none 0 0]).keptB hk', Nat.le_refl _, ((Only.refl _ w).alloc _).keptB hk' (Nat.le_refl _)⟩

end Go.Proofs.Ytinlpmgchcbjpaa
