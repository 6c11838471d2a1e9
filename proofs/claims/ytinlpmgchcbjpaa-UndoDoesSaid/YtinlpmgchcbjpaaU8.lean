/- The list of edits: Edits, Open, Begin, close. -/
import Derived.Test.YtinlpmgchcbjpaaU7
import Derived.Deep.RegionLaw
namespace Go.Proofs.Ytinlpmgchcbjpaa
open Go Go.RowKit
set_option maxHeartbeats 1000000
set_option maxRecDepth 100000

theorem uedits_any (g : Nat) (S : Nat → Prop) (gs : List (List Ed)) (now : List Ed) (op : Int) (w : World) (hU : UL w S g gs now op) :
    Calls Try.prog 49 #[.pointer (some ⟨g, 0, none⟩)] w fun e w' => e = .returned (.int .i64 (tot gs now : Nat)) ∧ w = w' := by
  have c4 := hU.c4
  have c3 := hU.c3
  go_enter Try.func49, Try.ntmps49
  go_wp2_with (go_at_call 78; refine (unone_made g w c4).mono ?_; rintro e w' ⟨rfl, rfl⟩)
  go_ret
  exact ⟨rfl, rfl⟩

theorem uopen_any (g : Nat) (S : Nat → Prop) (gs : List (List Ed)) (now : List Ed) (op : Int) (w : World) (hU : UL w S g gs now op) :
    Calls Try.prog 64 #[.pointer (some ⟨g, 0, none⟩)] w fun e w' => e = .returned (.int .i64 op) ∧ w = w' := by
  have c4 := hU.c4
  have c2 := hU.c2
  go_enter Try.func64, Try.ntmps64
  go_wp2_with (go_at_call 78; refine (unone_made g w c4).mono ?_; rintro e w' ⟨rfl, rfl⟩)
  go_ret
  exact ⟨rfl, rfl⟩

/-- A call has turned the list's own blocks alone. -/
def ULDid (w : World) (S : Nat → Prop) (g : Nat) (gs : List (List Ed)) (now : List Ed) (op : Int) (v : Value) (e : Ending) (w' : World) : Prop :=
  e = .returned v ∧ UL w' (Plus S w.heap.size) g gs now op ∧ Only (fun b => S b ∨ b = g) w w'

theorem UL.setOpen {w : World} {S : Nat → Prop} {g : Nat} {gs : List (List Ed)} {now : List Ed} {op : Int} (h : UL w S g gs now op) (o : Int) : UL (w.setCell ⟨g, 2, none⟩ (.int .i64 o)) S g gs now o := by
  obtain ⟨h0, Ag, ng, cg, An, nn, cn, Sg, Sn, hB, hG, hE, hS, h1, h2, h3⟩ := h
  have ho : Only (fun b => b = g) w (w.setCell ⟨g, 2, none⟩ (.int .i64 o)) := (Only.refl _ w).set 2 _
  exact ⟨h0, Ag, ng, cg, An, nn, cn, Sg, Sn, by simpa using hB.set_ 2 (.int .i64 o), hG.only ho (fun b hb e => h0 (e ▸ hS b (.inl hb))) (fun b hb e => h0 (e ▸ hS b (.inr (.inr (.inl hb))))), hE.only ho (fun b hb e => h0 (e ▸ hS b (.inr (.inl hb)))) (fun b hb e => h0 (e ▸ hS b (.inr (.inr (.inr hb))))), hS, h1, h2, h3⟩
theorem UL.plus {w : World} {S : Nat → Prop} {g : Nat} {gs : List (List Ed)} {now : List Ed} {op : Int} (h : UL w S g gs now op) {n : Nat} (hn : g < n) : UL w (Plus S n) g gs now op :=
  h.mono (fun _ _ x => .inl x) fun x => by
    rcases x with x | x
    · exact h.1 x
    · omega

theorem ubegin_any (g : Nat) (S : Nat → Prop) (gs : List (List Ed)) (now : List Ed) (op : Int) (w : World) (hU : UL w S g gs now op) (h0 : 0 ≤ op) (h1 : op ≤ 4611686018427387904) :
    Calls Try.prog 47 #[.pointer (some ⟨g, 0, none⟩)] w (ULDid w S g gs now (op + 1) (.int .i64 0)) := by
  have c4 := hU.c4
  have c2 := hU.c2
  have hlt := hU.lt
  have f2 : w.frozen? ⟨g, 2, none⟩ = false := by obtain ⟨_, Ag, ng, cg, An, nn, cn, Sg, Sn, hB, _⟩ := hU; exact hB.frozen 2
  go_enter Try.func47, Try.ntmps47
  go_wp2_with (go_at_call 78; refine (unone_made g w c4).mono ?_; rintro e w' ⟨rfl, rfl⟩)
  go_ret
  exact ⟨rfl, (hU.setOpen (op + 1)).plus hlt, ((Only.refl (fun b => b = g) w).set 2 _).mono fun _ _ e => .inr e⟩

end Go.Proofs.Ytinlpmgchcbjpaa
