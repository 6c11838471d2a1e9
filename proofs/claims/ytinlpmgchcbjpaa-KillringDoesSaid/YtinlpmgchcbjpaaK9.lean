/- Ring.Clone: another ring with the same entries. -/
import Derived.Test.YtinlpmgchcbjpaaK5
import Derived.Laws.Tables
namespace Go.Proofs.Ytinlpmgchcbjpaa
open Go Go.RowKit
set_option maxHeartbeats 1000000
set_option maxRecDepth 100000

def CloneDid (w : World) (S : Nat → Prop) (es : List (List Int)) (place : Nat) (e : Ending) (w' : World) : Prop :=
  ∃ gc, e = .returned (.pointer (some ⟨gc, 0, none⟩)) ∧ w.heap.size ≤ gc ∧ Ring w' (fun b => S b ∧ b < w.heap.size) gc es place ∧ Pure w w'

theorem size38 {n : Nat} (h : n = 64) : (Try.prog.info? 38).map (·.size) = some n := by rw [h]; kernel_rfl

theorem clone_ring (g : Nat) (S : Nat → Prop) (es : List (List Int)) (place : Nat) (w : World) (hR : Ring w S g es place) :
    Calls Try.prog 22 #[.pointer (some ⟨g, 0, none⟩)] w (CloneDid w S es place) := by
  have c0 := hR.c0
  have hT := hR.tight
  obtain ⟨hSg, cs, head, hB, hC⟩ := hT
  have hO := hC.1
  have hone : cs.all (·.oneCell') = true := Array.all_eq_true_iff_forall_mem.2 fun v hv => by
    obtain ⟨i, hi, rfl⟩ := Array.getElem_of_mem hv
    exact hO.2 i _ (Array.getElem?_eq_getElem hi)
  have hsz := hO.1
  have HS := hid hsz
  have HC := hid hC
  clear hsz hC hR
  go_enter Try.func22, Try.ntmps22
  go_wp2_with (first
    | (go_at_call 66; refine (none_made _ _ c0).mono ?_; rintro e w' ⟨rfl, rfl⟩)
    | (refine wpList_load_row rfl 38 _ rfl g rfl 38 cs (0, 0) _ hB Try.underlying38 rfl (size38 HS.out) ?_)
    | (refine wpList_store_row rfl 38 _ _ rfl w.heap.size cs rfl rfl 38 _ (heap_alloc_new w _) (size38 HS.out) (by rw [HS.out]; rfl) hone ?_))
  go_ret
  have hg := hB.lt
  have hp : ∀ (o : Obj), Pure w ((w.alloc o).setRow w.heap.size cs) := fun o =>
    ⟨rfl, rfl, rfl, by simp, fun i hi _ => (setRow_other _ _ _ _ (by omega)).trans (Below.heap_alloc _ _ _ hi)⟩
  exact ⟨w.heap.size, rfl, Nat.le_refl _, ⟨fun h => by omega, cs, head, setRow_heap _ _ _ _ _ _ (heap_alloc_new w _), HC.out.frame (fun b _ hb => (hp _).block b hb (fun x => x)) (hp _).size⟩, hp _⟩

end Go.Proofs.Ytinlpmgchcbjpaa
