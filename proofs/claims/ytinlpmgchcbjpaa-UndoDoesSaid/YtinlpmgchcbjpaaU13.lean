/- The list of edits: Add, whole. Backward over edits: the iterator. -/
import Derived.Test.YtinlpmgchcbjpaaU12
import Derived.Test.YtinlpmgchcbjpaaBr
import Derived.Test.YtinlpmgchcbjpaaRs
import Derived.OwnWalkIn
import Derived.TacticsInMore
import Derived.LoopNIn
import Derived.LoopIn
namespace Go.Proofs.Ytinlpmgchcbjpaa
open Go Go.RowKit
set_option maxHeartbeats 1000000
set_option maxRecDepth 100000
attribute [local go_sem] Oper.semAt_some

theorem uadd_any (g : Nat) (S : Nat → Prop) (gs : List (List Ed)) (now : List Ed) (op : Int) (at0 : Int) (A : Option Addr) (n c : Nat) (del : List Int) (A' : Option Addr) (n' c' : Nat) (ins : List Int) (T T' : Nat → Prop) (w : World)
    (hU : UL w S g gs now op) (hr : RdI w T A n c del) (hr' : RdI w T' A' n' c' ins) (hn : small n) (hn' : small n') (hT : ¬ T g) (hT' : ¬ T' g) :
    Calls Try.prog 42 #[.pointer (some ⟨g, 0, none⟩), .agg #[.int .i64 at0, .slice A n c, .slice A' n' c']] w (AddDid w S g gs now op ⟨at0, del, ins⟩) := by
  by_cases hbad : (del = [] ∧ ins = []) ∨ at0 < 0
  · exact uadd_bad g S gs now op at0 A n c del A' n' c' ins T T' w hU hr hr' hn hn' hbad
  by_cases hf : 16384 ≤ tot gs now
  · exact uadd_full g S gs now op at0 A n c del A' n' c' ins T T' w hU hr hr' hn hn' hbad hf
  by_cases hop : 0 < op
  · exact uadd_now g S gs now op at0 A n c del A' n' c' ins T T' w hU hr hr' hn hn' hbad (by omega) hop hT hT'
  · exact uadd_group g S gs now op at0 A n c del A' n' c' ins T T' w hU hr hr' hn hn' hbad (by omega) hop hT hT'

section
variable {α : Type} {K : Kind α} {k : Nat} {z : α} {w w' : World} {S S' T : Nat → Prop} {A : Option Addr} {n c : Nat} {xs : List α}
theorem RdK'.len (h : RdK' K k z w S A n c xs) : xs.length = n := h.1
theorem RdK'.frame (h : RdK' K k z w S A n c xs) (hk : ∀ b, S b → b < w.heap.size → w'.heap[b]? = w.heap[b]?) (hs : w.heap.size ≤ w'.heap.size) : RdK' K k z w' S A n c xs := by
  obtain ⟨h1, vs, h2, h3⟩ := h
  exact ⟨h1, vs, h2.frame hk hs, fun j hj => K.frame (h3 j hj) hk hs⟩
theorem RdK'.only (h : RdK' K k z w S A n c xs) (ho : Only T w w') (hT : ∀ b, S b → b < w.heap.size → ¬ T b) : RdK' K k z w' S A n c xs :=
  h.frame (fun b hS hb => ho.block b hb (hT b hS hb)) ho.size
theorem RdK'.pure_ (h : RdK' K k z w S A n c xs) (ho : Pure w w') : RdK' K k z w' S A n c xs := h.only ho fun _ _ _ x => x
theorem RdK'.mono (h : RdK' K k z w S A n c xs) (hS : ∀ b, b < w.heap.size → S b → S' b) : RdK' K k z w S' A n c xs := by
  obtain ⟨h1, vs, h2, h3⟩ := h
  exact ⟨h1, vs, h2.mono hS, fun j hj => K.mono (h3 j hj) hS⟩
theorem RdK'.nil (w : World) (S : Nat → Prop) (A : Option Addr) (c : Nat) (hc : c ≤ maxLen) : RdK' K k z w S A 0 c [] := ⟨rfl, [], Rd.nil w S k A c hc, fun j h => absurd h (by omega)⟩
theorem RdK'.cap (h : RdK' K k z w S A n c xs) : n ≤ c := by obtain ⟨_, vs, h2, _⟩ := h; exact h2.2.1
theorem RdK'.capMax (h : RdK' K k z w S A n c xs) : c ≤ maxLen := by obtain ⟨_, vs, h2, _⟩ := h; exact h2.2.2.1
end

theorem RdE.at_ {w : World} {S : Nat → Prop} {A : Option Addr} {N c : Nat} {es : List Ed} (h : RdE w S A N c es) {k : Nat} (hk : k < N) : ∃ g off a m d a' m' d', A = some ⟨g, off, none⟩ ∧ g < w.heap.size ∧ S g ∧
    w.cell? ⟨g, off + k * 3, none⟩ = some (.int .i64 (es[k]?.getD Ed.none).at_) ∧ w.cell? ⟨g, off + k * 3 + 1, none⟩ = some (.slice a m d) ∧ w.cell? ⟨g, off + k * 3 + 2, none⟩ = some (.slice a' m' d') ∧
    RdI w S a m d (es[k]?.getD Ed.none).del ∧ RdI w S a' m' d' (es[k]?.getD Ed.none).ins := by
  obtain ⟨_, vs, hr, hi⟩ := h
  obtain ⟨a, m, d, a', m', d', h1, h2, h3⟩ := hi k hk
  obtain ⟨g, off, e, hS, hg, hc⟩ := hr.2.2.2 (by omega)
  refine ⟨g, off, a, m, d, a', m', d', e, hg, hS, ?_, ?_, ?_, h2, h3⟩
  · exact hc (k * 3) _ (row_get (j := 0) h1 rfl)
  · exact hc (k * 3 + 1) _ (row_get (j := 1) h1 rfl)
  · exact hc (k * 3 + 2) _ (row_get (j := 2) h1 rfl)

theorem backE_any (A : Option Addr) (n c : Nat) (w : World) :
    Calls Try.prog 88 #[.slice A n c] w fun e w' => e = .returned (.func (.func 89) #[] #[.pointer (some ⟨w.heap.size, 0, none⟩)]) ∧ w' = w.alloc (.cells #[.slice A n c] 71) := by
  go_enter Try.func88, Try.ntmps88
  go_wp2
  go_ret
  exact ⟨rfl, rfl⟩

/-- What a round of Backward over edits is handed: the number, and the edit. -/
def EntE (es : List Ed) (S : Nat → Prop) (N i : Nat) (args : Array Value) (W : World) : Prop :=
  ∃ a m d a' m' d', args = #[.int .i64 ((N : Int) - 1 - i), .agg #[.int .i64 (es[N - 1 - i]?.getD Ed.none).at_, .slice a m d, .slice a' m' d']] ∧ RdI W S a m d (es[N - 1 - i]?.getD Ed.none).del ∧ RdI W S a' m' d' (es[N - 1 - i]?.getD Ed.none).ins

theorem backE_iter (n : Nat) (Bn : Nat) (A : Option Addr) (N c : Nat) (es : List Ed) (S : Nat → Prop) (I : Nat → World → Prop) (hN : N ≤ 16384)
    (hI : ∀ i W, I i W → Blk W Bn 71 #[.slice A N c] ∧ RdE W S A N c es) :
    Iter n Try.prog 89 #[.pointer (some ⟨Bn, 0, none⟩)] N (EntE es S N) I := by
  intro l J Jx W hJI hJp hY h0
  obtain ⟨hB, hL⟩ := hI _ _ (hJI _ _ h0)
  have hb0 : W.cell? ⟨Bn, 0, none⟩ = some (.slice A N c) := hB.cell 0
  have hNI : (N : Int) ≤ 16384 := by omega
  clear hB hL
  refine callsIn_of_wp Try.func89 rfl trivial ?_ rfl
  simp only [Try.ntmps89, List.size_toArray, List.length_cons, List.length_nil, Nat.reduceAdd, Nat.reduceSub, Array.replicate_succ, Array.replicate_zero, List.push_toArray, List.append_toArray, List.nil_append, List.cons_append]
  gi_wp2
  gi_loopw [3] (fun i wr => ∃ (k : Nat) (z : Int), k ≤ N ∧ i = .int .i64 z ∧ z = (N : Int) - 1 - k ∧ J k wr) (fun i _ => (intOf i + 1).toNat)
  case atStart => exact ⟨0, (N : Int) - 1, Nat.zero_le _, rfl, by omega, h0⟩
  case round =>
    obtain ⟨k, z, hk, rfl, hz, hJk⟩ := hrel
    obtain ⟨hBk, hLk⟩ := hI _ _ (hJI _ _ hJk)
    by_cases hlt : k < N
    · obtain ⟨j, hj⟩ : ∃ j : Nat, k + j + 1 = N := ⟨N - k - 1, by omega⟩
      obtain rfl : z = (j : Int) := by omega
      clear hz
      obtain ⟨g, off, a, m, d, a', m', d', rfl, _, _, hc0, hc1, hc2, hx, hy⟩ := hLk.at_ (k := j) (by omega)
      have hbk : wr.cell? ⟨Bn, 0, none⟩ = some (.slice (some ⟨g, off, none⟩) N c) := hBk.cell 0
      have hjN : (j : Int) < N := by omega
      have hjI : (j : Int) ≤ 16384 := by omega
      have e1 : N - 1 - k = j := by omega
      have e2 : (N : Int) - 1 - (k : Nat) = (j : Int) := by omega
      have hE : EntE es S N k #[.int .i64 (j : Int), .agg #[.int .i64 (es[j]?.getD Ed.none).at_, .slice a m d, .slice a' m' d']] wr := ⟨a, m, d, a', m', d', by rw [e1, e2], by rw [e1]; exact hx, by rw [e1]; exact hy⟩
      clear hx hy hBk hLk
      gi_wp2
      obtain ⟨fn, tmps, assign, body, hy, hR⟩ := hY k _ wr hlt hJk hE
      rw [hy]
      refine ⟨(fun h => (by cases h)), hR.mono ?_⟩
      rintro e W3 (⟨rfl, hJ3⟩ | ⟨rfl, hJx3⟩)
      · gi_wp2
        go_roundw
        case rel => exact ⟨k + 1, (j : Int) - 1, by omega, rfl, by omega, hJ3⟩
        case measure => simp [intOf]
      · gi_wp2
        refine bodyPost_ret (results_none rfl _ _ _) rfl ?_
        exact ⟨⟨_, rfl⟩, .inr hJx3⟩
    · obtain rfl : k = N := by omega
      obtain rfl : z = -1 := by omega
      gi_wp2
      go_end0
      exact ⟨⟨_, rfl⟩, .inl hJk⟩

end Go.Proofs.Ytinlpmgchcbjpaa
