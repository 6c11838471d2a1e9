/- (*Ring).All hands back the iterator over a copy of the ring's list of entries. -/
import Derived.Test.YtinlpmgchcbjpaaK6
import Derived.Deep.RegionLaw
namespace Go.Proofs.Ytinlpmgchcbjpaa
open Go Go.RowKit
set_option maxHeartbeats 1000000
set_option maxRecDepth 100000

/-- One slice laid into a new row of slices. -/
theorem Rd.one (W : World) (u : Value) (t : TypeId) : Rd (W.alloc (.cells #[u] t)) (fun b => b = W.heap.size) 1 (some ⟨W.heap.size, 0, none⟩) 1 1 [u] := by
  refine ⟨rfl, Nat.le_refl _, by unfold maxLen; omega, fun _ => ⟨W.heap.size, 0, rfl, rfl, by simp, fun j v hj => ?_⟩⟩
  have hb : Blk (W.alloc (.cells #[u] t)) W.heap.size t #[u] := Blk.new _ _ _
  rw [hb.cell, Nat.zero_add]
  simpa using hj

/-- While All gathers: the box holds a row of the call's own with the first k entries. -/
def Gather (w : World) (S : Nat → Prop) (Bn : Nat) (es : List (List Int)) (k : Nat) (wr : World) : Prop :=
  ∃ A c vs, Blk wr Bn 23 #[.slice A k c] ∧ wr.ownsRow w.heap.size 22 1 (.slice A k c) k vs ∧ (∀ j, j < k → ∃ a m d, vs[j]? = some (.slice a m d) ∧ RdI wr S a m d (es[j]?.getD [])) ∧ Pure w wr

def AllDid (w : World) (S : Nat → Prop) (es : List (List Int)) (e : Ending) (w' : World) : Prop :=
  ∃ Bn A c, e = .returned (.func (.func 71) #[] #[.pointer (some ⟨Bn, 0, none⟩)]) ∧ w.heap.size ≤ Bn ∧ Blk w' Bn 23 #[.slice A es.length c] ∧ RdL w' (Plus S w.heap.size) A es.length c es ∧ Pure w w'

theorem at_any' (g head n : Nat) (A : Option Addr) (m c : Nat) (w : World) (hh : head < 60) (hn : n < 60) (h61 : w.cell? ⟨g, 61, none⟩ = some (.int .i64 (head : Int)))
    (hv : w.cell? ⟨g, 1 + (head + n) % 60, none⟩ = some (.slice A m c)) :
    Calls Try.prog 67 #[.pointer (some ⟨g, 0, none⟩), .int .i64 (n : Int)] w fun e w' => e = .returned (.slice A m c) ∧ Pure w w' :=
  (at_any g head n A m c w hh hn h61 hv).mono fun _ _ ⟨he, q, hw⟩ => ⟨he, by rw [hw]; exact (Only.refl _ w).drewN q⟩

/-- A row of slices is never a box of such a row. -/
theorem row_ne_box {w : World} {base Bn n k : Nat} {v : Value} {vs : List Value} {cs : Array Value} {e t : TypeId} (hB : Blk w Bn t cs) (hown : w.ownsRow base e k v n vs) (hne : e ≠ t) : ∀ b, v.ownBlock = some b → b ≠ Bn := by
  rintro b hb rfl
  rcases hown.2 with ⟨e', _⟩ | ⟨g', cap, cur, e', _, hh, _⟩
  · rw [e'] at hb; simp [Value.ownBlock] at hb
  · rw [e'] at hb; simp [Value.ownBlock] at hb; subst hb
    unfold Blk at hB; rw [hB] at hh; injection hh with hh; injection hh with _ ht; exact hne ht.symm

theorem Gather.step {w wr w3 w5 : World} {S : Nat → Prop} {Bn k : Nat} {es : List (List Int)} {A A' : Option Addr} {c c' : Nat} {vs : List Value} {a : Option Addr} {m d : Nat} (hS : ∀ b, S b → b < w.heap.size) (hBn : w.heap.size ≤ Bn)
    (hB : Blk wr Bn 23 #[.slice A k c]) (hown : wr.ownsRow w.heap.size 22 1 (.slice A k c) k vs) (hes : ∀ j, j < k → ∃ a m d, vs[j]? = some (.slice a m d) ∧ RdI wr S a m d (es[j]?.getD [])) (hp : Pure w wr)
    (hx : RdI wr S a m d (es[k]?.getD [])) (h3 : Pure wr w3)
    (ho5 : w5.ownsRow w.heap.size 22 1 (.slice A' (k + 1) c') (k + 1) (vs ++ [.slice a m d])) (hp5 : Only (fun b => (Value.slice A k c).ownBlock = some b) (w3.alloc (.cells #[.slice a m d] 22)) w5) :
    Gather w S Bn es (k + 1) (w5.setCell ⟨Bn, 0, none⟩ (.slice A' (k + 1) c')) := by
  have hlen : vs.length = k := by have := hown.1; simpa using this
  have hrow : ∀ b, (Value.slice A k c).ownBlock = some b → w.heap.size ≤ b ∧ b ≠ Bn := fun b hb => ⟨(hown.lt b hb).1, row_ne_box hB hown (by decide) b hb⟩
  have hp5' : Only (fun b => w.heap.size ≤ b ∧ b ≠ Bn) wr w5 := ((Only.of_pure h3).alloc _).then_ hp5 fun i _ e => hrow i e
  have hB5 : Blk w5 Bn 23 #[.slice A k c] := hB.only hp5' (fun h => h.2 rfl)
  have h6 : Only (fun b => w.heap.size ≤ b) wr (w5.setCell ⟨Bn, 0, none⟩ (.slice A' (k + 1) c')) := (hp5'.mono (fun b _ h => h.1)).setCell (p := ⟨Bn, 0, none⟩) (fun _ => hBn) _
  refine ⟨A', c', vs ++ [.slice a m d], by simpa using hB5.set_ 0 (.slice A' (k + 1) c'), own_only ho5 ((Only.refl (fun b => b = Bn) w5).set 0 _) fun b hb e => ?_, fun j hj => ?_, hp.then_ h6 fun i hi e => by omega⟩
  · exact row_ne_box hB5 ho5 (by decide) b hb e
  · by_cases e : j = k
    · subst e
      exact ⟨a, m, d, by rw [List.getElem?_append_right (by omega)]; simp [hlen], hx.only h6 fun b hb _ e => by have := hS b hb; omega⟩
    · obtain ⟨a', m', d', h1, h2⟩ := hes j (by omega)
      exact ⟨a', m', d', by rw [List.getElem?_append_left (by omega)]; exact h1, h2.only h6 fun b hb _ e => by have := hS b hb; omega⟩

theorem all_any (g : Nat) (S : Nat → Prop) (es : List (List Int)) (place : Nat) (w : World) (hR : Ring w S g es place) :
    Calls Try.prog 23 #[.pointer (some ⟨g, 0, none⟩)] w (AllDid w S es) := by
  obtain ⟨E, hE⟩ : ∃ E, E = es.length := ⟨_, rfl⟩
  have hE60 : (E : Int) ≤ 60 := by rw [hE]; have := hR.le60; omega
  have c0 := hR.c0
  have c62 := hR.c62
  rw [← hE] at c62
  have HE := hid hE
  clear hE
  have hg := hR.lt
  have d0 := (World.cell?_alloc_lt w (.cells #[.slice none 0 0] 23) ⟨g, 0, none⟩ hg).trans c0
  have d62 := (World.cell?_alloc_lt w (.cells #[.slice none 0 0] 23) ⟨g, 62, none⟩ hg).trans c62
  go_enter Try.func23, Try.ntmps23
  go_wp2_with (go_at_call 20; refine (len_made g E _ d0 d62).mono ?_; rintro e w' ⟨rfl, rfl⟩)
  have hBn := Blk.new w 23 #[.slice none 0 0]
  obtain ⟨w1, hw1⟩ : ∃ w1, w1 = w.alloc (.cells #[.slice none 0 0] 23) := ⟨_, rfl⟩
  rw [← hw1] at hBn ⊢
  have hp1 : Pure w w1 := by rw [hw1]; exact (Only.refl _ w).alloc _
  have hT := hR.tight
  have hS : ∀ b, (S b ∧ b < w.heap.size) → b < w.heap.size := fun b h => h.2
  have hG : Gather w (fun b => S b ∧ b < w.heap.size) w.heap.size es 0 w1 := ⟨none, 0, [], hBn, World.ownsRow_nil _ _ _ _, fun j h => absurd h (by omega), hp1⟩
  clear hw1 c0 c62 d0 d62 hBn hp1 hR
  go_loopw [7] (fun i wr => ∃ k : Nat, k ≤ E ∧ i = .int .i64 k ∧ Gather w (fun b => S b ∧ b < w.heap.size) w.heap.size es k wr) (fun i _ => E - (intOf i).toNat)
  case atStart => exact ⟨0, Nat.zero_le _, rfl, hG⟩
  case round =>
    clear hG
    obtain ⟨k, hk, rfl, A, c, vs, hB, hown, hes, hp⟩ := hrel
    have hRr := hT.pure_ hp
    obtain ⟨_, cs, head, hBg, k1, k2, k3, k4, k5, k6, k7, k8, k9⟩ := hRr
    by_cases hlt : k < E
    · obtain ⟨a, m, d, hv, hx, _⟩ := k9 k (by rw [← HE.out]; exact hlt)
      have b61 := (hBg.cell 61).trans k3
      have bv := (hBg.cell (1 + (head + k) % 60)).trans hv
      have hbox : wr.cell? ⟨w.heap.size, 0, none⟩ = some (.slice A k c) := hB.cell 0
      have hfz := hB.frozen 0
      have hlb := hB.lt
      have hk60 : k < 60 := by omega
      have hrow := row_ne_box hB hown (by decide)
      clear k1 k2 k3 k4 k5 k7 k8 k9 hv hBg
      go_wp2
      go_region_law (first | ((refine stepL (.tmp 10) (.tmp 14) (by rfl) (by rfl) w.heap.size (.slice A k c) k vs (by rfl) (own_only (own_only hown h3 fun _ _ x => x) ((Only.refl (fun _ => False) w3).alloc _) fun _ _ x => x) _ (some ⟨w3.heap.size, 0, none⟩) 1 1 [.slice a m d] (by rfl) (Rd.one w3 _ _) (by simp [Value.oneCell']) (by unfold maxLen; omega) (by omega) (by have h4 := hp.size; have h5 := h3.size; simp; omega) ?_; intro A' c' w5 ho5 hp5 hat5; have hb5 := (hp5.cell (p := ⟨w.heap.size, 0, none⟩) (by have h5 := h3.size; simp; omega) (fun e => hrow _ e rfl)).trans ((World.cell?_alloc_lt w3 _ ⟨w.heap.size, 0, none⟩ (by have h5 := h3.size; simp; omega)).trans ((h3.cell (p := ⟨w.heap.size, 0, none⟩) hlb (fun x => x)).trans hbox)); have hf5 := (hp5.frozen (p := ⟨w.heap.size, 0, none⟩) (by have h5 := h3.size; simp; omega) (fun e => hrow _ e rfl)).trans ((World.frozen?_alloc_old w3 _ ⟨w.heap.size, 0, none⟩ (by have h5 := h3.size; simp; omega)).trans ((h3.frozen (p := ⟨w.heap.size, 0, none⟩) hlb (fun x => x)).trans hfz)))) | (go_simp; go_at_call 67; refine (at_any' g head k a m d wr.drew k6 hk60 b61 bv).mono ?_; rintro e w3 ⟨rfl, h3'⟩; have h3 := h3'.ofDrew; clear h3'; have hlt3 := Nat.lt_of_lt_of_le hlb h3.size; have hb3 := (h3.cell (p := ⟨w.heap.size, 0, none⟩) hlb (fun x => x)).trans hbox))
      all_goals
        have hG := Gather.step hS (Nat.le_refl _) hB hown hes hp hx h3 ho5 hp5
        clear hb5 hf5 ho5 hp5 hat5 hown hes hx hb3 hlt3 hB
        go_wp2
        go_roundw
        case rel => exact ⟨k + 1, by omega, by go_num, hG⟩
        case measure => simp [intOf]; omega
    · obtain rfl : k = E := by omega
      clear k1 k2 k3 k4 k5 k6 k7 k8 k9 hBg
      go_wp2
      go_ret
      refine ⟨w.heap.size, A, c, rfl, Nat.le_refl _, by rw [← HE.out]; exact hB, ?_, hp⟩
      rw [← HE.out]
      refine ⟨HE.out.symm, vs, Rd.of_own hown fun b hb => .inr (hown.lt b hb).1, fun j hj => ?_⟩
      obtain ⟨a, m, d, h1, h2⟩ := hes j hj
      exact ⟨a, m, d, h1, h2.mono fun b _ hb => .inl hb.1⟩

end Go.Proofs.Ytinlpmgchcbjpaa
