/- slices.Equal of two slices of runes tells whether the two lists are the same. -/
import Derived.Test.YtinlpmgchcbjpaaT3
namespace Go.Proofs.Ytinlpmgchcbjpaa
open Go Go.RowKit
set_option maxHeartbeats 400000

def eqL (xs ys : List Int) : Bool := decide (xs = ys)
def Alike' (xs ys : List Int) (k : Nat) : Prop := ∀ j, j < k → xs[j]? = ys[j]?

theorem equal_lens (A : Option Addr) (n c : Nat) (xs : List Int) (S : Nat → Prop) (A' : Option Addr) (n' c' : Nat) (ys : List Int) (S' : Nat → Prop) (w : World)
    (hr : RdI w S A n c xs) (hr' : RdI w S' A' n' c' ys) (hne : ((n : Int) != n') = true) :
    Calls Try.prog 19 #[.slice A n c, .slice A' n' c'] w fun e w' => e = .returned (.bool (eqL xs ys)) ∧ ∃ q, w' = w.drewN q := by
  have he : eqL xs ys = false := by
    have h1 := hr.len; have h2 := hr'.len
    unfold eqL; rw [decide_eq_false_iff_not]; rintro rfl; simp at hne; omega
  rw [he]; clear he
  go_enter Try.func19, Try.ntmps19
  go_wp2
  go_ret
  exact ⟨rfl, 0, rfl⟩

theorem ret_bool {a b : Bool} (h : a = b) : Ending.returned (.bool a) = .returned (.bool b) := by rw [h]
theorem ret_int {k : IntKind} {a b : Int} (h : a = b) : Ending.returned (.int k a) = .returned (.int k b) := by rw [h]
theorem drew2 (w : World) (a b : Nat) : ∃ q, (w.drewN a).drewN b = w.drewN q := ⟨a + b, World.drewN_drewN _ _ _⟩
theorem eqL_of {xs ys : List Int} {n : Nat} (h1 : xs.length = n) (h2 : ys.length = n) (h : Alike' xs ys n) : eqL xs ys = true := by
  unfold eqL; rw [decide_eq_true_iff]
  apply List.ext_getElem?; intro j
  by_cases hj : j < n
  · exact h j hj
  · rw [List.getElem?_eq_none (by omega), List.getElem?_eq_none (by omega)]
theorem eqL_not {xs ys : List Int} {k : Nat} (h : (xs[k]?.getD 0 != ys[k]?.getD 0) = true) : eqL xs ys = false := by
  unfold eqL; rw [decide_eq_false_iff_not]; rintro rfl; simp at h
theorem Alike'.succ {xs ys : List Int} {n k : Nat} (h1 : xs.length = n) (h2 : ys.length = n) (hk : k < n) (h : Alike' xs ys k) (he : (xs[k]?.getD 0 != ys[k]?.getD 0) = false) : Alike' xs ys (k + 1) := by
  intro j hj
  by_cases e : j = k
  · subst e
    rw [List.getElem?_eq_getElem (by omega), List.getElem?_eq_getElem (by omega)] at he ⊢
    simpa using he
  · exact h j (by omega)

theorem equal_same (A : Option Addr) (n c : Nat) (xs : List Int) (S : Nat → Prop) (A' : Option Addr) (c' : Nat) (ys : List Int) (S' : Nat → Prop) (w : World)
    (hr : RdI w S A n c xs) (hr' : RdI w S' A' n c' ys) (hn : small n) :
    Calls Try.prog 19 #[.slice A n c, .slice A' n c'] w fun e w' => e = .returned (.bool (eqL xs ys)) ∧ ∃ q, w' = w.drewN q := by
  have hb : (n : Int) ≤ 9223372036854775807 := by unfold small at hn; omega
  go_enter Try.func19, Try.ntmps19
  go_wp2
  go_loopw [13] (fun i wr => ∃ k : Nat, k ≤ n ∧ i = .int .i64 k ∧ Alike' xs ys k ∧ ∃ q, wr = w.drewN q) (fun i _ => n - (intOf i).toNat)
  case atStart => exact ⟨0, Nat.zero_le _, rfl, (fun j h => by omega), 0, rfl⟩
  case round =>
    obtain ⟨k, hk, rfl, hal, q, rfl⟩ := hrel
    by_cases hlt : k < n
    · obtain ⟨g, off, rfl, _, _, hc⟩ := hr.at_ hlt
      obtain ⟨g', off', rfl, _, _, hc'⟩ := hr'.at_ hlt
      go_wp2
      go_quiet (fail)
      go_wp2
      · go_ret
        exact ⟨ret_bool (eqL_not (by assumption)).symm, drew2 _ _ _⟩
      · go_roundw
        case rel => exact ⟨k + 1, by omega, by go_num, hal.succ hr.len hr'.len hlt (by assumption), _, rfl⟩
        case measure => simp [intOf]; omega
    · obtain rfl : k = n := by omega
      go_wp2
      go_ret
      exact ⟨ret_bool (eqL_of hr.len hr'.len hal).symm, _, rfl⟩

theorem equal_any (A : Option Addr) (n c : Nat) (xs : List Int) (S : Nat → Prop) (A' : Option Addr) (n' c' : Nat) (ys : List Int) (S' : Nat → Prop) (w : World)
    (hr : RdI w S A n c xs) (hr' : RdI w S' A' n' c' ys) (hn : small n) :
    Calls Try.prog 19 #[.slice A n c, .slice A' n' c'] w fun e w' => e = .returned (.bool (eqL xs ys)) ∧ ∃ q, w' = w.drewN q := by
  by_cases h : n = n'
  · subst h; exact equal_same A n c xs S A' c' ys S' w hr hr' hn
  · exact equal_lens A n c xs S A' n' c' ys S' w hr hr' (by rw [bne_iff_ne]; omega)

end Go.Proofs.Ytinlpmgchcbjpaa
