/- killring.From: what it refuses, and the ring that it makes. -/
import Derived.Test.YtinlpmgchcbjpaaK5
namespace Go.Proofs.Ytinlpmgchcbjpaa
open Go Go.RowKit
set_option maxHeartbeats 1000000
set_option maxRecDepth 100000

theorem from1_any (A : Option Addr) (n c : Nat) (w : World) (b : Bool) (hb : decide ((1024 : Int) < (n : Int)) = b) :
    Calls Try.prog 74 #[.slice A n c] w fun e w' => e = .returned (.bool b) ∧ w = w' := by
  cases b
  · have h1 : ¬ (1024 : Int) < (n : Int) := of_decide_eq_false hb
    clear hb
    go_enter Try.func74, Try.ntmps74
    go_wp2
    go_ret
    exact ⟨ret_bool (by simp), rfl⟩
  · have h1 : (1024 : Int) < (n : Int) := of_decide_eq_true hb
    clear hb
    go_enter Try.func74, Try.ntmps74
    go_wp2
    go_ret
    exact ⟨ret_bool (by simp), rfl⟩

/-- A text that is too long, and where the first of them stands. -/
def long (ls : List (List Int)) : Prop := ∃ x ∈ ls, 1024 < x.length
def IdxDid (ls : List (List Int)) (w : World) (e : Ending) (w' : World) : Prop := ∃ r : Int, e = .returned (.int .i64 r) ∧ (0 ≤ r ↔ long ls) ∧ w = w'

theorem index_any (A : Option Addr) (N c : Nat) (ls : List (List Int)) (S : Nat → Prop) (w : World) (hL : RdL w S A N c ls) (hN : N ≤ 60) :
    Calls Try.prog 86 #[.slice A N c, .func (.func 74) #[] #[]] w (IdxDid ls w) := by
  have hl := hL.len
  have hNI : (N : Int) ≤ 60 := by omega
  have HL := hid hl
  clear hl
  go_enter Try.func86, Try.ntmps86
  go_wp2
  go_loopw [5, 8] (fun _ i wr => ∃ k : Nat, k ≤ N ∧ i = .int .i64 k ∧ (∀ x ∈ ls.take k, x.length ≤ 1024) ∧ wr = w) (fun _ i _ => N - (intOf i).toNat)
  case atStart => exact ⟨0, Nat.zero_le _, rfl, (by simp), rfl⟩
  case round =>
    obtain ⟨k, hk, rfl, hsh, rfl⟩ := hrel
    by_cases hlt : k < N
    · obtain ⟨g, off, a, m, d, rfl, _, _, hc, hx⟩ := hL.at_ hlt
      have hkI : (k : Int) < N := by omega
      have hxl := hx.len
      have hke : ls[k]? = some (ls[k]?.getD []) := by rw [List.getElem?_eq_getElem (by rw [HL.out]; exact hlt)]; rfl
      obtain ⟨x, hxe⟩ : ∃ x, x = ls[k]?.getD [] := ⟨_, rfl⟩
      rw [← hxe] at hke hxl
      clear hxe hx
      by_cases hlo : 1024 < m
      · have hlong : long ls := ⟨x, List.mem_of_getElem? hke, by omega⟩
        have hb : decide ((1024 : Int) < (m : Int)) = true := decide_eq_true (by omega)
        clear hke hxl
        go_wp2_with (go_at_call 74; refine (from1_any a m d wr true hb).mono ?_; rintro e w1 ⟨rfl, rfl⟩)
        go_ret
        exact ⟨_, rfl, ⟨fun _ => hlong, fun _ => by omega⟩, rfl⟩
      · have hsh2 : ∀ y ∈ ls.take (k + 1), y.length ≤ 1024 := by
          intro y hy
          rw [List.take_add_one, hke] at hy
          simp at hy
          rcases hy with hy | rfl
          · exact hsh y hy
          · omega
        have hb : decide ((1024 : Int) < (m : Int)) = false := decide_eq_false (by omega)
        clear hke hxl
        go_wp2_with (go_at_call 74; refine (from1_any a m d wr false hb).mono ?_; rintro e w1 ⟨rfl, rfl⟩)
        go_roundw
        case rel => exact ⟨k + 1, by omega, by go_num, hsh2, trivial⟩
        case measure => simp [intOf]; omega
    · obtain rfl : k = N := by omega
      go_wp2
      go_ret
      refine ⟨_, rfl, ⟨fun h => by omega, fun ⟨x, hx, hl⟩ => ?_⟩, rfl⟩
      rw [List.take_of_length_le (by rw [HL.out]; exact Nat.le_refl _)] at hsh
      have := hsh x hx
      omega

theorem contains_any (A : Option Addr) (N c : Nat) (ls : List (List Int)) (S : Nat → Prop) (w : World) (hL : RdL w S A N c ls) (hN : N ≤ 60) (b : Bool) (hb : b = true ↔ long ls) :
    Calls Try.prog 73 #[.slice A N c, .func (.func 74) #[] #[]] w fun e w' => e = .returned (.bool b) ∧ w = w' := by
  go_enter Try.func73, Try.ntmps73
  go_wp2_with (go_at_call 86; refine (index_any A N c ls S w hL hN).mono ?_; rintro e w1 ⟨r, rfl, hr, rfl⟩)
  go_ret
  refine ⟨ret_bool ?_, rfl⟩
  cases b
  · simp; have : ¬ 0 ≤ r := fun h => by have := hb.2 (hr.1 h); simp at this
    omega
  · simp; exact hr.2 (hb.1 rfl)

/-- Whether the document takes such entries. -/
def tooMuch (ls : List (List Int)) : Prop := 60 < ls.length ∨ long ls
def FromDid (w : World) (ls : List (List Int)) (e : Ending) (w' : World) : Prop :=
  (tooMuch ls ∧ e = .returned (.tuple #[.pointer none, .int .i64 3]) ∧ w = w') ∨
  (¬ tooMuch ls ∧ ∃ g, e = .returned (.tuple #[.pointer (some ⟨g, 0, none⟩), .int .i64 0]) ∧ w.heap.size ≤ g ∧ Ring w' (fun b => w.heap.size ≤ b ∧ b ≠ g) g ls 0 ∧ Pure w w')

theorem from_over (A : Option Addr) (N c : Nat) (ls : List (List Int)) (S : Nat → Prop) (w : World) (hL : RdL w S A N c ls) (hN : 60 < N) (hmax : (N : Int) ≤ 9223372036854775807) :
    Calls Try.prog 28 #[.slice A N c] w (FromDid w ls) := by
  have hl := hL.len
  have h60 : (60 : Int) < N := by omega
  have hD : tooMuch ls := .inl (by omega)
  clear hl
  go_enter Try.func28, Try.ntmps28
  go_wp2
  go_ret2
  exact .inl ⟨hD, rfl, rfl⟩

theorem from_long (A : Option Addr) (N c : Nat) (ls : List (List Int)) (S : Nat → Prop) (w : World) (hL : RdL w S A N c ls) (hN : N ≤ 60) (hl : long ls) :
    Calls Try.prog 28 #[.slice A N c] w (FromDid w ls) := by
  have h60 : ¬ (60 : Int) < N := by omega
  go_enter Try.func28, Try.ntmps28
  go_wp2_with (go_at_call 73; refine (contains_any A N c ls S w hL hN true (by simp [hl])).mono ?_; rintro e w1 ⟨rfl, rfl⟩)
  go_ret2
  exact .inl ⟨.inr hl, rfl, rfl⟩

theorem pushE_short {l : List Int} {es : List (List Int)} (h : es.length < 60) : pushE l es = l :: es := by
  unfold pushE; rw [List.take_of_length_le (by simp; omega)]

theorem drop_at (ls : List (List Int)) (k : Nat) (h : k < ls.length) : ls.drop k = (ls[k]?.getD []) :: ls.drop (k + 1) := by
  rw [List.getElem?_eq_getElem h]; exact List.drop_eq_getElem_cons h

theorem from_ok (A : Option Addr) (N c : Nat) (ls : List (List Int)) (S : Nat → Prop) (w : World) (hL : RdL w S A N c ls) (hN : N ≤ 60) (hl : ¬ long ls) (hS : ∀ b, S b → b < w.heap.size) :
    Calls Try.prog 28 #[.slice A N c] w (FromDid w ls) := by
  have h60 : ¬ (60 : Int) < N := by omega
  have hlen := hL.len
  have HL := hid hlen
  clear hlen
  go_enter Try.func28, Try.ntmps28
  go_wp2_with (first | (go_at_call 73; refine (contains_any A N c ls S w hL hN false (by simp [hl])).mono ?_; rintro e w1 ⟨rfl, rfl⟩)
                     | (go_at_call 15; refine (new_ring w).mono ?_; rintro e w1 ⟨g, rfl, hg0, hR1, ho1⟩))
  go_loopw [5] (fun i wr => ∃ k : Nat, k ≤ N ∧ i = .int .i64 ((k : Int) - 1) ∧ Ring wr (fun b => w.heap.size ≤ b ∧ b ≠ g) g (ls.drop k) 0 ∧ Pure w wr) (fun i _ => (intOf i + 1).toNat)
  case atStart => exact ⟨N, Nat.le_refl _, rfl, by rw [List.drop_of_length_le (by rw [HL.out]; exact Nat.le_refl _)]; exact hR1.mono (fun _ _ h => h.elim) (fun h => h.2 rfl), ho1⟩
  case round =>
    obtain ⟨k, hk, rfl, hR, hp⟩ := hrel
    by_cases hlt : 0 < k
    · obtain ⟨j, rfl⟩ : ∃ j, k = j + 1 := ⟨k - 1, by omega⟩
      obtain ⟨gx, ox, a, m, d, rfl, _, hgx, hc, hx⟩ := (hL.pure_ hp).at_ (k := j) (by omega)
      have hm : m ≤ 1024 := by
        rw [← hx.len]
        refine Nat.not_lt.1 fun h => hl ⟨ls[j]?.getD [], ?_, h⟩
        rw [List.getElem?_eq_getElem (by rw [HL.out]; omega)]
        exact List.getElem_mem _
      have hd := drop_at ls j (by rw [HL.out]; omega)
      have hjI : (j : Int) < N := by omega
      have e1 : ((j + 1 : Nat) : Int) - 1 = (j : Int) := by omega
      rw [e1]
      clear e1
      go_wp2_with (go_at_call 68; refine (push_any g _ S _ 0 a m d _ wr hR hx (fun h => by have := hS g h; omega) hm).mono ?_; rintro e w2 ⟨rfl, hR2, ho2⟩)
      go_roundw
      case rel =>
        refine ⟨j, by omega, by go_num, ?_, hp.then_ ho2 fun i hi e => by omega⟩
        have hge := hR.lt
        have hsz := hp.size
        rw [hd, ← pushE_short (by simp; rw [HL.out]; omega)]
        exact hR2.mono (fun b _ h => by rcases h with h | h; exact h; exact ⟨by omega, by omega⟩) (fun h => h.2 rfl)
      case measure => simp [intOf]
    · obtain rfl : k = 0 := by omega
      go_wp2
      go_ret2
      refine .inr ⟨fun h => ?_, g, rfl, hg0, hR, hp⟩
      rcases h with h | h
      · rw [HL.out] at h; omega
      · exact hl h

theorem from_any (A : Option Addr) (N c : Nat) (ls : List (List Int)) (S : Nat → Prop) (w : World) (hL : RdL w S A N c ls) (hmax : (N : Int) ≤ 9223372036854775807) (hS : ∀ b, S b → b < w.heap.size) :
    Calls Try.prog 28 #[.slice A N c] w (FromDid w ls) := by
  by_cases h1 : 60 < N
  · exact from_over A N c ls S w hL h1 hmax
  · by_cases h2 : long ls
    · exact from_long A N c ls S w hL (by omega) h2
    · exact from_ok A N c ls S w hL (by omega) h2 hS

end Go.Proofs.Ytinlpmgchcbjpaa
