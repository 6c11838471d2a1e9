/- The reference's 'both' and 'From'. -/
import Derived.Test.YtinlpmgchcbjpaaF1
import Derived.Test.YtinlpmgchcbjpaaK7
namespace Go.Proofs.Ytinlpmgchcbjpaa
open Go Go.RowKit
set_option maxHeartbeats 1000000
set_option maxRecDepth 100000

theorem both_any (A : Option Addr) (n c : Nat) (xs : List Int) (S : Nat → Prop) (A' : Option Addr) (n' c' : Nat) (ys : List Int) (S' : Nat → Prop) (w : World)
    (hr : RdI w S A n c xs) (hr' : RdI w S' A' n' c' ys) (hn : n + n' ≤ 1099511627776) :
    Calls Try.prog 72 #[.slice A n c, .slice A' n' c'] w (OutI w (xs ++ ys)) := by
  have h1 : n ≤ 1099511627776 := by omega
  go_enter Try.func72, Try.ntmps72
  go_wp2_with (at_builtin; first
    | (refine appendI (.tmp 6) (.tmp 7) rfl rfl w.heap.size (.slice none 0 0) 0 [] rfl (World.ownsRow_nil _ _ _ _) S A n c _ rfl hr (oneI xs) (by unfold maxLen; omega) (by omega) (Nat.le_refl _) ?_; intro A2 c2 w2 ho2 hp2 hat2; simp only [Nat.zero_add, List.nil_append] at ho2 hp2 ⊢; have hq2 : Pure w w2 := hp2.mono fun b _ e => by simp [Value.ownBlock] at e)
    | (refine appendI (.tmp 9) (.tmp 10) rfl rfl w.heap.size (.slice A2 n c2) n _ rfl ho2 S' A' n' c' _ rfl (hr'.pure_ hq2) (oneI ys) (by unfold maxLen; omega) (by omega) hq2.size ?_; intro A3 c3 w3 ho3 hp3 hat3; rw [← List.map_append] at ho3))
  go_ret
  exact ⟨A3, n + n', c3, rfl, own_new ho3, hq2.then_ hp3 fun i hi e => by have := (ho2.lt i e).1; omega⟩

/-- A row of slices that the call itself has made; the slices read as ls, out of blocks that are not the row's own. -/
def OwnL (base : Nat) (w : World) (A : Option Addr) (n c : Nat) (ls : List (List Int)) : Prop :=
  ls.length = n ∧ ∃ vs Se, w.ownsRow base 22 1 (.slice A n c) n vs ∧ (∀ j, j < n → ∃ a m d, vs[j]? = some (.slice a m d) ∧ RdI w Se a m d (ls[j]?.getD [])) ∧ (∀ b, Se b → base ≤ b ∧ b < w.heap.size ∧ (Value.slice A n c).ownBlock ≠ some b)

theorem OwnL.nil (base : Nat) (w : World) : OwnL base w none 0 0 [] := ⟨rfl, [], fun _ => False, World.ownsRow_nil _ _ _ _, fun j h => absurd h (by omega), fun _ h => h.elim⟩
theorem OwnL.rd {base : Nat} {w : World} {A : Option Addr} {n c : Nat} {ls : List (List Int)} (h : OwnL base w A n c ls) : RdL w (fun b => base ≤ b) A n c ls := by
  obtain ⟨hl, vs, Se, ho, he, hS⟩ := h
  refine ⟨hl, vs, Rd.of_own ho fun b hb => (ho.lt b hb).1, fun j hj => ?_⟩
  obtain ⟨a, m, d, h1, h2⟩ := he j hj
  exact ⟨a, m, d, h1, h2.mono fun b _ hb => (hS b hb).1⟩
theorem OwnL.only {base : Nat} {T : Nat → Prop} {w w' : World} {A : Option Addr} {n c : Nat} {ls : List (List Int)} (h : OwnL base w A n c ls) (ho : Only T w w') (hT : ∀ b, base ≤ b → b < w.heap.size → ¬ T b) : OwnL base w' A n c ls := by
  obtain ⟨hl, vs, Se, hown, he, hS⟩ := h
  refine ⟨hl, vs, Se, own_only hown ho fun b hb => hT b (hown.lt b hb).1 (hown.lt b hb).2, fun j hj => ?_, fun b hb => ⟨(hS b hb).1, Nat.lt_of_lt_of_le (hS b hb).2.1 ho.size, (hS b hb).2.2⟩⟩
  obtain ⟨a, m, d, h1, h2⟩ := he j hj
  exact ⟨a, m, d, h1, h2.only ho fun b hb _ => hT b (hS b hb).1 (hS b hb).2.1⟩
theorem OwnL.step {base : Nat} {w w3 w5 : World} {A A' : Option Addr} {n c c' : Nat} {ls : List (List Int)} {vs : List Value} {Se Sx : Nat → Prop} {a : Option Addr} {m d : Nat} {x : List Int} (hl : ls.length = n) (hbase : base ≤ w.heap.size)
    (hown : w.ownsRow base 22 1 (.slice A n c) n vs) (he : ∀ j, j < n → ∃ a m d, vs[j]? = some (.slice a m d) ∧ RdI w Se a m d (ls[j]?.getD [])) (hS : ∀ b, Se b → base ≤ b ∧ b < w.heap.size ∧ (Value.slice A n c).ownBlock ≠ some b)
    (h3 : Pure w w3) (hx : RdI w3 Sx a m d x) (hSx : ∀ b, Sx b → b < w3.heap.size → w.heap.size ≤ b)
    (ho5 : w5.ownsRow base 22 1 (.slice A' (n + 1) c') (n + 1) (vs ++ [.slice a m d])) (hp5 : Only (fun b => (Value.slice A n c).ownBlock = some b) (w3.alloc (.cells #[.slice a m d] 22)) w5)
    (hat : (Value.slice A' (n + 1) c').ownBlock = (Value.slice A n c).ownBlock ∨ (Value.slice A' (n + 1) c').ownBlock = some (w3.alloc (.cells #[.slice a m d] 22)).heap.size) :
    OwnL base w5 A' (n + 1) c' (ls ++ [x]) := by
  have hlen : vs.length = n := by have := hown.1; simpa using this
  have s3 := h3.size
  have hp : Only (fun b => (Value.slice A n c).ownBlock = some b) w w5 := ((Only.of_pure h3).alloc _).then_ hp5 fun i _ e => e
  have s5 := hp5.size
  simp at s5
  have hx5 : RdI w5 (fun b => Sx b ∧ b < w3.heap.size) a m d x := (hx.mono (S' := fun b => Sx b ∧ b < w3.heap.size) fun b hb h => ⟨h, hb⟩).only (((Only.refl (fun b => (Value.slice A n c).ownBlock = some b) w3).alloc _).then_ hp5 fun i _ e => e) fun b hb _ e => by
    have := (hown.lt b e).2; have := hSx b hb.1 hb.2; omega
  refine ⟨by simp [hl], vs ++ [.slice a m d], fun b => (Se b ∨ (Sx b ∧ b < w3.heap.size)), ho5, fun j hj => ?_, fun b hb => ?_⟩
  · by_cases e : j = n
    · subst e
      exact ⟨a, m, d, by rw [List.getElem?_append_right (by omega)]; simp [hlen], by rw [List.getElem?_append_right (by omega)]; simpa [hl] using hx5.mono fun b _ h => .inr h⟩
    · obtain ⟨a', m', d', h1, h2⟩ := he j (by omega)
      refine ⟨a', m', d', by rw [List.getElem?_append_left (by omega)]; exact h1, ?_⟩
      rw [List.getElem?_append_left (by omega)]
      exact (h2.only hp fun b hb _ e => (hS b hb).2.2 e).mono fun b _ h => .inl h
  · have key : base ≤ b ∧ b < w3.heap.size ∧ (Value.slice A n c).ownBlock ≠ some b := by
      rcases hb with h | ⟨h, h'⟩
      · exact ⟨(hS b h).1, by have := (hS b h).2.1; omega, (hS b h).2.2⟩
      · have := hSx b h h'
        exact ⟨by omega, h', fun e => by have := (hown.lt b e).2; omega⟩
    refine ⟨key.1, by omega, fun e => ?_⟩
    rcases hat with h | h
    · exact key.2.2 (h ▸ e)
    · rw [h] at e; injection e with e; simp at e; omega

/-- The reference's ring. -/
def RefRing (w : World) (S : Nat → Prop) (g : Nat) (es : List (List Int)) (place : Nat) : Prop :=
  ¬ S g ∧ ∃ A N c, Blk w g 48 #[.slice A N c, .int .i64 (place : Int)] ∧ RdL w S A N c es ∧ es.length ≤ 60 ∧ (∀ k : Nat, (es[k]?.getD []).length ≤ 1024) ∧ (place < es.length ∨ place = 0)

def RefFromDid (w : World) (ls : List (List Int)) (e : Ending) (w' : World) : Prop :=
  (tooMuch ls ∧ e = .returned (.tuple #[.pointer none, .int .i64 3]) ∧ Pure w w') ∨
  (¬ tooMuch ls ∧ ∃ g, e = .returned (.tuple #[.pointer (some ⟨g, 0, none⟩), .int .i64 0]) ∧ w.heap.size ≤ g ∧ RefRing w' (fun b => w.heap.size ≤ b ∧ b ≠ g) g ls 0 ∧ Pure w w')

theorem ref_from_over (A : Option Addr) (N c : Nat) (ls : List (List Int)) (S : Nat → Prop) (w : World) (hL : RdL w S A N c ls) (hN : 60 < N) (hmax : (N : Int) ≤ 9223372036854775807) :
    Calls Try.prog 29 #[.slice A N c] w (RefFromDid w ls) := by
  have hl := hL.len
  have h60 : (60 : Int) < N := by omega
  have hD : tooMuch ls := .inl (by omega)
  clear hl
  go_enter Try.func29, Try.ntmps29
  go_wp2
  go_ret2
  exact .inl ⟨hD, rfl, Only.refl _ _⟩

theorem take_at (ls : List (List Int)) (k : Nat) (h : k < ls.length) : ls.take (k + 1) = ls.take k ++ [ls[k]?.getD []] := by
  rw [List.take_add_one, List.getElem?_eq_getElem h]; rfl

theorem ref_from_rest (A : Option Addr) (N c : Nat) (ls : List (List Int)) (S : Nat → Prop) (w : World) (hL : RdL w S A N c ls) (hN : N ≤ 60) (_hS : ∀ b, S b → b < w.heap.size) (hmx : ∀ k : Nat, ((ls[k]?.getD []).length : Int) ≤ 9223372036854775807) :
    Calls Try.prog 29 #[.slice A N c] w (RefFromDid w ls) := by
  have h60 : (N : Int) ≤ 60 := by omega
  have hlen := hL.len
  have HL := hid hlen
  clear hlen
  go_enter Try.func29, Try.ntmps29
  go_wp2
  go_loopw [4, 5] (fun v i wr => ∃ (k : Nat) (A2 : Option Addr) (c2 : Nat), k ≤ N ∧ i = .int .i64 k ∧ v = .slice A2 k c2 ∧ OwnL w.heap.size wr A2 k c2 (ls.take k) ∧ (∀ x ∈ ls.take k, x.length ≤ 1024) ∧ Pure w wr) (fun _ i _ => N - (intOf i).toNat)
  case atStart => exact ⟨0, none, 0, Nat.zero_le _, rfl, rfl, OwnL.nil _ _, by simp, Only.refl _ _⟩
  case round =>
    obtain ⟨k, A2, c2, hk, rfl, rfl, hO, hsh, hp⟩ := hrel
    by_cases hlt : k < N
    · obtain ⟨gx, ox, a, m, d, rfl, _, hgx, hc, hx⟩ := (hL.pure_ hp).at_ hlt
      have hxl := hx.len
      have hmI : (m : Int) ≤ 9223372036854775807 := by rw [← hxl]; exact hmx k
      have hkI : (k : Int) < N := by omega
      by_cases hlo : 1024 < m
      · have hloI : (1024 : Int) < m := by omega
        have hlong : tooMuch ls := .inr ⟨ls[k]?.getD [], by rw [List.getElem?_eq_getElem (by rw [HL.out]; exact hlt)]; exact List.getElem_mem _, by omega⟩
        clear hxl
        go_wp2
        go_ret2
        exact .inl ⟨hlong, rfl, hp⟩
      · have hloI : ¬ (1024 : Int) < m := by omega
        have hm : m ≤ 1024 := by omega
        have ht := take_at ls k (by rw [HL.out]; exact hlt)
        obtain ⟨x, hxe⟩ : ∃ x, x = ls[k]?.getD [] := ⟨_, rfl⟩
        rw [← hxe] at ht hxl hx
        have HT := hid ht
        clear hxe ht
        have HX := hid hxl
        clear hxl
        have hO' := hO
        obtain ⟨hl2, vs, Se, hown, hes, hSe⟩ := hO'
        have HL2 := hid hl2
        clear hl2
        go_wp2_with (first
          | (go_at_call 72; refine (both_any a m d x S none 0 0 [] (fun _ => False) wr hx (RdI.nil _ _ _ _ (Nat.zero_le _)) (by omega)).mono ?_; rintro e w3 ⟨A3, n3, c3, rfl, hx3, h3⟩; rw [List.append_nil] at hx3)
          | (at_builtin; refine appendL (.tmp 21) (.tmp 27) rfl rfl w.heap.size (.slice A2 k c2) k vs rfl (own_only (own_only hown h3 fun _ _ x => x) ((Only.refl (fun _ => False) w3).alloc _) fun _ _ x => x) _ (some ⟨w3.heap.size, 0, none⟩) 1 1 [.slice A3 n3 c3] (by rfl) (Rd.one w3 _ _) (by simp [Value.oneCell']) (by unfold maxLen; omega) (by omega) (by have h4 := hp.size; have h5 := h3.size; simp; omega) ?_; intro A5 c5 w5 ho5 hp5 hat5))
        have hO5 := OwnL.step HL2.out hp.size hown hes hSe h3 hx3 (fun b hb _ => hb) ho5 hp5 hat5
        rw [← HT.out] at hO5
        have hp5' : Pure w w5 := ((hp.trans h3).alloc _).then_ hp5 fun i hi e => by have := (hown.lt i e).1; omega
        have hsh5 : ∀ y ∈ ls.take (k + 1), y.length ≤ 1024 := by
          intro y hy
          rw [HT.out] at hy
          simp at hy
          rcases hy with hy | rfl
          · exact hsh y hy
          · have := HX.out; omega
        clear ho5 hp5 hat5 hown hes hSe hO hx hx3
        go_roundw
        case rel => exact ⟨k + 1, A5, c5, by omega, by go_num, rfl, hO5, hsh5, hp5'⟩
        case measure => simp [intOf]; omega
    · obtain rfl : k = N := by omega
      rw [List.take_of_length_le (by rw [HL.out]; exact Nat.le_refl _)] at hO hsh
      go_wp2
      go_ret2
      refine .inr ⟨?_, wr.heap.size, rfl, hp.size, ⟨fun h => h.2 rfl, A2, k, c2, Blk.new _ _ _, ?_, ?_, ?_, .inr rfl⟩, hp.alloc _⟩
      · rintro (h | ⟨x, h1, h2⟩)
        · rw [HL.out] at h; omega
        · have := hsh x h1; omega
      · refine RdL.mono (S := fun b => w.heap.size ≤ b ∧ b < wr.heap.size) ?_ fun b _ h => ⟨h.1, by omega⟩
        exact (hO.rd.mono fun b hb h => ⟨h, hb⟩).pure_ ((Only.refl _ _).alloc _)
      · rw [HL.out]; exact hN
      · intro j
        by_cases hj : j < ls.length
        · rw [List.getElem?_eq_getElem hj]; exact hsh _ (List.getElem_mem hj)
        · rw [List.getElem?_eq_none (by omega)]; simp

theorem ref_from_any (A : Option Addr) (N c : Nat) (ls : List (List Int)) (S : Nat → Prop) (w : World) (hL : RdL w S A N c ls) (hmax : (N : Int) ≤ 9223372036854775807) (hS : ∀ b, S b → b < w.heap.size) (hmx : ∀ k : Nat, ((ls[k]?.getD []).length : Int) ≤ 9223372036854775807) :
    Calls Try.prog 29 #[.slice A N c] w (RefFromDid w ls) := by
  by_cases h1 : 60 < N
  · exact ref_from_over A N c ls S w hL h1 hmax
  · exact ref_from_rest A N c ls S w hL (by omega) hS hmx

end Go.Proofs.Ytinlpmgchcbjpaa
