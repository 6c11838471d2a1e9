/- The law KillringJoins, walked: whatever the arguments, it answers true and turns nothing that was there. -/
import Derived.Test.YtinlpmgchcbjpaaK5
import Derived.Test.YtinlpmgchcbjpaaRd
namespace Go.Proofs.Ytinlpmgchcbjpaa
open Go Go.RowKit
set_option maxHeartbeats 1000000
set_option maxRecDepth 100000


theorem Ring.tight {w : World} {S : Nat → Prop} {g place : Nat} {es : List (List Int)} (h : Ring w S g es place) : Ring w (fun b => S b ∧ b < w.heap.size) g es place :=
  h.mono (fun _ hb hS => ⟨hS, hb⟩) (fun hb => h.1 hb.1)

theorem killCode_fit {way : Int} (hw : way = 1 ∨ way = 2) {l all : List Int} (h : all.length + l.length ≤ 1024) : killCode way l [all] = 0 := by
  unfold killCode; rw [if_neg (by omega), if_neg (by omega), if_neg]; rintro ⟨_, _, h3⟩; simp at h3; omega
theorem killCode_over {way : Int} (hw : way = 1 ∨ way = 2) {l all : List Int} (h : 1024 < all.length + l.length) : killCode way l [all] = 3 := by
  unfold killCode; rw [if_neg (by omega)]; split
  · rfl
  · rw [if_pos ⟨by omega, by simp, by simp; omega⟩]
theorem killEs_over {way : Int} (hw : way = 1 ∨ way = 2) {l all : List Int} (h : 1024 < all.length + l.length) : killEs way l [all] = [all] := by unfold killEs; rw [killCode_over hw h]; rfl
theorem killPl_over {way : Int} (hw : way = 1 ∨ way = 2) {l all : List Int} (h : 1024 < all.length + l.length) : killPl way l [all] 0 = 0 := by unfold killPl; rw [killCode_over hw h]; rfl
theorem killPl_fit {way : Int} (hw : way = 1 ∨ way = 2) {l all : List Int} (h : all.length + l.length ≤ 1024) : killPl way l [all] 0 = 0 := by unfold killPl; rw [killCode_fit hw h]; simp
theorem killEs_fit1 {l all : List Int} (h : all.length + l.length ≤ 1024) : killEs 1 l [all] = [all ++ l] := by unfold killEs; rw [killCode_fit (.inl rfl) h]; simp
theorem killEs_fit2 {l all : List Int} (h : all.length + l.length ≤ 1024) : killEs 2 l [all] = [l ++ all] := by unfold killEs; rw [killCode_fit (.inr rfl) h]; simp
theorem killEs_first {l : List Int} (h : l.length ≤ 1024) (h0 : l ≠ []) : killEs 0 l [] = [l] := by
  have hc : killCode 0 l [] = 0 := by unfold killCode; rw [if_neg (by omega), if_neg (by omega), if_neg]; rintro ⟨h, _⟩; exact h rfl
  unfold killEs; rw [hc]; simp [h0, pushE]
theorem killCode_first {l : List Int} (h : l.length ≤ 1024) : killCode 0 l [] = 0 := by
  unfold killCode; rw [if_neg (by omega), if_neg (by omega), if_neg]; rintro ⟨h, _⟩; exact h rfl
theorem killPl_first {l : List Int} (h : l.length ≤ 1024) : killPl 0 l [] 0 = 0 := by unfold killPl; rw [killCode_first h]; simp
theorem rotTxt_one (all : List Int) : rotTxt 0 [all] 0 = all := by unfold rotTxt rotPl; simp
theorem rotErr_one (all : List Int) : rotErr [all] = 0 := by unfold rotErr; simp

/-- What holds at the loop's head: 'all' is a row of the call's own, the ring holds that one text. -/
def JoinInv (w : World) (g : Nat) (A : Option Addr) (n c : Nat) (all : List Int) (wr : World) : Prop :=
  n ≤ 1024 ∧ wr.ownsRow w.heap.size 21 1 (.slice A n c) n (all.map (Value.int .i32)) ∧ Pure w wr ∧
    ∃ S, Ring wr S g [all] 0 ∧ ∀ b, (Value.slice A n c).ownBlock = some b → ¬ S b ∧ b ≠ g

theorem JoinInv.len {w wr : World} {g : Nat} {A : Option Addr} {n c : Nat} {all : List Int} (h : JoinInv w g A n c all wr) : all.length = n := by have := h.2.1.1; simpa using this

theorem JoinInv.start {w w1 w2 w3 w4 : World} {g : Nat} {A' : Option Addr} {n c' : Nat} {first : List Int} (hg0 : w.heap.size ≤ g) (hg1 : g < w1.heap.size) (ho1 : Pure w w1) (ho2 : Pure w1 w2) (hn : n ≤ 1024)
    (ho3 : w3.ownsRow w2.heap.size 21 1 (.slice A' n c') n (first.map (Value.int .i32))) (h23 : Only (fun b => b = w2.heap.size) (w2.alloc (.cells #[] 21)) w3)
    (hR : Ring w4 (Plus (fun _ => False) w3.heap.size) g [first] 0) (ho : Only (fun b => b = g) w3 w4) : JoinInv w g A' n c' first w4 := by
  have s1 := ho1.size
  have s2 := ho2.size
  refine ⟨hn, own_base (own_only ho3 ho fun b hb e => ?_) (by omega), ?_, _, hR, fun b hb => ?_⟩
  · have := (ho3.lt b hb).1; omega
  · refine (((ho1.trans ho2).alloc _).then_ h23 fun i hi e => ?_).then_ ho fun i hi e => ?_
    · omega
    · omega
  · have h := ho3.lt b hb
    refine ⟨?_, by omega⟩
    rintro (h' | h')
    · exact h'
    · omega

theorem JoinInv.over {w wr w' : World} {g : Nat} {A : Option Addr} {n c : Nat} {all : List Int} {S : Nat → Prop} (hg0 : w.heap.size ≤ g) (hn : n ≤ 1024) (hown : wr.ownsRow w.heap.size 21 1 (.slice A n c) n (all.map (Value.int .i32))) (hp : Pure w wr)
    (hS : ∀ b, (Value.slice A n c).ownBlock = some b → ¬ S b ∧ b ≠ g) (hR : Ring w' (Plus S wr.heap.size) g [all] 0) (ho : Only (fun b => b = g) wr w') : JoinInv w g A n c all w' := by
  refine ⟨hn, own_only hown ho fun b hb e => (hS b hb).2 e, hp.then_ ho fun i hi e => by omega, _, hR, fun b hb => ⟨?_, (hS b hb).2⟩⟩
  have := (hown.lt b hb).2
  rintro (h | h)
  · exact (hS b hb).1 h
  · omega

theorem JoinInv.append {w wr w5 w6 : World} {g : Nat} {A A6 : Option Addr} {n c n6 c6 : Nat} {all all' : List Int} {S : Nat → Prop} (hg0 : w.heap.size ≤ g) (hn : n6 ≤ 1024) (hown : wr.ownsRow w.heap.size 21 1 (.slice A n c) n (all.map (Value.int .i32))) (hp : Pure w wr)
    (hS : ∀ b, (Value.slice A n c).ownBlock = some b → ¬ S b ∧ b ≠ g) (hR : Ring w5 (Plus S wr.heap.size) g [all'] 0) (ho : Only (fun b => b = g) wr w5)
    (h6 : w6.ownsRow w.heap.size 21 1 (.slice A6 n6 c6) n6 (all'.map (Value.int .i32))) (hp6 : Only (fun b => (Value.slice A n c).ownBlock = some b) w5 w6)
    (hat : (Value.slice A6 n6 c6).ownBlock = (Value.slice A n c).ownBlock ∨ (Value.slice A6 n6 c6).ownBlock = some w5.heap.size) : JoinInv w g A6 n6 c6 all' w6 := by
  have hg5 := hR.lt
  have key : ∀ b, (Value.slice A n c).ownBlock = some b → ¬ (Plus S wr.heap.size b ∧ b < w5.heap.size) ∧ b ≠ g := fun b hb => by
    have := (hown.lt b hb).2
    refine ⟨?_, (hS b hb).2⟩
    rintro ⟨h | h, _⟩
    · exact (hS b hb).1 h
    · omega
  refine ⟨hn, h6, (hp.then_ ho fun i hi e => by omega).then_ hp6 fun i hi e => ?_, _, hR.tight.only hp6 (fun b hb _ e => (key b e).1 hb) (fun e => (key g e).2 rfl), fun b hb => ?_⟩
  · have := (hown.lt i e).1; omega
  · rcases hat with e | e
    · rw [e] at hb; exact key b hb
    · rw [e] at hb; injection hb with hb
      exact ⟨fun h => by have := h.2; omega, by omega⟩

theorem JoinInv.fresh {w wr w5 w6 : World} {g : Nat} {A6 : Option Addr} {n6 c6 : Nat} {all' : List Int} {S : Nat → Prop} (hg0 : w.heap.size ≤ g) (hn : n6 ≤ 1024) (hp : Pure w wr)
    (hR : Ring w5 (Plus S wr.heap.size) g [all'] 0) (ho : Only (fun b => b = g) wr w5)
    (h6 : w6.ownsRow w5.heap.size 21 1 (.slice A6 n6 c6) n6 (all'.map (Value.int .i32))) (hp6 : Pure w5 w6) : JoinInv w g A6 n6 c6 all' w6 := by
  have hg5 := hR.lt
  have h1 := hp.size
  have h2 := ho.size
  refine ⟨hn, own_base h6 (by omega), (hp.then_ ho fun i hi e => by omega).trans hp6, _, hR.tight.pure_ hp6, fun b hb => ?_⟩
  have := (h6.lt b hb).1
  exact ⟨fun h => by have := h.2; omega, by omega⟩

set_option maxHeartbeats 2000000 in
theorem joins_empty (A : Option Addr) (c : Nat) (AL : Option Addr) (nL cL : Nat) (back : Bool) (w : World) (hc : c ≤ maxLen) :
    Calls Try.prog 3 #[.slice A 0 c, .slice AL nL cL, .bool back] w fun e w' => e = .returned (.bool true) ∧ Pure w w' := by
  go_enter Try.func3, Try.ntmps3
  go_wp2_with (first | (go_at_call 15; refine (new_ring w).mono ?_; rintro e w1 h; obtain ⟨g, rfl, hg0, hR1, ho1⟩ := h)
                     | (go_at_call 16; refine (live_any w1).mono ?_; rintro e w2 ⟨rfl, ho2⟩)
                     | (at_builtin; refine appendI _ _ rfl rfl w2.heap.size (.slice (some ⟨w2.heap.size, 0, none⟩) 0 0) 0 [] rfl (World.ownsRow_made w2 #[] 0 (Nat.le_refl _) (Nat.zero_le _) rfl) (fun _ => True) A 0 c [] rfl (Rd.nil _ _ _ _ _ hc) (by simp) (by unfold maxLen; omega) (by omega) (by simp) ?_; intro A' c' w3 ho3 hp3 _))
  go_ret
  refine ⟨rfl, ((ho1.trans ho2).alloc _).then_ hp3 fun i hi e => ?_⟩
  simp [Value.ownBlock] at e
  have h1 := ho1.size
  have h2 := ho2.size
  omega

set_option maxHeartbeats 2000000 in
theorem joins_long (A : Option Addr) (n c : Nat) (first : List Int) (S : Nat → Prop) (AL : Option Addr) (nL cL : Nat) (back : Bool) (w : World) (hr : RdI w S A n c first) (hs : small n) (hn : 1024 < n) :
    Calls Try.prog 3 #[.slice A n c, .slice AL nL cL, .bool back] w fun e w' => e = .returned (.bool true) ∧ Pure w w' := by
  have h1 : (1024 : Int) < n := by omega
  have h2 : (n : Int) ≤ 9223372036854775807 := by unfold small at hs; omega
  have h0 : ((n : Int) == 0) = false := by rw [beq_eq_false_iff_ne]; omega
  go_enter Try.func3, Try.ntmps3
  go_wp2_with (first | (go_at_call 15; refine (new_ring w).mono ?_; rintro e w1 h; obtain ⟨g, rfl, hg0, hR1, ho1⟩ := h)
                     | (go_at_call 16; refine (live_any w1).mono ?_; rintro e w2 ⟨rfl, ho2⟩)
                     | (at_builtin; refine appendI _ _ rfl rfl w2.heap.size (.slice (some ⟨w2.heap.size, 0, none⟩) 0 0) 0 [] rfl (World.ownsRow_made w2 #[] 0 (Nat.le_refl _) (Nat.zero_le _) rfl) S A n c _ rfl (hr.pure_ ((ho1.trans ho2).alloc _)) (oneI first) (by simpa using hs.maxLen) (by simpa using hs.bytes) (by simp) ?_; intro A' c' w3 ho3 hp3 _))
  go_ret
  refine ⟨rfl, ((ho1.trans ho2).alloc _).then_ hp3 fun i hi e => ?_⟩
  simp [Value.ownBlock] at e
  have h1 := ho1.size
  have h2 := ho2.size
  omega

set_option maxHeartbeats 4000000 in
theorem joins_some (A : Option Addr) (n c : Nat) (first : List Int) (AL : Option Addr) (nL cL : Nat) (ls : List (List Int)) (back : Bool) (w : World) (hr : RdI w (Old w) A n c first) (hn : n ≤ 1024) (hn0 : 0 < n)
    (hL : RdL w (Old w) AL nL cL ls) (hnL : (nL : Int) ≤ 9223372036854775807) (hsm : ∀ k : Nat, small (ls[k]?.getD []).length) :
    Calls Try.prog 3 #[.slice A n c, .slice AL nL cL, .bool back] w fun e w' => e = .returned (.bool true) ∧ Pure w w' := by
  have h1 : (n : Int) ≤ 1024 := by omega
  have h0 : ((n : Int) == 0) = false := by rw [beq_eq_false_iff_ne]; omega
  have hs : small n := by unfold small; omega
  have hl := hr.len
  have hfl : first.length ≤ 1024 := by omega
  have hfn : first ≠ [] := by rintro rfl; simp at hl; omega
  have hk := killCode_first hfl
  clear hl
  go_enter Try.func3, Try.ntmps3
  go_wp2_with (first | (go_at_call 15; refine (new_ring w).mono ?_; rintro e w1 h; obtain ⟨g, rfl, hg0, hR1, ho1⟩ := h)
                     | (go_at_call 16; refine (live_any w1).mono ?_; rintro e w2 ⟨rfl, ho2⟩)
                     | (at_builtin; refine appendI _ _ rfl rfl w2.heap.size (.slice (some ⟨w2.heap.size, 0, none⟩) 0 0) 0 [] rfl (World.ownsRow_made w2 #[] 0 (Nat.le_refl _) (Nat.zero_le _) rfl) (Old w) A n c _ rfl (hr.pure_ ((ho1.trans ho2).alloc _)) (oneI first) (by simpa using hs.maxLen) (by simpa using hs.bytes) (by simp) ?_; intro A' c' w3 ho3 hp3 hat; simp only [Nat.zero_add, List.nil_append] at ho3))
  have hg1 := hR1.lt
  have hs2 := ho2.size
  have h23 : Only (fun b => b = w2.heap.size) (w2.alloc (.cells #[] 21)) w3 := hp3.mono fun b _ e => by simp [Value.ownBlock] at e; omega
  have hR3 : Ring w3 (fun _ => False) g [] 0 := ((hR1.pure_ ho2).pure_ ((Only.refl _ w2).alloc _)).only h23 (fun _ h _ => h.elim) (by omega)
  have hr3 : RdI w3 (Old w) A n c first := (hr.pure_ ((ho1.trans ho2).alloc _)).only h23 fun b hb _ e => by have h1 : b < w.heap.size := hb; have := ho1.size; omega
  refine (kill_any g _ (Old w) [] 0 0 A n c first w3 hR3 hr3 (by intro h; have h1 : g < w.heap.size := h; omega)).mono ?_
  rintro e w4 h
  obtain ⟨rfl, hR4, ho4⟩ := h.of_push
  rw [killEs_first hfl hfn, killPl_first hfl] at hR4
  have hInv := JoinInv.start hg0 hg1 ho1 ho2 hn ho3 h23 hR4 ho4
  clear h hR4 ho4 hR3 hr3 h23 hp3 hat ho3 hR1 hr hs2 hg1
  rw [hk]
  clear hk hfl hfn ho1 ho2
  go_wp2_with fail
  go_loopw [8, 48] (fun v i wr => ∃ (k : Nat) (A2 : Option Addr) (n2 c2 : Nat) (all : List Int), k ≤ nL ∧ i = .int .i64 k ∧ v = .slice A2 n2 c2 ∧ JoinInv w g A2 n2 c2 all wr) (fun _ i _ => nL - (intOf i).toNat)
  case atStart => exact ⟨0, A', n, c', first, Nat.zero_le _, rfl, rfl, hInv⟩
  case round =>
    clear hInv
    obtain ⟨k, A2, n2, c2, all, hk, rfl, rfl, hInv⟩ := hrel
    have hlen := hInv.len
    obtain ⟨hn2, hown, hp, S2, hR, hS⟩ := hInv
    by_cases hlt : k < nL
    · obtain ⟨gx, ox, a, m, d, rfl, _, hgx, hc, hx⟩ := (hL.pure_ hp).at_ hlt
      have hxl := hx.len
      have hmx : (m : Int) ≤ 35184372088832 := by have h1 := hsm k; rw [hxl] at h1; unfold small at h1; omega
      have hgS : ¬ Old w g := by intro h; have h1 : g < w.heap.size := h; omega
      obtain ⟨x, hxe⟩ : ∃ x, x = ls[k]?.getD [] := ⟨_, rfl⟩
      rw [← hxe] at hx hxl
      clear hxe
      have HN : (n2 : Int) ≤ 1024 := by omega
      by_cases hov : 1024 < n2 + m
      · have hov' : 1024 < all.length + x.length := by omega
        have hovI : (1024 : Int) < (n2 : Int) + (m : Int) := by omega
        have hcd1 := killCode_over (way := 1) (.inl rfl) hov'
        have hcd2 := killCode_over (way := 2) (.inr rfl) hov'
        clear hlen hxl
        cases back
        · go_wp2_with fail
          refine (kill_any g S2 (Old w) [all] 0 1 a m d x _ hR hx hgS).mono ?_
          rintro e w5 h
          obtain ⟨rfl, hR5, ho5⟩ := h.of_push
          rw [killEs_over (.inl rfl) hov', killPl_over (.inl rfl) hov'] at hR5
          rw [hcd1]
          have hI := JoinInv.over hg0 hn2 hown hp hS hR5 ho5
          clear h hR5 ho5 hR hown hS
          go_wp2_with fail
          go_roundw
          case rel => exact ⟨k + 1, A2, n2, c2, all, by omega, by go_num, rfl, hI⟩
          case measure => simp [intOf]; omega
        · go_wp2_with fail
          refine (kill_any g S2 (Old w) [all] 0 2 a m d x _ hR hx hgS).mono ?_
          rintro e w5 h
          obtain ⟨rfl, hR5, ho5⟩ := h.of_push
          rw [killEs_over (.inr rfl) hov', killPl_over (.inr rfl) hov'] at hR5
          rw [hcd2]
          have hI := JoinInv.over hg0 hn2 hown hp hS hR5 ho5
          clear h hR5 ho5 hR hown hS
          go_wp2_with fail
          go_roundw
          case rel => exact ⟨k + 1, A2, n2, c2, all, by omega, by go_num, rfl, hI⟩
          case measure => simp [intOf]; omega
      · have hfit : all.length + x.length ≤ 1024 := by omega
        have hfitI : (n2 : Int) + (m : Int) ≤ 1024 := by omega
        have hfn : n2 + m ≤ 1024 := by omega
        have hcd1 := killCode_fit (way := 1) (.inl rfl) hfit
        have hcd2 := killCode_fit (way := 2) (.inr rfl) hfit
        clear hlen hxl
        cases back
        · go_wp2_with fail
          refine (kill_any g S2 (Old w) [all] 0 1 a m d x _ hR hx hgS).mono ?_
          rintro e w5 h
          obtain ⟨rfl, hR5, ho5⟩ := h.of_push
          rw [killEs_fit1 hfit, killPl_fit (.inl rfl) hfit] at hR5
          rw [hcd1]
          have hx5 : RdI w5 (Old w) a m d x := hx.only ho5 fun b hb _ e => hgS (e ▸ hb)
          have hown5 := own_only hown ho5 fun b hb e => (hS b hb).2 e
          have hsz5 : w.heap.size ≤ w5.heap.size := Nat.le_trans hp.size ho5.size
          clear h hR
          go_wp2_with (at_builtin; refine appendI (.tmp 75) (.tmp 76) rfl rfl w.heap.size (.slice A2 n2 c2) n2 _ rfl hown5 (Old w) a m d _ rfl hx5 (oneI x) (by unfold maxLen; omega) (by omega) hsz5 ?_; intro A6 c6 w6 ho6 hp6 hat6; rw [← List.map_append] at ho6)
          have hI := JoinInv.append hg0 hfn hown hp hS hR5 ho5 ho6 hp6 hat6
          clear hown hp hS hR5 ho5 ho6 hp6 hat6 hown5 hx5
          go_roundw
          case rel => exact ⟨k + 1, A6, n2 + m, c6, all ++ x, by omega, by go_num, rfl, hI⟩
          case measure => simp [intOf]; omega
        · go_wp2_with fail
          refine (kill_any g S2 (Old w) [all] 0 2 a m d x _ hR hx hgS).mono ?_
          rintro e w5 h
          obtain ⟨rfl, hR5, ho5⟩ := h.of_push
          rw [killEs_fit2 hfit, killPl_fit (.inr rfl) hfit] at hR5
          rw [hcd2]
          have hx5 : RdI w5 (Old w) a m d x := hx.only ho5 fun b hb _ e => hgS (e ▸ hb)
          have hown5 := own_only hown ho5 fun b hb e => (hS b hb).2 e
          have hsz5 : w.heap.size ≤ w5.heap.size := Nat.le_trans hp.size ho5.size
          have hlt5 : ∀ b, (Value.slice A2 n2 c2).ownBlock = some b → b < w5.heap.size := fun b hb => (hown5.lt b hb).2
          clear h hR
          go_wp2_with (first | (at_builtin; refine appendI (.tmp 70) (.tmp 71) rfl rfl w5.heap.size (.slice (some ⟨w5.heap.size, 0, none⟩) 0 0) 0 [] rfl (World.ownsRow_made w5 #[] 0 (Nat.le_refl _) (Nat.zero_le _) rfl) (Old w) a m d _ rfl (hx5.pure_ ((Only.refl _ w5).alloc _)) (oneI x) (by unfold maxLen; omega) (by omega) (by simp) ?_; intro A6 c6 w6 ho6 hp6 hat6; simp only [Nat.zero_add, List.nil_append] at ho6)
                             | (at_builtin; refine appendI (.tmp 72) (.tmp 73) rfl rfl w5.heap.size (.slice A6 m c6) m _ rfl ho6 (fun _ => True) A2 n2 c2 _ rfl (Rd.of_own (own_only (own_only hown5 ((Only.refl (fun _ => False) w5).alloc _) fun _ _ x => x) hp6 (fun b hb e => by have h1 := hlt5 b hb; simp [Value.ownBlock] at e; omega)) fun _ _ => trivial) (oneI all) (by unfold maxLen; omega) (by omega) (by have := hp6.size; simp at this; omega) ?_; intro A7 c7 w7 ho7 hp7 hat7; rw [← List.map_append] at ho7))
          have hp5 : Pure w5 w7 := (((Only.refl _ w5).alloc _).then_ hp6 fun i hi e => by simp [Value.ownBlock] at e; omega).then_ hp7 fun i hi e => by have := (ho6.lt i e).1; omega
          have hI := JoinInv.fresh hg0 (n6 := m + n2) (by omega) hp hR5 ho5 ho7 hp5
          clear hown hp hS hR5 ho5 ho6 hp6 hat6 hown5 hx5 ho7 hp7 hat7 hlt5
          go_roundw
          case rel => exact ⟨k + 1, A7, m + n2, c7, x ++ all, by omega, by go_num, rfl, hI⟩
          case measure => simp [intOf]; omega
    · obtain rfl : k = nL := by omega
      have hr1 := rotErr_one all
      have hall : RdI wr (fun b => b ≠ g) A2 n2 c2 all := Rd.of_own hown fun b hb => (hS b hb).2
      have hsm2 : small n2 := by unfold small; omega
      have heq : eqL all all = true := by unfold eqL; simp
      clear hlen
      go_wp2_with fail
      refine (yank_any g S2 [all] 0 wr hR).mono ?_
      rintro e w5 ⟨A5, n5, c5, rfl, hr5, hR5, ho5⟩
      rw [rotTxt_one] at hr5
      rw [hr1]
      have h5 := hr5.len
      have hall5 : RdI w5 (fun b => b ≠ g) A2 n2 c2 all := hall.only ho5 fun b hb _ e => hb e
      have hs5 : small n5 := by have h6 := hall5.len; unfold small; omega
      have c0 := hR5.c0
      have c62 : w5.cell? ⟨g, 62, none⟩ = some (.int .i64 1) := hR5.c62
      clear hr1 h5 hR hown hS
      go_wp2_with (first | (go_at_call 19; refine (equal_any A5 n5 c5 all _ A2 n2 c2 all _ w5 hr5 hall5 hs5).mono ?_; rintro e w6 ⟨rfl, q, rfl⟩; rw [heq])
                         | (go_at_call 20; refine (len_made g 1 (w5.drewN q) c0 c62).mono ?_; rintro e w6 ⟨rfl, rfl⟩))
      go_ret
      exact ⟨rfl, (hp.then_ ho5 fun i hi e => by omega).drewN _⟩

end Go.Proofs.Ytinlpmgchcbjpaa
