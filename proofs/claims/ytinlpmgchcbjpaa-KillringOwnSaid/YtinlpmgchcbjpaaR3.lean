/- The reference's Kill. -/
import Derived.Test.YtinlpmgchcbjpaaR2
namespace Go.Proofs.Ytinlpmgchcbjpaa
open Go Go.RowKit
set_option maxHeartbeats 1000000
set_option maxRecDepth 100000

theorem RefRing.filled {w w3 w5 W : World} {S : Nat → Prop} {g N k c' m d : Nat} {a A' : Option Addr} {x : List Int} {rest : List (List Int)} {vs : List Value} (hSg : ¬ S g) (hg : g < w.heap.size) (h3 : Pure w w3) (hx : RdI w3 (fun b => w.heap.size ≤ b) a m d x) (hm : x.length ≤ 1024)
    (hN : rest.length = N) (hvs : vs.length = N) (hes : ∀ j, j < N → ∃ a m d, vs[j]? = some (.slice a m d) ∧ RdI w S a m d (rest[j]?.getD [])) (hmr : ∀ j : Nat, (rest[j]?.getD []).length ≤ 1024)
    (ho5 : w5.ownsRow w.heap.size 22 1 (.slice A' (1 + N) c') (1 + N) ([.slice a m d] ++ vs)) (hp5 : Only (fun b => (Value.slice (some ⟨w3.heap.size, 0, none⟩) 1 1).ownBlock = some b) (w3.alloc (.cells #[.slice a m d] 22)) w5)
    (hW : Only (fun b => b = g) w5 W) (hB : Blk W g 48 #[.slice A' k c', .int .i64 0]) (hk : k ≤ 1 + N) (hk60 : k ≤ 60) : RefRing W (Plus S w.heap.size) g ((x :: rest).take k) 0 ∧ Only (fun b => b = g) w W := by
  have s3 := h3.size
  have hp35 : Pure w3 w5 := ((Only.refl _ w3).alloc _).then_ hp5 fun i hi e => by simp [Value.ownBlock] at e; omega
  have hp : Pure w w5 := h3.trans hp35
  have hx5 : RdI W (fun b => w.heap.size ≤ b) a m d x := (hx.pure_ hp35).only hW fun b hb _ e => by omega
  have hrow : Rd W (fun b => w.heap.size ≤ b) 1 A' (1 + N) c' ([.slice a m d] ++ vs) := (Rd.of_own (S := fun b => w.heap.size ≤ b) ho5 fun b hb => (ho5.lt b hb).1).only hW fun b hb _ e => by omega
  refine ⟨⟨?_, A', k, c', hB, ⟨by simp; omega, _, (hrow.take hk).mono fun b _ hb => .inr hb, fun j hj => ?_⟩, by simp; omega, fun j => ?_, .inr rfl⟩, (Only.of_pure hp).trans hW⟩
  · rintro (h | h)
    · exact hSg h
    · omega
  · rw [List.getElem?_take_of_lt hj, List.getElem?_take_of_lt hj]
    cases j with
    | zero => exact ⟨a, m, d, rfl, hx5.mono fun b _ hb => .inr hb⟩
    | succ j =>
      obtain ⟨a', m', d', h1, h2⟩ := hes j (by omega)
      exact ⟨a', m', d', by simpa using h1, by simpa using ((h2.pure_ hp).only hW fun b hb _ e => hSg (e ▸ hb)).mono fun b _ hb => .inl hb⟩
  · by_cases hj : j < k
    · rw [List.getElem?_take_of_lt hj]
      cases j with
      | zero => simpa using hm
      | succ j => simpa using hmr j
    · rw [List.getElem?_eq_none (by simp; omega)]; simp

def RefKillDid (w : World) (S : Nat → Prop) (g : Nat) (es : List (List Int)) (place : Nat) (way : Int) (l : List Int) (e : Ending) (w' : World) : Prop :=
  e = .returned (.int .i64 (killCode way l es)) ∧ RefRing w' (Plus S w.heap.size) g (killEs way l es) (killPl way l es place) ∧ Only (fun b => b = g) w w'

theorem RefRing.plus {w : World} {S : Nat → Prop} {g place : Nat} {es : List (List Int)} (h : RefRing w S g es place) : RefRing w (Plus S w.heap.size) g es place := by
  have := h.lt
  refine h.mono (fun _ _ x => .inl x) ?_
  rintro (x | x)
  · exact h.1 x
  · omega

theorem ref_kill_bad (g : Nat) (S : Nat → Prop) (es : List (List Int)) (place : Nat) (way : Int) (A : Option Addr) (n c : Nat) (l : List Int) (w : World) (hR : RefRing w S g es place) (hw : way < 0 ∨ 2 < way) :
    Calls Try.prog 24 #[.pointer (some ⟨g, 0, none⟩), .int .i64 way, .slice A n c] w (RefKillDid w S g es place way l) := by
  have hcode : killCode way l es = 1 := by unfold killCode; rw [if_pos hw]
  have hes : killEs way l es = es := by unfold killEs; rw [hcode]; rfl
  have hpl : killPl way l es place = place := by unfold killPl; rw [hcode]; rfl
  unfold RefKillDid
  rw [hcode, hes, hpl]
  clear hcode hes hpl
  rcases hw with hw | hw
  · go_enter Try.func24, Try.ntmps24
    go_wp2
    go_ret
    exact ⟨rfl, hR.plus, Only.refl _ _⟩
  · have hw' : ¬ way < 0 := by omega
    go_enter Try.func24, Try.ntmps24
    go_wp2
    go_ret
    exact ⟨rfl, hR.plus, Only.refl _ _⟩

theorem ref_kill_long (g : Nat) (S : Nat → Prop) (es : List (List Int)) (place : Nat) (way : Int) (A : Option Addr) (n c : Nat) (l : List Int) (w : World) (hR : RefRing w S g es place) (hw0 : 0 ≤ way) (hw2 : way ≤ 2) (hl : l.length = n) (hn : 1024 < n) (hc : (n : Int) ≤ 9223372036854775807) :
    Calls Try.prog 24 #[.pointer (some ⟨g, 0, none⟩), .int .i64 way, .slice A n c] w (RefKillDid w S g es place way l) := by
  have hcode : killCode way l es = 3 := by unfold killCode; rw [if_neg (by omega), if_pos (by omega)]
  have hes : killEs way l es = es := by unfold killEs; rw [hcode]; rfl
  have hpl : killPl way l es place = place := by unfold killPl; rw [hcode]; rfl
  unfold RefKillDid
  rw [hcode, hes, hpl]
  clear hcode hes hpl
  have hnI : (1024 : Int) < n := by omega
  have h1 : ¬ way < 0 := by omega
  have h2 : ¬ 2 < way := by omega
  clear hl
  go_enter Try.func24, Try.ntmps24
  go_wp2
  go_ret
  exact ⟨rfl, hR.plus, Only.refl _ _⟩

theorem ref_kill_none (g : Nat) (S : Nat → Prop) (es : List (List Int)) (place : Nat) (A : Option Addr) (c : Nat) (w : World) (hR : RefRing w S g es place) :
    Calls Try.prog 24 #[.pointer (some ⟨g, 0, none⟩), .int .i64 0, .slice A 0 c] w (RefKillDid w S g es place 0 []) := by
  have hcode : killCode 0 [] es = 0 := by unfold killCode; rw [if_neg (by omega), if_neg (by simp), if_neg]; rintro ⟨h, _⟩; exact h rfl
  have hes : killEs 0 [] es = es := by unfold killEs; rw [hcode]; simp
  have hpl : killPl 0 [] es place = place := by unfold killPl; rw [hcode]; simp
  unfold RefKillDid
  rw [hcode, hes, hpl]
  clear hcode hes hpl
  go_enter Try.func24, Try.ntmps24
  go_wp2
  go_ret
  exact ⟨rfl, hR.plus, Only.refl _ _⟩

theorem ref_kill_over (g : Nat) (S : Nat → Prop) (e0 : List Int) (es : List (List Int)) (place : Nat) (way : Int) (A : Option Addr) (n c : Nat) (l : List Int) (w : World) (hR : RefRing w S g (e0 :: es) place) (hw0 : 1 ≤ way) (hw2 : way ≤ 2) (hl : l.length = n) (hn : n ≤ 1024) (ho : 1024 < n + e0.length) :
    Calls Try.prog 24 #[.pointer (some ⟨g, 0, none⟩), .int .i64 way, .slice A n c] w (RefKillDid w S g (e0 :: es) place way l) := by
  have hcode : killCode way l (e0 :: es) = 3 := by unfold killCode; rw [if_neg (by omega), if_neg (by omega), if_pos ⟨by omega, by simp, by simp; omega⟩]
  have hes : killEs way l (e0 :: es) = e0 :: es := by unfold killEs; rw [hcode]; rfl
  have hpl : killPl way l (e0 :: es) place = place := by unfold killPl; rw [hcode]; rfl
  unfold RefKillDid
  rw [hcode, hes, hpl]
  clear hcode hes hpl
  have hR0 := hR
  obtain ⟨h1, A2, N, c2, hB, hL, hN, hm, hpl⟩ := hR
  have hlen := hL.len
  simp only [List.length_cons] at hlen hN
  obtain ⟨gx, ox, a, m, d, rfl, _, hgx, hc, hx⟩ := hL.at_ (k := 0) (by omega)
  have hm0 : (m : Int) = e0.length := by rw [← hx.len]; simp
  have hm1 : e0.length ≤ 1024 := by simpa using hm 0
  have c0 : w.cell? ⟨g, 0, none⟩ = some (.slice (some ⟨gx, ox, none⟩) N c2) := hB.cell 0
  have hc0 : w.cell? ⟨gx, ox, none⟩ = some (.slice a m d) := hc
  have hNI : (0 : Int) < N := by omega
  have hN60 : (N : Int) ≤ 61 := by omega
  have hm1I : (m : Int) ≤ 1024 := by omega
  have hnI : (n : Int) ≤ 1024 := by omega
  have hov : (1024 : Int) < (n : Int) + (m : Int) := by omega
  have h1w : ¬ way < 0 := by omega
  have h2w : ¬ 2 < way := by omega
  have h3w : (way != 0) = true := by rw [bne_iff_ne]; omega
  clear hm hm0 hl hlen hN hpl
  go_enter Try.func24, Try.ntmps24
  go_wp2
  go_ret
  exact ⟨rfl, hR0.plus, Only.refl _ _⟩

theorem ref_kill_push (g : Nat) (S S' : Nat → Prop) (es : List (List Int)) (place : Nat) (way : Int) (A : Option Addr) (n c : Nat) (l : List Int) (w : World) (hR : RefRing w S g es place) (hw0 : 0 ≤ way) (hw2 : way ≤ 2) (hr : RdI w S' A n c l) (hn : n ≤ 1024)
    (hj : way = 0 ∨ es = []) (hq : ¬ (way = 0 ∧ l = [])) :
    Calls Try.prog 24 #[.pointer (some ⟨g, 0, none⟩), .int .i64 way, .slice A n c] w (RefKillDid w S g es place way l) := by
  have hl := hr.len
  have hcode : killCode way l es = 0 := by
    unfold killCode; rw [if_neg (by omega), if_neg (by omega), if_neg]
    rintro ⟨h, h', _⟩; rcases hj with hj | hj
    · exact h hj
    · exact h' hj
  have hes : killEs way l es = pushE l es := by
    unfold killEs; rw [hcode, if_neg (by simp), if_neg, if_neg hq]
    rintro ⟨h, h'⟩; rcases hj with hj | hj
    · exact h hj
    · exact h' hj
  have hpl : killPl way l es place = 0 := by unfold killPl; rw [hcode, if_neg (by simp), if_neg hq]
  unfold RefKillDid
  rw [hcode, hes, hpl]
  clear hcode hes hpl
  obtain ⟨h1, A2, N, c2, hB, hL, hN, hm, hpl⟩ := hR
  have hg := hB.lt
  obtain ⟨hlen, vs, hrow, helm⟩ := hL
  have hvs : vs.length = N := by have := hrow.1; simpa using this
  have c0 : w.cell? ⟨g, 0, none⟩ = some (.slice A2 N c2) := hB.cell 0
  have hN60 : (N : Int) ≤ 60 := by omega
  have hnI : (n : Int) ≤ 1024 := by omega
  have h1w : ¬ way < 0 := by omega
  have h2w : ¬ 2 < way := by omega
  have HV := hid hvs
  have HLN := hid hlen
  have HL := hid hl
  have HN := hid hN
  have HO : Hid (∀ u ∈ vs, u.oneCell' = true) := hid (by
    intro u hu
    obtain ⟨i, hi, rfl⟩ := List.getElem_of_mem hu
    obtain ⟨a, m, d, hv, _⟩ := helm i (by omega)
    rw [List.getElem?_eq_getElem hi] at hv
    injection hv with hv
    rw [hv]; rfl)
  clear hvs hlen hpl
  have fin : ∀ (w3 : World) (A3 : Option Addr) (n3 c3 : Nat), RdI w3 (fun b => w.heap.size ≤ b) A3 n3 c3 l → Pure w w3 → ∀ (A5 : Option Addr) (c5 : Nat) (w5 : World), w5.ownsRow w.heap.size 22 1 (.slice A5 (1 + N) c5) (1 + N) ([.slice A3 n3 c3] ++ vs) →
      Only (fun b => (Value.slice (some ⟨w3.heap.size, 0, none⟩) 1 1).ownBlock = some b) (w3.alloc (.cells #[.slice A3 n3 c3] 22)) w5 → Blk w5 g 48 #[.slice A2 N c2, .int .i64 (place : Int)] ∧ ∀ (W : World), Only (fun b => b = g) w5 W → ∀ k, k ≤ 1 + N → k ≤ 60 → (k = 1 + N ∨ k = 60) → Blk W g 48 #[.slice A5 k c5, .int .i64 0] → RefRing W (Plus S w.heap.size) g (pushE l es) 0 ∧ Only (fun b => b = g) w W := by
    intro w3 A3 n3 c3 hx3 h3 A5 c5 w5 ho5 hp5
    have hp : Pure w w5 := h3.trans (((Only.refl _ w3).alloc _).then_ hp5 fun i hi e => by simp [Value.ownBlock] at e; omega)
    refine ⟨hB.pure_ hp, fun W hW k hk hk60 hkk hBk => ?_⟩
    have := RefRing.filled h1 hg h3 hx3 (by rw [HL.out]; exact hn) HLN.out HV.out helm hm ho5 hp5 hW hBk hk hk60
    have he : (l :: es).take k = pushE l es := by
      unfold pushE
      rcases hkk with rfl | rfl
      · rw [List.take_of_length_le (by simp [HLN.out]; omega), List.take_of_length_le (by simp [HLN.out]; omega)]
      · rfl
    rwa [he] at this
  clear hB
  have key : ∀ (q : World → World → Prop), True := fun _ => trivial
  clear key
  rcases hj with hw | he
  · subst hw
    have hl0 : ((n : Int) == 0) = false := by
      rw [beq_eq_false_iff_ne]; intro h; apply hq; exact ⟨rfl, List.eq_nil_of_length_eq_zero (by omega)⟩
    clear hl hq h1w h2w
    by_cases h60 : N = 60
    · subst h60
      go_enter Try.func24, Try.ntmps24
      go_wp2_with (first
        | (go_at_call 72; refine (both_any A n c l S' none 0 0 [] (fun _ => False) w hr (RdI.nil _ _ _ _ (Nat.zero_le _)) (by omega)).mono ?_; rintro e w3 ⟨A3, n3, c3, rfl, hx3, h3⟩; rw [List.append_nil] at hx3; have hg3 := Nat.lt_of_lt_of_le hg h3.size; have e0 := (World.cell?_alloc_lt w3 (.cells #[.slice A3 n3 c3] 22) ⟨g, 0, none⟩ hg3).trans ((h3.cell (p := ⟨g, 0, none⟩) hg (fun x => x)).trans c0))
        | (at_builtin; refine appendL (.tmp 84) (.tmp 88) rfl rfl w.heap.size (.slice (some ⟨w3.heap.size, 0, none⟩) 1 1) 1 [.slice A3 n3 c3] rfl (ownsRow_one w3 _ _ _ h3.size) S A2 60 c2 vs (by rfl) ((hrow.pure_ h3).pure_ ((Only.refl _ w3).alloc _)) HO.out (by unfold maxLen; omega) (by omega) (by have h5 := h3.size; simp; omega) ?_; intro A5 c5 w5 ho5 hp5 hat5; obtain ⟨hB5, hfin⟩ := fin w3 A3 n3 c3 hx3 h3 A5 c5 w5 ho5 hp5; have i0 : w5.cell? ⟨g, 0, none⟩ = some (.slice A2 60 c2) := hB5.cell 0; have j0 := hB5.frozen 0; have j1 := hB5.frozen 1; have i1 : w5.cell? ⟨g, 1, none⟩ = some (.int .i64 (place : Int)) := hB5.cell 1; have hq5 := (Rd.of_own (S := fun _ => True) ho5 (fun _ _ => trivial)).2.1; have hcap : (60 : Int) ≤ (c5 : Int) := by omega))
      go_ret
      have hF := hfin _ ((((Only.refl (fun b => b = g) w5).set 0 (.slice A5 61 c5)).set 0 (.slice A5 60 c5)).set 1 (.int .i64 0)) 60 (by omega) (by omega) (.inr rfl) (by simpa using (((hB5.set_ 0 (.slice A5 61 c5)).set_ 0 (.slice A5 60 c5)).set_ 1 (.int .i64 0)))
      exact ⟨rfl, hF⟩
    · have hN2 : (1 : Int) + (N : Int) ≤ 60 := by omega
      clear h60
      go_enter Try.func24, Try.ntmps24
      go_wp2_with (first
        | (go_at_call 72; refine (both_any A n c l S' none 0 0 [] (fun _ => False) w hr (RdI.nil _ _ _ _ (Nat.zero_le _)) (by omega)).mono ?_; rintro e w3 ⟨A3, n3, c3, rfl, hx3, h3⟩; rw [List.append_nil] at hx3; have hg3 := Nat.lt_of_lt_of_le hg h3.size; have e0 := (World.cell?_alloc_lt w3 (.cells #[.slice A3 n3 c3] 22) ⟨g, 0, none⟩ hg3).trans ((h3.cell (p := ⟨g, 0, none⟩) hg (fun x => x)).trans c0))
        | (at_builtin; refine appendL (.tmp 84) (.tmp 88) rfl rfl w.heap.size (.slice (some ⟨w3.heap.size, 0, none⟩) 1 1) 1 [.slice A3 n3 c3] rfl (ownsRow_one w3 _ _ _ h3.size) S A2 N c2 vs (by rfl) ((hrow.pure_ h3).pure_ ((Only.refl _ w3).alloc _)) HO.out (by unfold maxLen; omega) (by omega) (by have h5 := h3.size; simp; omega) ?_; intro A5 c5 w5 ho5 hp5 hat5; obtain ⟨hB5, hfin⟩ := fin w3 A3 n3 c3 hx3 h3 A5 c5 w5 ho5 hp5; have i0 : w5.cell? ⟨g, 0, none⟩ = some (.slice A2 N c2) := hB5.cell 0; have j0 := hB5.frozen 0; have j1 := hB5.frozen 1; have i1 : w5.cell? ⟨g, 1, none⟩ = some (.int .i64 (place : Int)) := hB5.cell 1; have hq5 := (Rd.of_own (S := fun _ => True) ho5 (fun _ _ => trivial)).2.1; have hcap : (60 : Int) ≤ (c5 : Int) ∨ c5 < 60 := by omega))
      go_ret
      have hF := hfin _ (((Only.refl (fun b => b = g) w5).set 0 (.slice A5 (1 + N) c5)).set 1 (.int .i64 0)) (1 + N) (by omega) (by omega) (.inl rfl) (by simpa using ((hB5.set_ 0 (.slice A5 (1 + N) c5)).set_ 1 (.int .i64 0)))
      exact ⟨rfl, hF⟩
  · subst he
    obtain rfl : N = 0 := HLN.out.symm
    by_cases hw : way = 0
    · subst hw
      have hl0 : ((n : Int) == 0) = false := by
        rw [beq_eq_false_iff_ne]; intro h; apply hq; exact ⟨rfl, List.eq_nil_of_length_eq_zero (by omega)⟩
      clear hl hq h1w h2w
      go_enter Try.func24, Try.ntmps24
      go_wp2_with (first
        | (go_at_call 72; refine (both_any A n c l S' none 0 0 [] (fun _ => False) w hr (RdI.nil _ _ _ _ (Nat.zero_le _)) (by omega)).mono ?_; rintro e w3 ⟨A3, n3, c3, rfl, hx3, h3⟩; rw [List.append_nil] at hx3; have hg3 := Nat.lt_of_lt_of_le hg h3.size; have e0 := (World.cell?_alloc_lt w3 (.cells #[.slice A3 n3 c3] 22) ⟨g, 0, none⟩ hg3).trans ((h3.cell (p := ⟨g, 0, none⟩) hg (fun x => x)).trans c0))
        | (at_builtin; refine appendL (.tmp 84) (.tmp 88) rfl rfl w.heap.size (.slice (some ⟨w3.heap.size, 0, none⟩) 1 1) 1 [.slice A3 n3 c3] rfl (ownsRow_one w3 _ _ _ h3.size) S A2 0 c2 vs (by rfl) ((hrow.pure_ h3).pure_ ((Only.refl _ w3).alloc _)) HO.out (by unfold maxLen; omega) (by omega) (by have h5 := h3.size; simp; omega) ?_; intro A5 c5 w5 ho5 hp5 hat5; obtain ⟨hB5, hfin⟩ := fin w3 A3 n3 c3 hx3 h3 A5 c5 w5 ho5 hp5; have i0 : w5.cell? ⟨g, 0, none⟩ = some (.slice A2 0 c2) := hB5.cell 0; have j0 := hB5.frozen 0; have j1 := hB5.frozen 1; have i1 : w5.cell? ⟨g, 1, none⟩ = some (.int .i64 (place : Int)) := hB5.cell 1; have hq5 := (Rd.of_own (S := fun _ => True) ho5 (fun _ _ => trivial)).2.1; have hcap : (60 : Int) ≤ (c5 : Int) ∨ c5 < 60 := by omega))
      go_ret
      have hF := hfin _ (((Only.refl (fun b => b = g) w5).set 0 (.slice A5 1 c5)).set 1 (.int .i64 0)) 1 (by omega) (by omega) (.inl rfl) (by simpa using ((hB5.set_ 0 (.slice A5 1 c5)).set_ 1 (.int .i64 0)))
      exact ⟨rfl, hF⟩
    · have hw1 : (way != 0) = true := by rw [bne_iff_ne]; exact hw
      have hw2' : (way == 0) = false := by rw [beq_eq_false_iff_ne]; exact hw
      clear hl hq hw
      cases hn0 : ((n : Int) == 0)
      all_goals
        go_enter Try.func24, Try.ntmps24
        go_wp2_with (first
        | (go_at_call 72; refine (both_any A n c l S' none 0 0 [] (fun _ => False) w hr (RdI.nil _ _ _ _ (Nat.zero_le _)) (by omega)).mono ?_; rintro e w3 ⟨A3, n3, c3, rfl, hx3, h3⟩; rw [List.append_nil] at hx3; have hg3 := Nat.lt_of_lt_of_le hg h3.size; have e0 := (World.cell?_alloc_lt w3 (.cells #[.slice A3 n3 c3] 22) ⟨g, 0, none⟩ hg3).trans ((h3.cell (p := ⟨g, 0, none⟩) hg (fun x => x)).trans c0))
        | (at_builtin; refine appendL (.tmp 84) (.tmp 88) rfl rfl w.heap.size (.slice (some ⟨w3.heap.size, 0, none⟩) 1 1) 1 [.slice A3 n3 c3] rfl (ownsRow_one w3 _ _ _ h3.size) S A2 0 c2 vs (by rfl) ((hrow.pure_ h3).pure_ ((Only.refl _ w3).alloc _)) HO.out (by unfold maxLen; omega) (by omega) (by have h5 := h3.size; simp; omega) ?_; intro A5 c5 w5 ho5 hp5 hat5; obtain ⟨hB5, hfin⟩ := fin w3 A3 n3 c3 hx3 h3 A5 c5 w5 ho5 hp5; have i0 : w5.cell? ⟨g, 0, none⟩ = some (.slice A2 0 c2) := hB5.cell 0; have j0 := hB5.frozen 0; have j1 := hB5.frozen 1; have i1 : w5.cell? ⟨g, 1, none⟩ = some (.int .i64 (place : Int)) := hB5.cell 1; have hq5 := (Rd.of_own (S := fun _ => True) ho5 (fun _ _ => trivial)).2.1; have hcap : (60 : Int) ≤ (c5 : Int) ∨ c5 < 60 := by omega))
        go_ret
        have hF := hfin _ (((Only.refl (fun b => b = g) w5).set 0 (.slice A5 1 c5)).set 1 (.int .i64 0)) 1 (by omega) (by omega) (.inl rfl) (by simpa using ((hB5.set_ 0 (.slice A5 1 c5)).set_ 1 (.int .i64 0)))
        exact ⟨rfl, hF⟩

theorem ref_kill_join (g : Nat) (S S' : Nat → Prop) (e0 : List Int) (es : List (List Int)) (place : Nat) (way : Int) (A : Option Addr) (n c : Nat) (l : List Int) (w : World) (hR : RefRing w S g (e0 :: es) place) (hw : way = 1 ∨ way = 2) (hr : RdI w S' A n c l) (hn : n ≤ 1024) (ho : n + e0.length ≤ 1024) :
    Calls Try.prog 24 #[.pointer (some ⟨g, 0, none⟩), .int .i64 way, .slice A n c] w (RefKillDid w S g (e0 :: es) place way l) := by
  have hl := hr.len
  obtain ⟨T, hT⟩ : ∃ T, T = if way = 1 then e0 ++ l else l ++ e0 := ⟨_, rfl⟩
  have hcode : killCode way l (e0 :: es) = 0 := by unfold killCode; rw [if_neg (by omega), if_neg (by omega), if_neg]; rintro ⟨_, _, h⟩; simp at h; omega
  have hes : killEs way l (e0 :: es) = T :: es := by unfold killEs; rw [hcode, if_neg (by simp), if_pos ⟨by omega, by simp⟩, hT]; simp
  have hpl : killPl way l (e0 :: es) place = 0 := by unfold killPl; rw [hcode, if_neg (by simp), if_neg]; rintro ⟨h, _⟩; omega
  have hTl : T.length ≤ 1024 := by rw [hT]; split <;> simp <;> omega
  unfold RefKillDid
  rw [hcode, hes, hpl]
  clear hcode hes hpl
  obtain ⟨h1, A2, N', c2, hB, hL, hN, hm, hpl⟩ := hR
  have hg := hB.lt
  obtain ⟨N, rfl⟩ : ∃ N, N' = N + 1 := ⟨es.length, by have := hL.len; simpa using this.symm⟩
  have hlen : es.length = N := by have := hL.len; simpa using this
  obtain ⟨gx, ox, a, m, d, rfl, _, hgx, hc, hx⟩ := hL.at_ (k := 0) (by omega)
  have hx0 : RdI w S a m d e0 := hx
  have hml : e0.length = m := hx0.len
  have hc0 : w.cell? ⟨gx, ox, none⟩ = some (.slice a m d) := hc
  obtain ⟨_, vs0, hrow, helm⟩ := hL
  have hvs0 : vs0.length = N + 1 := by have := hrow.1; simpa using this
  obtain ⟨v0, vs, rfl⟩ : ∃ v0 vs, vs0 = v0 :: vs := by
    match vs0, hvs0 with
    | v :: vs, _ => exact ⟨v, vs, rfl⟩
  have hvs : vs.length = N := by simpa using hvs0
  have helm' : ∀ j, j < N → ∃ a m d, vs[j]? = some (.slice a m d) ∧ RdI w S a m d (es[j]?.getD []) := fun j hj => by simpa using helm (j + 1) (by omega)
  have hm' : ∀ j : Nat, (es[j]?.getD []).length ≤ 1024 := fun j => by simpa using hm (j + 1)
  have htail : Rd w S 1 (if c2 = 1 then some ⟨gx, ox, none⟩ else some ⟨gx, ox + 1, none⟩) N (c2 - 1) vs := by
    by_cases h : c2 = 1
    · have := hrow.2.1
      obtain rfl : N = 0 := by omega
      obtain rfl : vs = [] := List.eq_nil_of_length_eq_zero hvs
      exact Rd.nil _ _ _ _ _ (by have := hrow.2.2.1; omega)
    · rw [if_neg h]; exact hrow.tail
  have hcN := hrow.2.1
  have c0 : w.cell? ⟨g, 0, none⟩ = some (.slice (some ⟨gx, ox, none⟩) (N + 1) c2) := hB.cell 0
  simp only [List.length_cons] at hN
  have hcI : (1 : Int) ≤ (c2 : Int) := by omega
  have hN60 : (N : Int) ≤ 60 := by omega
  have hnI : (n : Int) ≤ 1024 := by omega
  have hmI : (m : Int) ≤ 1024 := by omega
  have hov : (n : Int) + (m : Int) ≤ 1024 := by omega
  have hovN : m + n ≤ 1024 := by omega
  have HV := hid hvs
  have HLN := hid hlen
  have HL := hid hl
  have HTL := hid hTl
  have H1 := hid hN
  have HT := hid hT
  have HO : Hid (∀ u ∈ vs, u.oneCell' = true) := hid (by
    intro u hu
    obtain ⟨i, hi, rfl⟩ := List.getElem_of_mem hu
    obtain ⟨a, m, d, hv, _⟩ := helm' i (by omega)
    rw [List.getElem?_eq_getElem hi] at hv
    injection hv with hv
    rw [hv]; rfl)
  have fin : ∀ (w3 : World) (A3 : Option Addr) (n3 c3 : Nat), RdI w3 (fun b => w.heap.size ≤ b) A3 n3 c3 T → Pure w w3 → ∀ (A5 : Option Addr) (c5 : Nat) (w5 : World), w5.ownsRow w.heap.size 22 1 (.slice A5 (1 + N) c5) (1 + N) ([.slice A3 n3 c3] ++ vs) →
      Only (fun b => (Value.slice (some ⟨w3.heap.size, 0, none⟩) 1 1).ownBlock = some b) (w3.alloc (.cells #[.slice A3 n3 c3] 22)) w5 → Blk w5 g 48 #[.slice (some ⟨gx, ox, none⟩) (N + 1) c2, .int .i64 (place : Int)] ∧ ∀ (W : World), Only (fun b => b = g) w5 W → Blk W g 48 #[.slice A5 (1 + N) c5, .int .i64 0] → RefRing W (Plus S w.heap.size) g (T :: es) 0 ∧ Only (fun b => b = g) w W := by
    intro w3 A3 n3 c3 hx3 h3 A5 c5 w5 ho5 hp5
    have hp : Pure w w5 := h3.trans (((Only.refl _ w3).alloc _).then_ hp5 fun i hi e => by simp [Value.ownBlock] at e; omega)
    refine ⟨hB.pure_ hp, fun W hW hBk => ?_⟩
    have := RefRing.filled h1 hg h3 hx3 HTL.out HLN.out HV.out helm' hm' ho5 hp5 hW hBk (Nat.le_refl _) (by have := H1.out; have := HLN.out; omega)
    rwa [List.take_of_length_le (by simp [HLN.out]; omega)] at this
  clear hB hvs hlen hl hTl hN hpl hvs0 helm hrow hm hm' helm' hx hc hml ho
  rcases hw with rfl | rfl
  · have hT1 : T = e0 ++ l := by rw [HT.out]; simp
    clear hT
    subst hT1
    go_enter Try.func24, Try.ntmps24
    go_wp2_with (first
        | (go_at_call 72; refine (both_any a m d e0 S A n c l S' w hx0 hr (by omega)).mono ?_; rintro e w3 ⟨A3, n3, c3, rfl, hx3, h3⟩; have hg3 := Nat.lt_of_lt_of_le hg h3.size; have e00 := (World.cell?_alloc_lt w3 (.cells #[.slice A3 n3 c3] 22) ⟨g, 0, none⟩ hg3).trans ((h3.cell (p := ⟨g, 0, none⟩) hg (fun x => x)).trans c0))
        | (at_builtin; refine appendL (.tmp 61) (.tmp 66) rfl rfl w.heap.size (.slice (some ⟨w3.heap.size, 0, none⟩) 1 1) 1 [.slice A3 n3 c3] rfl (ownsRow_one w3 _ _ _ h3.size) S _ N (c2 - 1) vs (by rfl) ((htail.pure_ h3).pure_ ((Only.refl _ w3).alloc _)) HO.out (by unfold maxLen; omega) (by omega) (by have h5 := Only.size h3; simp; omega) ?_; intro A5 c5 w5 ho5 hp5 hat5; obtain ⟨hB5, hfin⟩ := fin w3 A3 n3 c3 hx3 h3 A5 c5 w5 ho5 hp5; have i0 : w5.cell? ⟨g, 0, none⟩ = some (.slice (some ⟨gx, ox, none⟩) (N + 1) c2) := hB5.cell 0; have j0 := hB5.frozen 0; have j1 := hB5.frozen 1; have i1 : w5.cell? ⟨g, 1, none⟩ = some (.int .i64 (place : Int)) := hB5.cell 1))
    all_goals
      go_ret
      have hF := hfin _ (((Only.refl (fun b => b = g) w5).set 0 (.slice A5 (1 + N) c5)).set 1 (.int .i64 0)) (by simpa using ((hB5.set_ 0 (.slice A5 (1 + N) c5)).set_ 1 (.int .i64 0)))
      exact ⟨rfl, hF⟩
  · have hT1 : T = l ++ e0 := by rw [HT.out]; simp
    clear hT
    subst hT1
    go_enter Try.func24, Try.ntmps24
    go_wp2_with (first
        | (go_at_call 72; refine (both_any A n c l S' a m d e0 S w2 hr2 hx2 (by omega)).mono ?_; rintro e w3 ⟨A3, n3, c3, rfl, hx3', h3'⟩; have h3 := h2.trans h3'; have hx3 := RdI.mono (S' := fun b => w.heap.size ≤ b) hx3' (fun b _ hb => Nat.le_trans h2.size hb); have hg3 := Nat.lt_of_lt_of_le hg h3.size; have e00 := (World.cell?_alloc_lt w3 (.cells #[.slice A3 n3 c3] 22) ⟨g, 0, none⟩ hg3).trans ((h3.cell (p := ⟨g, 0, none⟩) hg (fun x => x)).trans c0))
        | (go_at_call 72; refine (both_any a m d e0 S A n c l S' w hx0 hr (by omega)).mono ?_; rintro e w2 ⟨A2', n2', c2', rfl, _, h2⟩; have hr2 := hr.pure_ h2; have hx2 := hx0.pure_ h2; have c02 := (h2.cell (p := ⟨g, 0, none⟩) hg (fun x => x)).trans c0; have hc02 := (h2.cell (p := ⟨gx, ox, none⟩) hgx (fun x => x)).trans hc0)
        | (at_builtin; refine appendL (.tmp 61) (.tmp 66) rfl rfl w.heap.size (.slice (some ⟨w3.heap.size, 0, none⟩) 1 1) 1 [.slice A3 n3 c3] rfl (ownsRow_one w3 _ _ _ h3.size) S _ N (c2 - 1) vs (by rfl) ((htail.pure_ h3).pure_ ((Only.refl _ w3).alloc _)) HO.out (by unfold maxLen; omega) (by omega) (by have h5 := Only.size h3; simp; omega) ?_; intro A5 c5 w5 ho5 hp5 hat5; obtain ⟨hB5, hfin⟩ := fin w3 A3 n3 c3 hx3 h3 A5 c5 w5 ho5 hp5; have i0 : w5.cell? ⟨g, 0, none⟩ = some (.slice (some ⟨gx, ox, none⟩) (N + 1) c2) := hB5.cell 0; have j0 := hB5.frozen 0; have j1 := hB5.frozen 1; have i1 : w5.cell? ⟨g, 1, none⟩ = some (.int .i64 (place : Int)) := hB5.cell 1))
    all_goals
      go_ret
      have hF := hfin _ (((Only.refl (fun b => b = g) w5).set 0 (.slice A5 (1 + N) c5)).set 1 (.int .i64 0)) (by simpa using ((hB5.set_ 0 (.slice A5 (1 + N) c5)).set_ 1 (.int .i64 0)))
      exact ⟨rfl, hF⟩

theorem ref_kill_any (g : Nat) (S S' : Nat → Prop) (es : List (List Int)) (place : Nat) (way : Int) (A : Option Addr) (n c : Nat) (l : List Int) (w : World) (hR : RefRing w S g es place) (hr : RdI w S' A n c l) :
    Calls Try.prog 24 #[.pointer (some ⟨g, 0, none⟩), .int .i64 way, .slice A n c] w (RefKillDid w S g es place way l) := by
  have hl := hr.len
  have hmax : n ≤ 9223372036854775807 := by have h1 := hr.cap; have h2 := hr.capMax; unfold maxLen at h2; omega
  by_cases hw : way < 0 ∨ 2 < way
  · exact ref_kill_bad g S es place way A n c l w hR hw
  · by_cases hn : 1024 < n
    · exact ref_kill_long g S es place way A n c l w hR (by omega) (by omega) hl hn (by omega)
    · by_cases hj : way = 0 ∨ es = []
      · by_cases hq : way = 0 ∧ l = []
        · obtain ⟨rfl, rfl⟩ := hq
          obtain rfl : n = 0 := by simpa using hl.symm
          exact ref_kill_none g S es place A c w hR
        · exact ref_kill_push g S S' es place way A n c l w hR (by omega) (by omega) hr (by omega) hj hq
      · match es, hR with
        | [], _ => exact absurd (.inr rfl) hj
        | e0 :: es, hR =>
          have hw0 : way ≠ 0 := fun h => hj (.inl h)
          by_cases ho : 1024 < n + e0.length
          · exact ref_kill_over g S e0 es place way A n c l w hR (by omega) (by omega) hl (by omega) ho
          · exact ref_kill_join g S S' e0 es place way A n c l w hR (by omega) hr (by omega) (by omega)

end Go.Proofs.Ytinlpmgchcbjpaa
