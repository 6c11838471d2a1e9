/- What is answered, as rows of the call's own: Clone, Rotate, Yank, the rounds over All. -/
import Derived.Test.YtinlpmgchcbjpaaR3
import Derived.Test.YtinlpmgchcbjpaaK8
import Derived.Test.YtinlpmgchcbjpaaRd
namespace Go.Proofs.Ytinlpmgchcbjpaa
open Go Go.RowKit
set_option maxHeartbeats 1000000
set_option maxRecDepth 100000
attribute [local go_sem] Oper.semAt_some

def OutO (w : World) (xs : List Int) (e : Ending) (w' : World) : Prop :=
  ∃ A n c, e = .returned (.slice A n c) ∧ w'.ownsRow w.heap.size 21 1 (.slice A n c) n (xs.map (Value.int .i32)) ∧ Pure w w'

theorem clone_own (A : Option Addr) (n c : Nat) (xs : List Int) (S : Nat → Prop) (w : World) (hr : RdI w S A n c xs) (hn : small n) :
    Calls Try.prog 70 #[.slice A n c] w (OutO w xs) := by
  have heq := fun W => Lib.run_eql_slice_nil (P := Try.prog) W 22 21 A n c 0 0 Try.underlying22
  have hA : A.isNone = true → xs = [] := by
    intro h
    rcases Nat.eq_zero_or_pos n with h0 | h0
    · have := hr.len; exact List.eq_nil_of_length_eq_zero (by omega)
    · obtain ⟨g, off, e, _⟩ := hr.at_ h0; subst e; simp at h
  go_enter Try.func70, Try.ntmps70
  go_wp2_with (at_builtin; refine appendI _ _ rfl rfl w.heap.size (.slice (some ⟨w.heap.size, 0, none⟩) 0 0) 0 [] rfl (World.ownsRow_made w #[] 0 (Nat.le_refl _) (Nat.zero_le _) rfl) S A n c _ rfl (Rd.pure_ hr ((Only.refl _ w).alloc _)) (oneI xs) (by simpa using hn.maxLen) (by simpa using hn.bytes) (by simp) ?_; intro A' c' w' ho hp _; simp only [Nat.zero_add, List.nil_append] at ho)
  · go_ret
    rw [hA (by assumption)]
    exact ⟨_, _, _, rfl, World.ownsRow_nil _ _ _ _, Only.refl _ _⟩
  · go_ret
    refine ⟨_, _, _, rfl, ho, ((Only.refl _ w).alloc _).then_ hp fun i hi hv => ?_⟩
    simp [Value.ownBlock] at hv
    omega

theorem rot_ok_own (g : Nat) (S : Nat → Prop) (es : List (List Int)) (place : Nat) (n : Int) (w : World) (hR : Ring w S g es place) (he : es ≠ []) :
    Calls Try.prog 21 #[.pointer (some ⟨g, 0, none⟩), .int .i64 n] w fun e w' => ∃ A m c, e = .returned (.tuple #[.slice A m c, .int .i64 0]) ∧
      w'.ownsRow w.heap.size 21 1 (.slice A m c) m ((es[rotPl n es.length place]?.getD []).map (Value.int .i32)) ∧ Ring w' S g es (rotPl n es.length place) ∧ Only (fun b => b = g) w w' := by
  have c0 := hR.c0
  have c62 := hR.c62
  have c63 := hR.c63
  have f63 := hR.fz 63
  obtain ⟨E, hE⟩ : ∃ E, E = es.length := ⟨_, rfl⟩
  have hle := hR.le60
  have hpl := hR.pl
  have hE0 : 0 < E := by rw [hE]; exact List.length_pos_iff.2 he
  rw [← hE] at c62 hle hpl ⊢
  have hE1 : (1 : Int) ≤ (E : Int) := by omega
  have hE60 : (E : Int) ≤ 60 := by omega
  have hp60 : (place : Int) ≤ 60 := by omega
  have hp0 : (0 : Int) ≤ (place : Int) := by omega
  have hne : ((E : Int) == 0) = false := by rw [beq_eq_false_iff_ne]; omega
  have HE := hid hE
  clear hE hpl hle
  go_enter Try.func21, Try.ntmps21
  go_wp2_with (go_at_call 66; refine (none_made _ _ c0).mono ?_; rintro e w' ⟨rfl, rfl⟩)
  have b1 := Int.tmod_lt_of_pos n (b := (E : Int)) (by omega)
  have b2 := Int.lt_tmod_of_pos n (b := (E : Int)) (by omega)
  have q1 := Int.tmod_lt_of_pos ((place : Int) + n.tmod E) (b := (E : Int)) (by omega)
  have q2 := Int.lt_tmod_of_pos ((place : Int) + n.tmod E) (b := (E : Int)) (by omega)
  have h1 : IntKind.i64.wrap ((place : Int) + n.tmod E) = (place : Int) + n.tmod E := IntWalk.i64_in _ (by omega)
  have h2 : IntKind.i64.wrap (((place : Int) + n.tmod E).tmod E + E) = ((place : Int) + n.tmod E).tmod E + E := IntWalk.i64_in _ (by omega)
  have hE00 : ¬ (E : Int) = 0 := by omega
  go_region
  clear h1 h2 q1 q2 b1 b2
  go_wp2_with fail
  rw [rotPl_eq n place hE0]
  have hP := rotPl_lt n place hE0
  obtain ⟨P, hPe⟩ : ∃ P, P = rotPl n E place := ⟨_, rfl⟩
  rw [← hPe] at hP ⊢
  obtain ⟨w1, hw1⟩ : ∃ w1, w1 = (w.setCell ⟨g, 63, none⟩ (.int .i64 (P : Int))).drew := ⟨_, rfl⟩
  rw [← hw1]
  have hR1 : Ring w1 S g es P := by
    rw [hw1]; exact (hR.setPlace P (.inl (by rw [← HE.out]; exact hP))).pure_ ((Only.refl _ _).drew)
  have ho1 : Only (fun b => b = g) w w1 := by rw [hw1]; exact ((Only.refl _ w).set _ _).drew
  have HP := hid hPe
  clear hw1 hPe hR c0 c62 c63 f63
  have hR1' := hR1
  obtain ⟨hSg, cs, head, hB, k1, k2, k3, k4, k5, k6, k7, k8, k9⟩ := hR1'
  obtain ⟨a, m, d, hv, hr, hm⟩ := k9 P (by rw [← HE.out]; exact hP)
  have e61 := (hB.cell 61).trans k3
  have ev := (hB.cell (1 + (head + P) % 60)).trans hv
  clear k1 k2 k3 k4 k5 k7 k8 k9 hv hB
  refine (at_any g head P a m d w1 k6 (by omega) e61 ev).mono ?_
  rintro e w' ⟨rfl, q, rfl⟩
  go_wp2_with (go_at_call 70; refine (clone_own a m d _ S (w1.drewN q) (hr.pure_ ((Only.refl _ w1).drewN q)) (by unfold small; omega)).mono ?_; rintro e w2 ⟨A1, n1, c1, rfl, hR2, hp2⟩)
  go_ret2
  have hp2' := hp2.ofDrewN
  rw [HP.out] at hR1 hR2
  exact ⟨A1, n1, c1, rfl, own_base hR2 ho1.size, hR1.pure_ hp2', ho1.trans (Only.of_pure hp2')⟩


def RotOwn (w : World) (S : Nat → Prop) (g : Nat) (es : List (List Int)) (e : Ending) (w' : World) : Prop :=
  ∃ A m c x code pl, e = .returned (.tuple #[.slice A m c, .int .i64 code]) ∧ w'.ownsRow w.heap.size 21 1 (.slice A m c) m x ∧ Ring w' S g es pl ∧ Only (fun b => b = g) w w'
theorem rot_own (g : Nat) (S : Nat → Prop) (es : List (List Int)) (place : Nat) (n : Int) (w : World) (hR : Ring w S g es place) :
    Calls Try.prog 21 #[.pointer (some ⟨g, 0, none⟩), .int .i64 n] w (RotOwn w S g es) := by
  by_cases he : es = []
  · subst he
    refine (rot_none g S place n w hR).mono ?_
    rintro e w' ⟨rfl, rfl⟩
    exact ⟨none, 0, 0, [], _, _, rfl, World.ownsRow_nil _ _ _ _, hR, Only.refl _ _⟩
  · refine (rot_ok_own g S es place n w hR he).mono ?_
    rintro e w' ⟨A, m, c, rfl, h1, h2, h3⟩
    exact ⟨A, m, c, _, _, _, rfl, h1, h2, h3⟩
theorem yank_own (g : Nat) (S : Nat → Prop) (es : List (List Int)) (place : Nat) (w : World) (hR : Ring w S g es place) :
    Calls Try.prog 18 #[.pointer (some ⟨g, 0, none⟩)] w (RotOwn w S g es) := by
  go_enter Try.func18, Try.ntmps18
  go_wp2_with (go_at_call 21; refine (rot_own g S es place 0 w hR).mono ?_; rintro e w' ⟨A, m, c, x, code, pl, rfl, h1, h2, h3⟩)
  go_ret2
  exact ⟨A, m, c, x, code, pl, rfl, h1, h2, h3⟩

def EntryO (ls : List (List Int)) (B i : Nat) (args : Array Value) (W : World) : Prop :=
  ∃ a m d, args = #[.int .i64 (i : Int), .slice a m d] ∧ W.ownsRow B 21 1 (.slice a m d) m ((ls[i]?.getD []).map (Value.int .i32))

theorem all1_iterO (n : Nat) (Bn : Nat) (A : Option Addr) (N c : Nat) (ls : List (List Int)) (S : Nat → Prop) (B : Nat) (I : Nat → World → Prop) (hN : N ≤ 1024) (hs : ∀ k : Nat, small (ls[k]?.getD []).length)
    (hI : ∀ i W, I i W → Blk W Bn 23 #[.slice A N c] ∧ RdL W S A N c ls ∧ B ≤ W.heap.size) :
    Iter n Try.prog 71 #[.pointer (some ⟨Bn, 0, none⟩)] N (EntryO ls B) I := by
  intro l J Jx W hJI hJp hY h0
  obtain ⟨hB, hL, _⟩ := hI _ _ (hJI _ _ h0)
  have hb0 : W.cell? ⟨Bn, 0, none⟩ = some (.slice A N c) := hB.cell 0
  have hNI : (N : Int) ≤ 1024 := by omega
  clear hB hL
  refine callsIn_of_wp Try.func71 rfl trivial ?_ rfl
  simp only [Try.ntmps71, List.size_toArray, List.length_cons, List.length_nil, Nat.reduceAdd, Nat.reduceSub, Array.replicate_succ, Array.replicate_zero, List.push_toArray, List.append_toArray, List.nil_append, List.cons_append]
  gi_wp2
  gi_loopw [7] (fun i wr => ∃ k : Nat, k ≤ N ∧ i = .int .i64 k ∧ J k wr) (fun i _ => N - (intOf i).toNat)
  case atStart => exact ⟨0, Nat.zero_le _, rfl, h0⟩
  case round =>
    obtain ⟨k, hk, rfl, hJk⟩ := hrel
    obtain ⟨hBk, hLk, hBs⟩ := hI _ _ (hJI _ _ hJk)
    by_cases hlt : k < N
    · obtain ⟨g, off, a, m, d, rfl, _, _, hc, hx⟩ := hLk.at_ hlt
      have hm : small m := by rw [← hx.len]; exact hs k
      gi_wp2_with ((refine ⟨trivial, ?_⟩; gi_at_call 70; refine (callsIn_wide.2 (clone_own a m d _ S wr hx hm)).mono ?_; rintro e w2 ⟨A1, n1, c1, rfl, hR2, hp2⟩))
      obtain ⟨fn, tmps, assign, body, hy, hR⟩ := hY k #[.int .i64 (k : Int), .slice A1 n1 c1] w2 hlt (hJp _ _ _ hJk hp2) ⟨A1, n1, c1, rfl, own_base hR2 hBs⟩
      clear hR2 hx
      rw [hy]
      refine ⟨(fun h => (by cases h)), hR.mono ?_⟩
      rintro e W3 (⟨rfl, hJ3⟩ | ⟨rfl, hJx3⟩)
      · gi_wp2
        go_roundw
        case rel => exact ⟨k + 1, by omega, by go_num, hJ3⟩
        case measure => simp [intOf]; omega
      · gi_wp2
        refine bodyPost_ret (results_none rfl _ _ _) rfl ?_
        exact ⟨⟨_, rfl⟩, .inr hJx3⟩
    · obtain rfl : k = N := by omega
      gi_wp2
      go_end0
      exact ⟨⟨_, rfl⟩, .inl hJk⟩


/-- A slice of runes that may be written: a row of the call's own, in a block of M. -/
def Wr (M : Nat → Prop) (W : World) (a : Option Addr) (m : Nat) : Prop := m ≤ maxLen ∧ (m = 0 ∨ ∃ b cur, a = some ⟨b, 0, none⟩ ∧ M b ∧ Blk W b 21 cur ∧ m ≤ cur.size)
theorem Wr.of_own {M : Nat → Prop} {W : World} {base : Nat} {a : Option Addr} {m d : Nat} {xs : List Value} (h : W.ownsRow base 21 1 (.slice a m d) m xs) (hM : ∀ b, base ≤ b → b < W.heap.size → M b) : Wr M W a m := by
  rcases h.2 with ⟨hv, hn0⟩ | ⟨g, cap, cur, hv, hb, hh, hnc, hcm, hcs, htk⟩
  · injection hv with h1 h2 h3
    exact ⟨by omega, .inl h2⟩
  · injection hv with h1 h2 h3
    subst h1
    exact ⟨by omega, .inr ⟨g, cur, rfl, hM g hb (Array.getElem?_eq_some_iff.1 hh).1, hh, by omega⟩⟩
theorem Wr.mono {M M' : Nat → Prop} {W : World} {a : Option Addr} {m : Nat} (h : Wr M W a m) (hM : ∀ b, M b → M' b) : Wr M' W a m := by
  rcases h with ⟨h, h0 | ⟨b, cur, e, hb, hB, hm⟩⟩
  · exact ⟨h, .inl h0⟩
  · exact ⟨h, .inr ⟨b, cur, e, hM b hb, hB, hm⟩⟩
theorem Wr.set {M : Nat → Prop} {W : World} {a : Option Addr} {m : Nat} (h : Wr M W a m) (g k : Nat) (u : Value) : Wr M (W.setCell ⟨g, k, none⟩ u) a m := by
  rcases h with ⟨h, h0 | ⟨b, cur, e, hb, hB, hm⟩⟩
  · exact ⟨h, .inl h0⟩
  · refine ⟨h, .inr ⟨b, ?_⟩⟩
    by_cases e' : b = g
    · subst e'; exact ⟨_, e, hb, hB.set_ k u, by simpa using hm⟩
    · exact ⟨cur, e, hb, hB.far (p := ⟨g, k, none⟩) e' u, hm⟩
theorem Wr.only {M T : Nat → Prop} {W W' : World} {a : Option Addr} {m : Nat} (h : Wr M W a m) (ho : Only T W W') (hT : ∀ b, M b → ¬ T b) : Wr M W' a m := by
  rcases h with ⟨h, h0 | ⟨b, cur, e, hb, hB, hm⟩⟩
  · exact ⟨h, .inl h0⟩
  · exact ⟨h, .inr ⟨b, cur, e, hb, hB.only ho (hT b hb), hm⟩⟩
theorem Wr.pure_ {M : Nat → Prop} {W W' : World} {a : Option Addr} {m : Nat} (h : Wr M W a m) (ho : Pure W W') : Wr M W' a m := h.only ho fun _ _ x => x
theorem Wr.at_ {M : Nat → Prop} {W : World} {a : Option Addr} {m : Nat} (h : Wr M W a m) {k : Nat} (hk : k < m) : ∃ b u, a = some ⟨b, 0, none⟩ ∧ M b ∧ W.cell? ⟨b, k, none⟩ = some u ∧ W.frozen? ⟨b, k, none⟩ = false ∧ ∃ cur, Blk W b 21 cur := by
  rcases h with ⟨h, h0 | ⟨b, cur, e, hb, hB, hm⟩⟩
  · omega
  · exact ⟨b, cur[k]'(by omega), e, hb, by rw [hB.cell]; exact Array.getElem?_eq_getElem _, hB.frozen k, cur, hB⟩

end Go.Proofs.Ytinlpmgchcbjpaa
