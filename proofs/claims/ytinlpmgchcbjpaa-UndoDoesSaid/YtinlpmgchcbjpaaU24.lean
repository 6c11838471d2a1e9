/- Groups: what it hands back; Backward over groups; the iterator. -/
import Derived.Test.YtinlpmgchcbjpaaU23
import Derived.Test.YtinlpmgchcbjpaaU14
namespace Go.Proofs.Ytinlpmgchcbjpaa
open Go Go.RowKit
set_option maxHeartbeats 1000000
set_option maxRecDepth 100000
attribute [local go_sem] Oper.semAt_some
attribute [local go_sem ↓] Go.wp_at_zero Go.wp_at_succ

theorem RdG.at_ {w : World} {S : Nat → Prop} {A : Option Addr} {N c : Nat} {gs : List (List Ed)} (h : RdG w S A N c gs) {k : Nat} (hk : k < N) : ∃ g off a m d, A = some ⟨g, off, none⟩ ∧ g < w.heap.size ∧ S g ∧
    w.cell? ⟨g, off + k, none⟩ = some (.slice a m d) ∧ RdE w S a m d (gs[k]?.getD []) := by
  obtain ⟨_, vs, hr, hi⟩ := h
  obtain ⟨a, m, d, h1, h2⟩ := hi k hk
  obtain ⟨g, off, e, hS, hg, hc⟩ := hr.2.2.2 (by omega)
  exact ⟨g, off, a, m, d, e, hg, hS, by have := hc (k * 1) _ (row_get (j := 0) h1 rfl); simpa using this, h2⟩

theorem backG_any (A : Option Addr) (n c : Nat) (w : World) :
    Calls Try.prog 80 #[.slice A n c] w fun e w' => e = .returned (.func (.func 87) #[] #[.pointer (some ⟨w.heap.size, 0, none⟩)]) ∧ w' = w.alloc (.cells #[.slice A n c] 75) := by
  go_enter Try.func80, Try.ntmps80
  go_wp2
  go_ret
  exact ⟨rfl, rfl⟩

def EntG (gs : List (List Ed)) (S : Nat → Prop) (N i : Nat) (args : Array Value) (W : World) : Prop :=
  ∃ a m d, args = #[.int .i64 ((N : Int) - 1 - i), .slice a m d] ∧ RdE W S a m d (gs[N - 1 - i]?.getD [])

theorem backG_iter (n : Nat) (Bn : Nat) (A : Option Addr) (N c : Nat) (gs : List (List Ed)) (S : Nat → Prop) (I : Nat → World → Prop) (hN : N ≤ 16384)
    (hI : ∀ i W, I i W → Blk W Bn 75 #[.slice A N c] ∧ RdG W S A N c gs) :
    Iter n Try.prog 87 #[.pointer (some ⟨Bn, 0, none⟩)] N (EntG gs S N) I := by
  intro l J Jx W hJI hJp hY h0
  obtain ⟨hB, hL⟩ := hI _ _ (hJI _ _ h0)
  have hb0 : W.cell? ⟨Bn, 0, none⟩ = some (.slice A N c) := hB.cell 0
  have hNI : (N : Int) ≤ 16384 := by omega
  clear hB hL
  refine callsIn_of_wp Try.func87 rfl trivial ?_ rfl
  simp only [Try.ntmps87, List.size_toArray, List.length_cons, List.length_nil, Nat.reduceAdd, Nat.reduceSub, Array.replicate_succ, Array.replicate_zero, List.push_toArray, List.append_toArray, List.nil_append, List.cons_append]
  gi_wp2
  gi_loopw [3] (fun i wr => ∃ (k : Nat) (z : Int), k ≤ N ∧ i = .int .i64 z ∧ z = (N : Int) - 1 - k ∧ J k wr) (fun i _ => (intOf i + 1).toNat)
  case atStart => exact ⟨0, (N : Int) - 1, Nat.zero_le _, rfl, by omega, h0⟩
  case round =>
    obtain ⟨k, z, hk, rfl, hz, hJk⟩ := hrel
    obtain ⟨hBk, hLk⟩ := hI _ _ (hJI _ _ hJk)
    by_cases hlt : k < N
    · obtain ⟨j, hj⟩ : ∃ j : Nat, k + j + 1 = N := ⟨N - k - 1, by omega⟩
      obtain rfl : z = (j : Int) := by omega
      clear hz
      obtain ⟨g, off, a, m, d, rfl, _, _, hc0, hx⟩ := RdG.at_ hLk (k := j) (by omega)
      have hbk : wr.cell? ⟨Bn, 0, none⟩ = some (.slice (some ⟨g, off, none⟩) N c) := hBk.cell 0
      have hjN : (j : Int) < N := by omega
      have hjI : (j : Int) ≤ 16384 := by omega
      have e1 : N - 1 - k = j := by omega
      have e2 : (N : Int) - 1 - (k : Nat) = (j : Int) := by omega
      have hE : EntG gs S N k #[.int .i64 (j : Int), .slice a m d] wr := ⟨a, m, d, by rw [e2], by rw [e1]; exact hx⟩
      clear hx hBk hLk
      gi_wp2
      obtain ⟨fn, tmps, assign, body, hy, hR⟩ := hY k _ wr hlt hJk hE
      rw [hy]
      refine ⟨(fun h => (by cases h)), hR.mono ?_⟩
      rintro e W3 (⟨rfl, hJ3⟩ | ⟨rfl, hJx3⟩)
      · gi_wp2
        go_roundw
        case rel => exact ⟨k + 1, (j : Int) - 1, by omega, rfl, by omega, hJ3⟩
        case measure => simp [intOf]
      · gi_wp2
        refine bodyPost_ret (results_none rfl _ _ _) rfl ?_
        exact ⟨⟨_, rfl⟩, .inr hJx3⟩
    · obtain rfl : k = N := by omega
      obtain rfl : z = -1 := by omega
      gi_wp2
      go_end0
      exact ⟨⟨_, rfl⟩, .inl hJk⟩

/-- What the rounds over Groups are handed: a copy of a group, all of it in memory from block B on. -/
def EntC (gs : List (List Ed)) (B i : Nat) (args : Array Value) (W : World) : Prop :=
  ∃ a m d Se, args = #[.slice a m d] ∧ OwnK (edKindO B) 60 3 Ed.none B W a m d (gs[i]?.getD []) Se ∧ (∀ b, Se b → B ≤ b)

theorem OwnK.baseO {base B base' : Nat} {w : World} {A : Option Addr} {n c : Nat} {es : List Ed} {Se : Nat → Prop} (h : OwnK (edKindO B) 60 3 Ed.none base w A n c es Se) (hb : base' ≤ B) : OwnK (edKindO base') 60 3 Ed.none base w A n c es Se := by
  obtain ⟨h1, vs, h2, h3, h4⟩ := h
  refine ⟨h1, vs, h2, fun j hj => ?_, h4⟩
  obtain ⟨a, m, d, a', m', d', e, k1, k2, k3⟩ := h3 j hj
  exact ⟨a, m, d, a', m', d', e, own_base k1 hb, own_base k2 hb, k3⟩

theorem groups_iter (n : Nat) (Bn : Nat) (A : Option Addr) (N c : Nat) (gs : List (List Ed)) (S : Nat → Prop) (B : Nat) (I : Nat → World → Prop) (hN : N ≤ 16385) (hf : ∀ x ∈ gs, x.length ≤ 16384 ∧ ∀ e ∈ x, e.fit)
    (hI : ∀ i W, I i W → Blk W Bn 75 #[.slice A N c] ∧ RdG W S A N c gs ∧ B ≤ W.heap.size) :
    Iter n Try.prog 81 #[.pointer (some ⟨Bn, 0, none⟩)] N (EntC gs B) I := by
  intro l J Jx W hJI hJp hY h0
  obtain ⟨hB, hL, _⟩ := hI _ _ (hJI _ _ h0)
  have hb0 : W.cell? ⟨Bn, 0, none⟩ = some (.slice A N c) := hB.cell 0
  have hNI : (N : Int) ≤ 16385 := by omega
  have hlen : gs.length = N := hL.1
  have HL := hid hlen
  clear hB hL hlen
  refine callsIn_of_wp Try.func81 rfl trivial ?_ rfl
  simp only [Try.ntmps81, List.size_toArray, List.length_cons, List.length_nil, Nat.reduceAdd, Nat.reduceSub, Array.replicate_succ, Array.replicate_zero, List.push_toArray, List.append_toArray, List.nil_append, List.cons_append]
  gi_wp2
  gi_loopw [7] (fun i wr => ∃ k : Nat, k ≤ N ∧ i = .int .i64 k ∧ J k wr) (fun i _ => N - (intOf i).toNat)
  case atStart => exact ⟨0, Nat.zero_le _, rfl, h0⟩
  case round =>
    obtain ⟨k, hk, rfl, hJk⟩ := hrel
    obtain ⟨hBk, hLk, hBs⟩ := hI _ _ (hJI _ _ hJk)
    by_cases hlt : k < N
    · obtain ⟨g, off, a, m, d, rfl, _, _, hc, hx⟩ := RdG.at_ hLk hlt
      have hmem := hf (gs[k]?.getD []) (by rw [List.getElem?_eq_getElem (by rw [HL.out]; exact hlt)]; exact List.getElem_mem _)
      have hm : m ≤ 16384 := by have h9 : (gs[k]?.getD []).length = m := hx.1; omega
      gi_wp2_with ((refine ⟨trivial, ?_⟩; gi_at_call 79; refine (callsIn_wide.2 (copied_any a m d _ S wr hx hm hmem.2)).mono ?_; rintro e w2 ⟨A1, n1, c1, Se, rfl, hR2, hSe, hp2⟩))
      obtain ⟨fn, tmps, assign, body, hy, hR⟩ := hY k #[.slice A1 n1 c1] w2 hlt (hJp _ _ _ hJk hp2) ⟨A1, n1, c1, Se, rfl, (hR2.baseO hBs).low hBs, fun b hb => Nat.le_trans hBs (hSe b hb)⟩
      clear hR2 hx
      rw [hy]
      refine ⟨(fun h => (by cases h)), hR.mono ?_⟩
      rintro e W3 (⟨rfl, hJ3⟩ | ⟨rfl, hJx3⟩)
      · gi_wp2
        go_roundw
        case rel => exact ⟨k + 1, by omega, by go_num, hJ3⟩
        case measure => simp [intOf]; omega
      · gi_wp2
        refine bodyPost_ret (results_none rfl _ _ _) rfl ?_
        exact ⟨⟨_, rfl⟩, .inr hJx3⟩
    · obtain rfl : k = N := by omega
      gi_wp2
      go_end0
      exact ⟨⟨_, rfl⟩, .inl hJk⟩

theorem len_le_sum {gs : List (List Ed)} {x : List Ed} (h : x ∈ gs) : x.length ≤ (gs.map List.length).sum := by
  induction gs with
  | nil => simp at h
  | cons y ys ih =>
    simp only [List.map_cons, List.sum_cons]
    rcases List.mem_cons.1 h with rfl | h
    · omega
    · have := ih h; omega

def nowG (now : List Ed) : List (List Ed) := if now = [] then [] else [now]
/-- The groups, the last one first, ahead of them what is open. -/
def allG (gs : List (List Ed)) (now : List Ed) : List (List Ed) := nowG now ++ gs.reverse

/-- While the groups are gathered: the box holds a row of the call's own. -/
def GatG (w : World) (box k : Nat) (out : List (List Ed)) (X : World) : Prop :=
  ∃ A c Se, Blk X box 75 #[.slice A k c] ∧ OwnG w.heap.size X A k c out Se ∧ (∀ b, Se b → box < b) ∧ Pure w X ∧ w.heap.size ≤ box

def GroupsDid (w : World) (gs : List (List Ed)) (now : List Ed) (e : Ending) (w' : World) : Prop :=
  ∃ Bn A c, e = .returned (.func (.func 81) #[] #[.pointer (some ⟨Bn, 0, none⟩)]) ∧ w.heap.size ≤ Bn ∧ Blk w' Bn 75 #[.slice A (allG gs now).length c] ∧ RdG w' (fun b => w.heap.size ≤ b) A (allG gs now).length c (allG gs now) ∧ Pure w w'

set_option maxHeartbeats 4000000 in
theorem groups_any (g : Nat) (S : Nat → Prop) (gs : List (List Ed)) (now : List Ed) (op : Int) (w : World) (hU : UL w S g gs now op) :
    Calls Try.prog 44 #[.pointer (some ⟨g, 0, none⟩)] w (GroupsDid w gs now) := by
  obtain ⟨w1, hw1⟩ : ∃ w1, w1 = w.alloc (.cells #[.slice none 0 0] 75) := ⟨_, rfl⟩
  have hp1 : Pure w w1 := by rw [hw1]; exact (Only.refl _ w).alloc _
  have hb1 : Blk w1 w.heap.size 75 #[.slice none 0 0] := by rw [hw1]; exact Blk.new _ _ _
  have hs1 : w1.heap.size = w.heap.size + 1 := by rw [hw1]; simp
  have hU1 := hU.pure_ hp1
  have hgw := hU.lt
  have c4 := hU1.c4
  obtain ⟨h0, Ag, N, cg, An, nn, cn, Sg, Sn, hB, hG, hE, hS, q1, q2, q3, q4, q5, q6⟩ := hU.tight
  have hle := tot_groups (now := now) q4
  have hlg := hG.len
  have hln := hE.len
  have hN : N ≤ 16384 := by omega
  have hnn : nn ≤ 16384 := by omega
  have hGr : RdG w1 (fun b => b < w.heap.size) Ag N cg gs := (RdK'.mono hG.rd fun b hb _ => hb).pure_ hp1
  have hEr : RdE w1 (fun b => b < w.heap.size) An nn cn now := (RdK'.mono hE.rd fun b hb _ => hb).pure_ hp1
  have hB1 := hB.pure_ hp1
  have e0 : w1.cell? ⟨g, 0, none⟩ = some (.slice Ag N cg) := hB1.cell 0
  have e1 : w1.cell? ⟨g, 1, none⟩ = some (.slice An nn cn) := hB1.cell 1
  have hNI : (N : Int) ≤ 16384 := by omega
  have hnnI : (nn : Int) ≤ 16384 := by omega
  have hfg : ∀ x ∈ gs, x.length ≤ 16384 ∧ ∀ e ∈ x, e.fit := fun x hx => ⟨by
    have h9 : x.length ≤ (gs.map List.length).sum := len_le_sum hx
    unfold tot at q3; omega, q5 x hx⟩
  have HLG := hid hlg
  have HLN := hid hln
  refine calls_of_wp_marks Try.func44 rfl ?_
  simp only [Try.ntmps44, List.size_toArray, List.length_cons, List.length_nil, Nat.reduceAdd, Nat.reduceSub, Array.replicate_succ, Array.replicate_zero, List.push_toArray, List.append_toArray, List.nil_append, List.cons_append]
  rw [hw1] at c4
  have e1' := e1
  have e0' := e0
  rw [hw1] at e1' e0'
  clear hB hG hE hS q1 q2 q3 q4 h0 hU hU1 hle hlg hln hB1
  have HW1 := hid hw1
  clear hw1
  by_cases hne : now = []
  · obtain rfl : nn = 0 := by have := HLN.out; rw [hne] at this; simpa using this.symm
    have hng : nowG now = [] := by unfold nowG; rw [if_pos hne]
    have HNG := hid hng
    clear hne hng
    go_wp2_with (first
      | (go_at_call 80; refine (backG_any Ag N cg _).mono ?_; rintro e w2 ⟨rfl, hw2⟩)
      | (go_at_call 78; refine (unone_made g _ c4).mono ?_; rintro e w' ⟨rfl, rfl⟩))
    have hp2 : Pure w w2 := by rw [hw2, ← HW1.out]; exact hp1.alloc _
    have hq2 : Blk w2 (w.heap.size + 1) 75 #[.slice Ag N cg] := by rw [hw2, ← HW1.out, ← hs1]; exact Blk.new _ _ _
    have hp12 : Pure w1 w2 := by rw [hw2, ← HW1.out]; exact (Only.refl _ _).alloc _
    have hGr2 := hGr.pure_ hp12
    have hj0 : (nowG now).length = 0 := by rw [HNG.out]; rfl
    have hGat : GatG w w.heap.size 0 (nowG now) w2 := by rw [HNG.out]; exact ⟨none, 0, fun _ => False, hb1.pure_ hp12, OwnK.nil _ _, fun _ h => h.elim, hp2, Nat.le_refl _⟩
    rw [← hw2]
    obtain ⟨Bq, hBq⟩ : ∃ Bq, Bq = w.heap.size + 1 := ⟨_, rfl⟩
    rw [← hBq] at hq2 ⊢
    have hBl : w.heap.size < Bq := by omega
    clear hw2 hBq c4 e0 e1 e0' e1' hb1 hGr hEr hp1 HW1 hs1
    obtain ⟨j0, hj1⟩ : ∃ j0, j0 = 0 := ⟨_, rfl⟩
    rw [← hj1] at hGat hj0
    have hj2 : j0 ≤ 1 := by omega
    clear hj1
    refine wp_range2 3 (gf := 87) (lb := #[.pointer (some ⟨Bq, 0, none⟩)]) rfl (enters_of Try.func87 (by kernel_rfl) rfl) N (EntG gs (fun b => b < w.heap.size) N)
      (fun i X => Blk X Bq 75 #[.slice Ag N cg] ∧ RdG X (fun b => b < w.heap.size) Ag N cg gs ∧ GatG w w.heap.size (j0 + i) (nowG now ++ gs.reverse.take i) X)
      (fun _ _ => False)
      ?hI ?hIx ?hps (backG_iter 3 Bq Ag N cg gs _ _ hN ?hit) ⟨hq2, hGr2, by simpa using hGat⟩ ?round ?done ?stop
    case hI =>
      rintro i X Y ⟨h1, h2, Ab, cb, Se, h3, h4, h5, h6, h7⟩ kb
      exact ⟨h1.keptB kb, RdG.keptB h2 kb, Ab, cb, Se, h3.keptB kb, OwnG.keptB h4 kb, h5, h6.keptB kb hp2.size, h7⟩
    case hIx => exact fun _ _ _ h _ => h
    case hps => rintro i args X ⟨a, m, d, rfl, _⟩; rfl
    case hit => exact fun i X h => ⟨h.1, h.2.1⟩
    case round =>
      clear hq2 hGr2 hGat
      rintro l i args X K hi hC ⟨a, m, d, rfl, hx⟩ hK
      simp only [Array.zip, Array.foldl]
      gi_wp2
      refine hK _ _ (keeps_refl X) fun X2 kb => ?_
      clear hK K
      obtain ⟨hC1, hC2, Ab, cb, Se, hBx, ⟨hlg, vs, hown, hes, hd1, hd2⟩, hSe, hpX, _⟩ := hC
      have hBx2 := hBx.keptB kb
      have hC12 := hC1.keptB kb
      have hC22 := RdG.keptB hC2 kb
      have hx2 := RdE.keptB hx kb
      have hown2 := own_keptB hown kb
      have hes2 : ∀ j, j < j0 + i → grKind.rd X2 Se ((vs.drop (j * 1)).take 1) ((nowG now ++ gs.reverse.take i)[j]?.getD []) := fun j hj => grKind_kept (hes j hj) kb
      have hd22 : ∀ b, Se b → b < X2.heap.size := fun b hb => Nat.lt_of_lt_of_le (hd2 b hb) kb.size
      have hpX2 : Pure w X2 := hpX.keptB kb hp2.size
      have hXs := hpX.size
      have hX2s := hpX2.size
      have hnb : ¬ (Value.slice Ab (j0 + i) cb).ownBlock = some w.heap.size := fun e => row_ne_box hBx2 hown2 (by decide) _ e rfl
      have b0 : X2.cell? ⟨w.heap.size, 0, none⟩ = some (.slice Ab (j0 + i) cb) := hBx2.cell 0
      have hmemx : gs[N - 1 - i]?.getD [] ∈ gs := by
        rw [List.getElem?_eq_getElem (by rw [HLG.out]; omega)]
        exact List.getElem_mem _
      have hmem := (hfg _ hmemx).2
      have hm : m ≤ 16384 := by have h9 : (gs[N - 1 - i]?.getD []).length = m := hx.1; have := (hfg _ hmemx).1; omega
      have hC12l := hC12.lt
      clear hBx hC1 hC2 hes hown hpX hmemx
      gi_wp2
      have hfin : ∀ (w3 : World) (A3 : Option Addr) (n3 c3 : Nat) (Se3 : Nat → Prop) (A5 : Option Addr) (c5 : Nat) (w5 : World), OwnK (edKindO X2.heap.size) 60 3 Ed.none X2.heap.size w3 A3 n3 c3 (gs[N - 1 - i]?.getD []) Se3 → (∀ b, Se3 b → X2.heap.size ≤ b) → Pure X2 w3 →
          w5.ownsRow w.heap.size 71 1 (.slice A5 (j0 + i + 1) c5) (j0 + i + 1) (vs ++ [.slice A3 n3 c3]) →
          Only (fun b => (Value.slice Ab (j0 + i) cb).ownBlock = some b) (w3.alloc (.cells #[.slice A3 n3 c3] 71)) w5 →
          ((Value.slice A5 (j0 + i + 1) c5).ownBlock = (Value.slice Ab (j0 + i) cb).ownBlock ∨ (Value.slice A5 (j0 + i + 1) c5).ownBlock = some (w3.alloc (.cells #[.slice A3 n3 c3] 71)).heap.size) →
          KeepsOthers X2 (w5.setCell ⟨w.heap.size, 0, none⟩ (.slice A5 (j0 + i + 1) c5)) ∧ Blk (w5.setCell ⟨w.heap.size, 0, none⟩ (.slice A5 (j0 + i + 1) c5)) Bq 75 #[.slice Ag N cg] ∧ RdG (w5.setCell ⟨w.heap.size, 0, none⟩ (.slice A5 (j0 + i + 1) c5)) (fun b => b < w.heap.size) Ag N cg gs ∧
            GatG w w.heap.size (j0 + (i + 1)) (nowG now ++ gs.reverse.take (i + 1)) (w5.setCell ⟨w.heap.size, 0, none⟩ (.slice A5 (j0 + i + 1) c5)) := by
        intro w3 A3 n3 c3 Se3 A5 c5 w5 hR3 hSe3 hp3 ho5 hp5 hat5
        have hlow : ∀ b, (Value.slice Ab (j0 + i) cb).ownBlock = some b → w.heap.size < b ∧ b < X2.heap.size := fun b hb => by
          have h1 := hown2.lt b hb
          have h2 : b ≠ w.heap.size := fun e => hnb (e ▸ hb)
          exact ⟨by omega, h1.2⟩
        have hSx : ∀ b, (Se3 b ∨ (Value.slice A3 n3 c3).ownBlock = some b) → X2.heap.size ≤ b ∧ b < w3.heap.size := by
          rintro b (hb | hb)
          · exact ⟨hSe3 b hb, hR3.2.choose_spec.2.2.2 b hb⟩
          · exact hR3.2.choose_spec.1.lt b hb
        have hst := OwnK.step (K := grKind) (z := []) hlg hown2 hes2 hd1 hd22 hp3 (x := gs[N - 1 - i]?.getD []) (Sx := fun b => Se3 b ∨ (Value.slice A3 n3 c3).ownBlock = some b) ⟨A3, n3, c3, rfl, hR3.ed.rd⟩ rfl (fun b hb => ⟨(hSx b hb).2, fun e => by have := (hlow b e).2; have := (hSx b hb).1; omega⟩) ((Only.refl (fun _ => False) _).alloc _) ho5 hp5 hat5
        have hq5 : Only (fun b => (Value.slice Ab (j0 + i) cb).ownBlock = some b) X2 w5 := (Only.of_pure (hp3.trans ((Only.refl (fun _ => False) w3).alloc _))).then_ hp5 fun i _ e => e
        have ho : Only (fun b => b = w.heap.size) w5 (w5.setCell ⟨w.heap.size, 0, none⟩ (.slice A5 (j0 + i + 1) c5)) := (Only.refl _ w5).set 0 _
        have hall : Only (fun b => (Value.slice Ab (j0 + i) cb).ownBlock = some b ∨ b = w.heap.size) X2 (w5.setCell ⟨w.heap.size, 0, none⟩ (.slice A5 (j0 + i + 1) c5)) := (hq5.mono fun _ _ e => .inl e).trans (ho.mono fun _ _ e => .inr e)
        have hB5 := hBx2.only hq5 hnb
        have hl := HLG.out
        have htake : nowG now ++ gs.reverse.take (i + 1) = (nowG now ++ gs.reverse.take i) ++ [gs[N - 1 - i]?.getD []] := by
          rw [List.take_add_one, List.append_assoc]
          congr 2
          rw [List.getElem?_reverse (by omega), hl, List.getElem?_eq_getElem (by omega)]
          rfl
        refine ⟨keeps_only hall ?_, hC12.only hall ?_, RdK'.only hC22 hall ?_, A5, c5, fun b => Se b ∨ (Se3 b ∨ (Value.slice A3 n3 c3).ownBlock = some b), by simpa [Nat.add_assoc] using hB5.set_ 0 (.slice A5 (j0 + i + 1) c5), ?_, ?_, hpX2.then_ hall ?_, Nat.le_refl _⟩
        · rintro b (hb | rfl) _
          · rcases hown2.2 with ⟨e, _⟩ | ⟨g, cap, cur, e, _, hh, _⟩
            · rw [e] at hb; simp [Value.ownBlock] at hb
            · rw [e] at hb; simp [Value.ownBlock] at hb; subst hb; exact ⟨_, _, _, hh⟩
          · exact ⟨_, _, _, hBx2⟩
        · rintro (hb | hb)
          · exact row_ne_box hC12 hown2 (by decide) _ hb rfl
          · omega
        · rintro b hb _ (h | h)
          · have := (hlow b h).1; omega
          · omega
        · rw [htake]
          refine hst.only ho (fun b hb e => ?_) (fun b hb e => row_ne_box hB5 ho5 (by decide) b hb e)
          rcases hb with hb | hb
          · have := hSe b hb; omega
          · have := (hSx b hb).1; omega
        · rintro b (hb | hb)
          · exact hSe b hb
          · have := (hSx b hb).1; omega
        · rintro b hb (h | h)
          · have := (hlow b h).1; omega
          · omega
      have hj0I : (j0 : Int) ≤ 1 := by omega
      have hiI : (i : Int) ≤ 16384 := by omega
      refine region_in (by kernel_rfl) (by kernel_rfl) (by rintro ⟨_, _, h⟩; exact h) ?_
      refine wpAny_ready (rs := [0, 1]) (by kernel_rfl) (by simp) ?_
      refine AllReady.cons rfl (fun Kr hKr => ?_) (AllReady.cons rfl (fun Kr hKr => ?_) AllReady.nil)
      · go_simp
        refine hKr _ _ ?_
        clear hKr Kr
        refine wpAny_ready (rs := [1]) (by kernel_rfl) (by simp) ?_
        refine AllReady.cons rfl (fun Kr hKr => ?_) AllReady.nil
        go_simp
        refine hKr _ _ ?_
        clear hKr Kr
        refine wpAny_ready (rs := [2]) (by kernel_rfl) (by simp) ?_
        refine AllReady.cons rfl (fun Kr hKr => ?_) AllReady.nil
        go_simp
        go_at_call 79
        refine (copied_any a m d (gs[N - 1 - i]?.getD []) _ X2.drew (RdK'.pure_ hx2 (Only.refl _ _).drew) hm hmem).mono ?_
        rintro e w3 ⟨A3, n3, c3, Se3, rfl, hR3, hSe3, hp3'⟩
        have hp3 := hp3'.ofDrew
        have hlt3 := Nat.lt_of_lt_of_le hBx2.lt hp3.size
        have b3 := (hp3.cell (p := ⟨w.heap.size, 0, none⟩) hBx2.lt (fun x => x)).trans b0
        try go_simp
        refine hKr _ _ ?_
        clear hKr Kr
        refine wpAny_ready (rs := [3]) (by kernel_rfl) (by simp) ?_
        refine AllReady.cons rfl (fun Kr hKr => ?_) AllReady.nil
        go_simp
        refine hKr _ _ ?_
        clear hKr Kr
        refine wpAny_ready (rs := [4]) (by kernel_rfl) (by simp) ?_
        refine AllReady.cons rfl (fun Kr hKr => ?_) AllReady.nil
        refine stepG (.tmp 33) (.tmp 36) (by rfl) (by rfl) w.heap.size (.slice Ab (j0 + i) cb) (j0 + i) vs (by go_simp) (own_only hown2 (hp3.trans ((Only.refl (fun _ => False) w3).alloc _)) fun _ _ x => x) _ (some ⟨w3.heap.size, 0, none⟩) 1 1 [.slice A3 n3 c3] (by go_simp) (Rd.one w3 _ _) (by simp [Value.oneCell']) (by unfold maxLen; omega) (by omega) (by have := hp3.size; simp; omega) ?_
        intro A5 c5 w5 ho5 hp5 hat5
        have hq5 : Only (fun b => (Value.slice Ab (j0 + i) cb).ownBlock = some b) X2 w5 := (Only.of_pure (hp3.trans ((Only.refl (fun _ => False) w3).alloc _))).then_ hp5 fun i _ e => e
        have hB5 := hBx2.only hq5 hnb
        have i0 : w5.cell? ⟨w.heap.size, 0, none⟩ = some (.slice Ab (j0 + i) cb) := hB5.cell 0
        have j00 := hB5.frozen 0
        try go_simp
        refine hKr _ _ ?_
        clear hKr Kr
        refine wpAny_ready (rs := [5]) (by kernel_rfl) (by simp) ?_
        refine AllReady.cons rfl (fun Kr hKr => ?_) AllReady.nil
        go_simp
        refine hKr _ _ ?_
        clear hKr Kr
        refine wpAny_done (by kernel_rfl) ?_ _
        exact hfin w3 A3 n3 c3 Se3 A5 c5 w5 hR3 hSe3 hp3 ho5 hp5 hat5
      · go_simp
        refine hKr _ _ ?_
        clear hKr Kr
        refine wpAny_ready (rs := [0, 2]) (by kernel_rfl) (by simp) ?_
        refine AllReady.cons rfl (fun Kr hKr => ?_) (AllReady.cons rfl (fun Kr hKr => ?_) AllReady.nil)
        · go_simp
          refine hKr _ _ ?_
          clear hKr Kr
          refine wpAny_ready (rs := [2]) (by kernel_rfl) (by simp) ?_
          refine AllReady.cons rfl (fun Kr hKr => ?_) AllReady.nil
          go_simp
          go_at_call 79
          refine (copied_any a m d (gs[N - 1 - i]?.getD []) _ X2.drew (RdK'.pure_ hx2 (Only.refl _ _).drew) hm hmem).mono ?_
          rintro e w3 ⟨A3, n3, c3, Se3, rfl, hR3, hSe3, hp3'⟩
          have hp3 := hp3'.ofDrew
          have hlt3 := Nat.lt_of_lt_of_le hBx2.lt hp3.size
          have b3 := (hp3.cell (p := ⟨w.heap.size, 0, none⟩) hBx2.lt (fun x => x)).trans b0
          try go_simp
          refine hKr _ _ ?_
          clear hKr Kr
          refine wpAny_ready (rs := [3]) (by kernel_rfl) (by simp) ?_
          refine AllReady.cons rfl (fun Kr hKr => ?_) AllReady.nil
          go_simp
          refine hKr _ _ ?_
          clear hKr Kr
          refine wpAny_ready (rs := [4]) (by kernel_rfl) (by simp) ?_
          refine AllReady.cons rfl (fun Kr hKr => ?_) AllReady.nil
          refine stepG (.tmp 33) (.tmp 36) (by rfl) (by rfl) w.heap.size (.slice Ab (j0 + i) cb) (j0 + i) vs (by go_simp) (own_only hown2 (hp3.trans ((Only.refl (fun _ => False) w3).alloc _)) fun _ _ x => x) _ (some ⟨w3.heap.size, 0, none⟩) 1 1 [.slice A3 n3 c3] (by go_simp) (Rd.one w3 _ _) (by simp [Value.oneCell']) (by unfold maxLen; omega) (by omega) (by have := hp3.size; simp; omega) ?_
          intro A5 c5 w5 ho5 hp5 hat5
          have hq5 : Only (fun b => (Value.slice Ab (j0 + i) cb).ownBlock = some b) X2 w5 := (Only.of_pure (hp3.trans ((Only.refl (fun _ => False) w3).alloc _))).then_ hp5 fun i _ e => e
          have hB5 := hBx2.only hq5 hnb
          have i0 : w5.cell? ⟨w.heap.size, 0, none⟩ = some (.slice Ab (j0 + i) cb) := hB5.cell 0
          have j00 := hB5.frozen 0
          try go_simp
          refine hKr _ _ ?_
          clear hKr Kr
          refine wpAny_ready (rs := [5]) (by kernel_rfl) (by simp) ?_
          refine AllReady.cons rfl (fun Kr hKr => ?_) AllReady.nil
          go_simp
          refine hKr _ _ ?_
          clear hKr Kr
          refine wpAny_done (by kernel_rfl) ?_ _
          exact hfin w3 A3 n3 c3 Se3 A5 c5 w5 hR3 hSe3 hp3 ho5 hp5 hat5
        · go_simp
          go_at_call 79
          refine (copied_any a m d (gs[N - 1 - i]?.getD []) _ X2.drew (RdK'.pure_ hx2 (Only.refl _ _).drew) hm hmem).mono ?_
          rintro e w3 ⟨A3, n3, c3, Se3, rfl, hR3, hSe3, hp3'⟩
          have hp3 := hp3'.ofDrew
          have hlt3 := Nat.lt_of_lt_of_le hBx2.lt hp3.size
          have b3 := (hp3.cell (p := ⟨w.heap.size, 0, none⟩) hBx2.lt (fun x => x)).trans b0
          try go_simp
          refine hKr _ _ ?_
          clear hKr Kr
          refine wpAny_ready (rs := [0, 3]) (by kernel_rfl) (by simp) ?_
          refine AllReady.cons rfl (fun Kr hKr => ?_) (AllReady.cons rfl (fun Kr hKr => ?_) AllReady.nil)
          · go_simp
            refine hKr _ _ ?_
            clear hKr Kr
            refine wpAny_ready (rs := [3]) (by kernel_rfl) (by simp) ?_
            refine AllReady.cons rfl (fun Kr hKr => ?_) AllReady.nil
            go_simp
            refine hKr _ _ ?_
            clear hKr Kr
            refine wpAny_ready (rs := [4]) (by kernel_rfl) (by simp) ?_
            refine AllReady.cons rfl (fun Kr hKr => ?_) AllReady.nil
            refine stepG (.tmp 33) (.tmp 36) (by rfl) (by rfl) w.heap.size (.slice Ab (j0 + i) cb) (j0 + i) vs (by go_simp) (own_only hown2 (hp3.trans ((Only.refl (fun _ => False) w3).alloc _)) fun _ _ x => x) _ (some ⟨w3.heap.size, 0, none⟩) 1 1 [.slice A3 n3 c3] (by go_simp) (Rd.one w3 _ _) (by simp [Value.oneCell']) (by unfold maxLen; omega) (by omega) (by have := hp3.size; simp; omega) ?_
            intro A5 c5 w5 ho5 hp5 hat5
            have hq5 : Only (fun b => (Value.slice Ab (j0 + i) cb).ownBlock = some b) X2 w5 := (Only.of_pure (hp3.trans ((Only.refl (fun _ => False) w3).alloc _))).then_ hp5 fun i _ e => e
            have hB5 := hBx2.only hq5 hnb
            have i0 : w5.cell? ⟨w.heap.size, 0, none⟩ = some (.slice Ab (j0 + i) cb) := hB5.cell 0
            have j00 := hB5.frozen 0
            try go_simp
            refine hKr _ _ ?_
            clear hKr Kr
            refine wpAny_ready (rs := [5]) (by kernel_rfl) (by simp) ?_
            refine AllReady.cons rfl (fun Kr hKr => ?_) AllReady.nil
            go_simp
            refine hKr _ _ ?_
            clear hKr Kr
            refine wpAny_done (by kernel_rfl) ?_ _
            exact hfin w3 A3 n3 c3 Se3 A5 c5 w5 hR3 hSe3 hp3 ho5 hp5 hat5
          · go_simp
            refine hKr _ _ ?_
            clear hKr Kr
            refine wpAny_ready (rs := [0]) (by kernel_rfl) (by simp) ?_
            refine AllReady.cons rfl (fun Kr hKr => ?_) AllReady.nil
            go_simp
            refine hKr _ _ ?_
            clear hKr Kr
            refine wpAny_ready (rs := [4]) (by kernel_rfl) (by simp) ?_
            refine AllReady.cons rfl (fun Kr hKr => ?_) AllReady.nil
            refine stepG (.tmp 33) (.tmp 36) (by rfl) (by rfl) w.heap.size (.slice Ab (j0 + i) cb) (j0 + i) vs (by go_simp) (own_only hown2 (hp3.trans ((Only.refl (fun _ => False) w3).alloc _)) fun _ _ x => x) _ (some ⟨w3.heap.size, 0, none⟩) 1 1 [.slice A3 n3 c3] (by go_simp) (Rd.one w3 _ _) (by simp [Value.oneCell']) (by unfold maxLen; omega) (by omega) (by have := hp3.size; simp; omega) ?_
            intro A5 c5 w5 ho5 hp5 hat5
            have hq5 : Only (fun b => (Value.slice Ab (j0 + i) cb).ownBlock = some b) X2 w5 := (Only.of_pure (hp3.trans ((Only.refl (fun _ => False) w3).alloc _))).then_ hp5 fun i _ e => e
            have hB5 := hBx2.only hq5 hnb
            have i0 : w5.cell? ⟨w.heap.size, 0, none⟩ = some (.slice Ab (j0 + i) cb) := hB5.cell 0
            have j00 := hB5.frozen 0
            try go_simp
            refine hKr _ _ ?_
            clear hKr Kr
            refine wpAny_ready (rs := [5]) (by kernel_rfl) (by simp) ?_
            refine AllReady.cons rfl (fun Kr hKr => ?_) AllReady.nil
            go_simp
            refine hKr _ _ ?_
            clear hKr Kr
            refine wpAny_done (by kernel_rfl) ?_ _
            exact hfin w3 A3 n3 c3 Se3 A5 c5 w5 hR3 hSe3 hp3 ho5 hp5 hat5
    case done =>
      intro D X hD hC hk
      simp only [Exit.inBlock, Exit.then]
      obtain ⟨hC1, hC2, Ab, cb, Se, hBx, hO, hSe, hpX, _⟩ := hC
      go_wp2
      refine leave_marks (B := w.heap.size) [D] _ ⟨by simp, fun D' hD' => ?_⟩ fun W' hk' => ⟨_, results_tmp rfl _ _ _, ?_⟩
      · obtain rfl : D' = D := by simpa using hD'
        have := hp2.size
        exact ⟨by omega, hk⟩
      · have hall : nowG now ++ gs.reverse.take N = allG gs now := by unfold allG; rw [List.take_of_length_le (by simp [HLG.out])]
        have hlen : (allG gs now).length = j0 + N := by unfold allG; rw [List.length_append, hj0, List.length_reverse, HLG.out]
        rw [hall] at hO
        refine ⟨w.heap.size, Ab, cb, rfl, Nat.le_refl _, by rw [hlen]; exact hBx.keptB hk', ?_, hpX.keptB hk' (Nat.le_refl _)⟩
        rw [hlen]
        refine RdG.keptB (RdK'.mono hO.rd fun b _ hb => ?_) hk'
        rcases hb with hb | hb
        · have := hSe b hb; omega
        · exact (hO.2.choose_spec.1.lt b hb).1
    case stop => exact fun D c' X _ h _ => h.elim
  · have hnp : (0 : Int) < nn := by have := HLN.out; have := List.length_pos_iff.2 hne; omega
    go_wp2_with (go_at_call 78; refine (unone_made g _ c4).mono ?_; rintro e w' ⟨rfl, rfl⟩)
    rw [← HW1.out]
    have b1 : w1.cell? ⟨w.heap.size, 0, none⟩ = some (.slice none 0 0) := hb1.cell 0
    have hg1 : g < w1.heap.size := by omega
    clear e0' e1' c4
    refine wp_calm ?_
    go_region_law (first
      | ((refine stepG (.tmp 16) (.tmp 23) (by rfl) (by rfl) w.heap.size (.slice none 0 0) 0 [] (by go_simp) (World.ownsRow_nil _ _ _ _) _ (some ⟨w3.heap.size, 0, none⟩) 1 1 [.slice A3 n3 c3] (by go_simp) (Rd.one w3 _ _) (by simp [Value.oneCell']) (by unfold maxLen; omega) (by omega) (by have := hp3.size; simp; omega) ?_; intro A5 c5 w5 ho5 hp5 hat5; have hq5 : Pure w1 w5 := (hp3.alloc _).then_ hp5 (fun i _ e => by simp [Value.ownBlock] at e); have b5 : w5.cell? ⟨w.heap.size, 0, none⟩ = some (.slice none 0 0) := (hb1.pure_ hq5).cell 0; have j5 := (hb1.pure_ hq5).frozen 0; have e5 : w5.cell? ⟨g, 0, none⟩ = some (.slice Ag N cg) := (hq5.cell (p := ⟨g, 0, none⟩) hg1 (fun x => x)).trans e0))
      | (go_simp; go_at_call 79; refine (copied_any An nn cn now _ w1.drew (RdK'.pure_ hEr (Only.refl _ _).drew) hnn q6).mono ?_; rintro e w3 ⟨A3, n3, c3, Se3, rfl, hR3, hSe3, hp3'⟩; have hp3 := hp3'.ofDrew; have b3 : w3.cell? ⟨w.heap.size, 0, none⟩ = some (.slice none 0 0) := (hb1.pure_ hp3).cell 0; have e3 : w3.cell? ⟨g, 0, none⟩ = some (.slice Ag N cg) := (hp3.cell (p := ⟨g, 0, none⟩) hg1 (fun x => x)).trans e0; have e31 : w3.cell? ⟨g, 1, none⟩ = some (.slice An nn cn) := (hp3.cell (p := ⟨g, 1, none⟩) hg1 (fun x => x)).trans e1; have hb3l := Nat.lt_of_lt_of_le hb1.lt hp3.size; have hg3l := Nat.lt_of_lt_of_le hg1 hp3.size))
    all_goals
      have hfar1 : ¬ w.heap.size = g := by omega
      have hfar2 : ¬ g = w.heap.size := by omega
      go_wp2_with (go_at_call 80; refine (backG_any Ag N cg _).mono ?_; rintro e w2 ⟨rfl, hw2⟩)
      have hSx : ∀ b, (Se3 b ∨ (Value.slice A3 n3 c3).ownBlock = some b) → w1.heap.size ≤ b ∧ b < w3.heap.size := by
        rintro b (hb | hb)
        · exact ⟨hSe3 b hb, hR3.2.choose_spec.2.2.2 b hb⟩
        · exact hR3.2.choose_spec.1.lt b hb
      have hst := OwnK.step (K := grKind) (z := []) (base := w.heap.size) (w := w1) (A := none) (n := 0) (c := 0) (xs := []) (Se := fun _ => False) rfl (World.ownsRow_nil _ _ _ _) (fun j h => absurd h (by omega)) (fun _ h => h.elim) (fun _ h => h.elim) hp3 (x := now) (Sx := fun b => Se3 b ∨ (Value.slice A3 n3 c3).ownBlock = some b) ⟨A3, n3, c3, rfl, hR3.ed.rd⟩ rfl (fun b hb => ⟨(hSx b hb).2, fun e => by simp [Value.ownBlock] at e⟩) ((Only.refl (fun _ => False) _).alloc _) ho5 hp5 hat5
      have ho : Only (fun b => b = w.heap.size) w5 (w5.setCell ⟨w.heap.size, 0, none⟩ (.slice A5 1 c5)) := (Only.refl _ w5).set 0 _
      have hB5 := hb1.pure_ hq5
      have hpw5 : Pure w (w5.setCell ⟨w.heap.size, 0, none⟩ (.slice A5 1 c5)) := (hp1.trans hq5).then_ ho fun i hi e => by omega
      have hst2 := hst.only ho (fun b hb e => by rcases hb with hb | hb; exact hb; have := (hSx b hb).1; omega) (fun b hb e => row_ne_box hB5 ho5 (by decide) b hb e)
      have hw2s : (w5.setCell ⟨w.heap.size, 0, none⟩ (.slice A5 1 c5)).heap.size = w5.heap.size := by simp [World.setCell]
      have hpl : Pure (w5.setCell ⟨w.heap.size, 0, none⟩ (.slice A5 1 c5)) w2 := by rw [hw2]; exact (Only.refl _ _).alloc _
      have hp2 : Pure w w2 := hpw5.trans hpl
      have hq2 : Blk w2 w5.heap.size 75 #[.slice Ag N cg] := by rw [hw2, ← hw2s]; exact Blk.new _ _ _
      have hGr2 : RdG w2 (fun b => b < w.heap.size) Ag N cg gs := RdK'.pure_ (RdK'.only (RdK'.pure_ hGr hq5) ho fun b hb _ e => by omega) hpl
      have hj0 : (nowG now).length = 1 := by unfold nowG; rw [if_neg hne]; rfl
      have hng : nowG now = [now] := by unfold nowG; rw [if_neg hne]
      have hGat : GatG w w.heap.size 1 (nowG now) w2 := by
        rw [hng]
        refine ⟨A5, c5, fun b => False ∨ (Se3 b ∨ (Value.slice A3 n3 c3).ownBlock = some b), Blk.pure_ (show Blk (w5.setCell ⟨w.heap.size, 0, none⟩ (.slice A5 1 c5)) w.heap.size 75 #[.slice A5 1 c5] by simpa using hB5.set_ 0 (.slice A5 1 c5)) hpl, hst2.pure_ hpl, ?_, hp2, Nat.le_refl _⟩
        rintro b (hb | hb)
        · exact hb.elim
        · have := (hSx b hb).1; omega
      rw [← hw2]
      obtain ⟨Bq, hBq⟩ : ∃ Bq, Bq = w5.heap.size := ⟨_, rfl⟩
      rw [← hBq] at hq2 ⊢
      have hBl : w.heap.size < Bq := by have := hq5.size; omega
      clear hw2 hBq e0 e1 hb1 hGr hEr hp1 HW1 hs1 hst hst2 ho5 hp5 hat5 hR3 hSx hB5 hpw5 hpl hw2s hq5 b1 b3 e3 e31 b5 j5 e5 ho
      obtain ⟨j0, hj1⟩ : ∃ j0, j0 = 1 := ⟨_, rfl⟩
      rw [← hj1] at hGat hj0
      have hj2 : j0 ≤ 1 := by omega
      clear hj1
      refine wp_range2 3 (gf := 87) (lb := #[.pointer (some ⟨Bq, 0, none⟩)]) rfl (enters_of Try.func87 (by kernel_rfl) rfl) N (EntG gs (fun b => b < w.heap.size) N)
        (fun i X => Blk X Bq 75 #[.slice Ag N cg] ∧ RdG X (fun b => b < w.heap.size) Ag N cg gs ∧ GatG w w.heap.size (j0 + i) (nowG now ++ gs.reverse.take i) X)
        (fun _ _ => False)
        ?hI ?hIx ?hps (backG_iter 3 Bq Ag N cg gs _ _ hN ?hit) ⟨hq2, hGr2, by simpa using hGat⟩ ?round ?done ?stop
      case hI =>
        rintro i X Y ⟨h1, h2, Ab, cb, Se, h3, h4, h5, h6, h7⟩ kb
        exact ⟨h1.keptB kb, RdG.keptB h2 kb, Ab, cb, Se, h3.keptB kb, OwnG.keptB h4 kb, h5, h6.keptB kb hp2.size, h7⟩
      case hIx => exact fun _ _ _ h _ => h
      case hps => rintro i args X ⟨a, m, d, rfl, _⟩; rfl
      case hit => exact fun i X h => ⟨h.1, h.2.1⟩
      case round =>
        clear hq2 hGr2 hGat
        rintro l i args X K hi hC ⟨a, m, d, rfl, hx⟩ hK
        simp only [Array.zip, Array.foldl]
        gi_wp2
        refine hK _ _ (keeps_refl X) fun X2 kb => ?_
        clear hK K
        obtain ⟨hC1, hC2, Ab, cb, Se, hBx, ⟨hlg, vs, hown, hes, hd1, hd2⟩, hSe, hpX, _⟩ := hC
        have hBx2 := hBx.keptB kb
        have hC12 := hC1.keptB kb
        have hC22 := RdG.keptB hC2 kb
        have hx2 := RdE.keptB hx kb
        have hown2 := own_keptB hown kb
        have hes2 : ∀ j, j < j0 + i → grKind.rd X2 Se ((vs.drop (j * 1)).take 1) ((nowG now ++ gs.reverse.take i)[j]?.getD []) := fun j hj => grKind_kept (hes j hj) kb
        have hd22 : ∀ b, Se b → b < X2.heap.size := fun b hb => Nat.lt_of_lt_of_le (hd2 b hb) kb.size
        have hpX2 : Pure w X2 := hpX.keptB kb hp2.size
        have hXs := hpX.size
        have hX2s := hpX2.size
        have hnb : ¬ (Value.slice Ab (j0 + i) cb).ownBlock = some w.heap.size := fun e => row_ne_box hBx2 hown2 (by decide) _ e rfl
        have b0 : X2.cell? ⟨w.heap.size, 0, none⟩ = some (.slice Ab (j0 + i) cb) := hBx2.cell 0
        have hmemx : gs[N - 1 - i]?.getD [] ∈ gs := by
          rw [List.getElem?_eq_getElem (by rw [HLG.out]; omega)]
          exact List.getElem_mem _
        have hmem := (hfg _ hmemx).2
        have hm : m ≤ 16384 := by have h9 : (gs[N - 1 - i]?.getD []).length = m := hx.1; have := (hfg _ hmemx).1; omega
        have hC12l := hC12.lt
        clear hBx hC1 hC2 hes hown hpX hmemx
        gi_wp2
        have hfin : ∀ (w3 : World) (A3 : Option Addr) (n3 c3 : Nat) (Se3 : Nat → Prop) (A5 : Option Addr) (c5 : Nat) (w5 : World), OwnK (edKindO X2.heap.size) 60 3 Ed.none X2.heap.size w3 A3 n3 c3 (gs[N - 1 - i]?.getD []) Se3 → (∀ b, Se3 b → X2.heap.size ≤ b) → Pure X2 w3 →
            w5.ownsRow w.heap.size 71 1 (.slice A5 (j0 + i + 1) c5) (j0 + i + 1) (vs ++ [.slice A3 n3 c3]) →
            Only (fun b => (Value.slice Ab (j0 + i) cb).ownBlock = some b) (w3.alloc (.cells #[.slice A3 n3 c3] 71)) w5 →
            ((Value.slice A5 (j0 + i + 1) c5).ownBlock = (Value.slice Ab (j0 + i) cb).ownBlock ∨ (Value.slice A5 (j0 + i + 1) c5).ownBlock = some (w3.alloc (.cells #[.slice A3 n3 c3] 71)).heap.size) →
            KeepsOthers X2 (w5.setCell ⟨w.heap.size, 0, none⟩ (.slice A5 (j0 + i + 1) c5)) ∧ Blk (w5.setCell ⟨w.heap.size, 0, none⟩ (.slice A5 (j0 + i + 1) c5)) Bq 75 #[.slice Ag N cg] ∧ RdG (w5.setCell ⟨w.heap.size, 0, none⟩ (.slice A5 (j0 + i + 1) c5)) (fun b => b < w.heap.size) Ag N cg gs ∧
              GatG w w.heap.size (j0 + (i + 1)) (nowG now ++ gs.reverse.take (i + 1)) (w5.setCell ⟨w.heap.size, 0, none⟩ (.slice A5 (j0 + i + 1) c5)) := by
          intro w3 A3 n3 c3 Se3 A5 c5 w5 hR3 hSe3 hp3 ho5 hp5 hat5
          have hlow : ∀ b, (Value.slice Ab (j0 + i) cb).ownBlock = some b → w.heap.size < b ∧ b < X2.heap.size := fun b hb => by
            have h1 := hown2.lt b hb
            have h2 : b ≠ w.heap.size := fun e => hnb (e ▸ hb)
            exact ⟨by omega, h1.2⟩
          have hSx : ∀ b, (Se3 b ∨ (Value.slice A3 n3 c3).ownBlock = some b) → X2.heap.size ≤ b ∧ b < w3.heap.size := by
            rintro b (hb | hb)
            · exact ⟨hSe3 b hb, hR3.2.choose_spec.2.2.2 b hb⟩
            · exact hR3.2.choose_spec.1.lt b hb
          have hst := OwnK.step (K := grKind) (z := []) hlg hown2 hes2 hd1 hd22 hp3 (x := gs[N - 1 - i]?.getD []) (Sx := fun b => Se3 b ∨ (Value.slice A3 n3 c3).ownBlock = some b) ⟨A3, n3, c3, rfl, hR3.ed.rd⟩ rfl (fun b hb => ⟨(hSx b hb).2, fun e => by have := (hlow b e).2; have := (hSx b hb).1; omega⟩) ((Only.refl (fun _ => False) _).alloc _) ho5 hp5 hat5
          have hq5 : Only (fun b => (Value.slice Ab (j0 + i) cb).ownBlock = some b) X2 w5 := (Only.of_pure (hp3.trans ((Only.refl (fun _ => False) w3).alloc _))).then_ hp5 fun i _ e => e
          have ho : Only (fun b => b = w.heap.size) w5 (w5.setCell ⟨w.heap.size, 0, none⟩ (.slice A5 (j0 + i + 1) c5)) := (Only.refl _ w5).set 0 _
          have hall : Only (fun b => (Value.slice Ab (j0 + i) cb).ownBlock = some b ∨ b = w.heap.size) X2 (w5.setCell ⟨w.heap.size, 0, none⟩ (.slice A5 (j0 + i + 1) c5)) := (hq5.mono fun _ _ e => .inl e).trans (ho.mono fun _ _ e => .inr e)
          have hB5 := hBx2.only hq5 hnb
          have hl := HLG.out
          have htake : nowG now ++ gs.reverse.take (i + 1) = (nowG now ++ gs.reverse.take i) ++ [gs[N - 1 - i]?.getD []] := by
            rw [List.take_add_one, List.append_assoc]
            congr 2
            rw [List.getElem?_reverse (by omega), hl, List.getElem?_eq_getElem (by omega)]
            rfl
          refine ⟨keeps_only hall ?_, hC12.only hall ?_, RdK'.only hC22 hall ?_, A5, c5, fun b => Se b ∨ (Se3 b ∨ (Value.slice A3 n3 c3).ownBlock = some b), by simpa [Nat.add_assoc] using hB5.set_ 0 (.slice A5 (j0 + i + 1) c5), ?_, ?_, hpX2.then_ hall ?_, Nat.le_refl _⟩
          · rintro b (hb | rfl) _
            · rcases hown2.2 with ⟨e, _⟩ | ⟨g, cap, cur, e, _, hh, _⟩
              · rw [e] at hb; simp [Value.ownBlock] at hb
              · rw [e] at hb; simp [Value.ownBlock] at hb; subst hb; exact ⟨_, _, _, hh⟩
            · exact ⟨_, _, _, hBx2⟩
          · rintro (hb | hb)
            · exact row_ne_box hC12 hown2 (by decide) _ hb rfl
            · omega
          · rintro b hb _ (h | h)
            · have := (hlow b h).1; omega
            · omega
          · rw [htake]
            refine hst.only ho (fun b hb e => ?_) (fun b hb e => row_ne_box hB5 ho5 (by decide) b hb e)
            rcases hb with hb | hb
            · have := hSe b hb; omega
            · have := (hSx b hb).1; omega
          · rintro b (hb | hb)
            · exact hSe b hb
            · have := (hSx b hb).1; omega
          · rintro b hb (h | h)
            · have := (hlow b h).1; omega
            · omega
        have hj0I : (j0 : Int) ≤ 1 := by omega
        have hiI : (i : Int) ≤ 16384 := by omega
        refine region_in (by kernel_rfl) (by kernel_rfl) (by rintro ⟨_, _, h⟩; exact h) ?_
        refine wpAny_ready (rs := [0, 1]) (by kernel_rfl) (by simp) ?_
        refine AllReady.cons rfl (fun Kr hKr => ?_) (AllReady.cons rfl (fun Kr hKr => ?_) AllReady.nil)
        · go_simp
          refine hKr _ _ ?_
          clear hKr Kr
          refine wpAny_ready (rs := [1]) (by kernel_rfl) (by simp) ?_
          refine AllReady.cons rfl (fun Kr hKr => ?_) AllReady.nil
          go_simp
          refine hKr _ _ ?_
          clear hKr Kr
          refine wpAny_ready (rs := [2]) (by kernel_rfl) (by simp) ?_
          refine AllReady.cons rfl (fun Kr hKr => ?_) AllReady.nil
          go_simp
          go_at_call 79
          refine (copied_any a m d (gs[N - 1 - i]?.getD []) _ X2.drew (RdK'.pure_ hx2 (Only.refl _ _).drew) hm hmem).mono ?_
          rintro e w3 ⟨A3, n3, c3, Se3, rfl, hR3, hSe3, hp3'⟩
          have hp3 := hp3'.ofDrew
          have hlt3 := Nat.lt_of_lt_of_le hBx2.lt hp3.size
          have b3 := (hp3.cell (p := ⟨w.heap.size, 0, none⟩) hBx2.lt (fun x => x)).trans b0
          try go_simp
          refine hKr _ _ ?_
          clear hKr Kr
          refine wpAny_ready (rs := [3]) (by kernel_rfl) (by simp) ?_
          refine AllReady.cons rfl (fun Kr hKr => ?_) AllReady.nil
          go_simp
          refine hKr _ _ ?_
          clear hKr Kr
          refine wpAny_ready (rs := [4]) (by kernel_rfl) (by simp) ?_
          refine AllReady.cons rfl (fun Kr hKr => ?_) AllReady.nil
          refine stepG (.tmp 33) (.tmp 36) (by rfl) (by rfl) w.heap.size (.slice Ab (j0 + i) cb) (j0 + i) vs (by go_simp) (own_only hown2 (hp3.trans ((Only.refl (fun _ => False) w3).alloc _)) fun _ _ x => x) _ (some ⟨w3.heap.size, 0, none⟩) 1 1 [.slice A3 n3 c3] (by go_simp) (Rd.one w3 _ _) (by simp [Value.oneCell']) (by unfold maxLen; omega) (by omega) (by have := hp3.size; simp; omega) ?_
          intro A5 c5 w5 ho5 hp5 hat5
          have hq5 : Only (fun b => (Value.slice Ab (j0 + i) cb).ownBlock = some b) X2 w5 := (Only.of_pure (hp3.trans ((Only.refl (fun _ => False) w3).alloc _))).then_ hp5 fun i _ e => e
          have hB5 := hBx2.only hq5 hnb
          have i0 : w5.cell? ⟨w.heap.size, 0, none⟩ = some (.slice Ab (j0 + i) cb) := hB5.cell 0
          have j00 := hB5.frozen 0
          try go_simp
          refine hKr _ _ ?_
          clear hKr Kr
          refine wpAny_ready (rs := [5]) (by kernel_rfl) (by simp) ?_
          refine AllReady.cons rfl (fun Kr hKr => ?_) AllReady.nil
          go_simp
          refine hKr _ _ ?_
          clear hKr Kr
          refine wpAny_done (by kernel_rfl) ?_ _
          exact hfin w3 A3 n3 c3 Se3 A5 c5 w5 hR3 hSe3 hp3 ho5 hp5 hat5
        · go_simp
          refine hKr _ _ ?_
          clear hKr Kr
          refine wpAny_ready (rs := [0, 2]) (by kernel_rfl) (by simp) ?_
          refine AllReady.cons rfl (fun Kr hKr => ?_) (AllReady.cons rfl (fun Kr hKr => ?_) AllReady.nil)
          · go_simp
            refine hKr _ _ ?_
            clear hKr Kr
            refine wpAny_ready (rs := [2]) (by kernel_rfl) (by simp) ?_
            refine AllReady.cons rfl (fun Kr hKr => ?_) AllReady.nil
            go_simp
            go_at_call 79
            refine (copied_any a m d (gs[N - 1 - i]?.getD []) _ X2.drew (RdK'.pure_ hx2 (Only.refl _ _).drew) hm hmem).mono ?_
            rintro e w3 ⟨A3, n3, c3, Se3, rfl, hR3, hSe3, hp3'⟩
            have hp3 := hp3'.ofDrew
            have hlt3 := Nat.lt_of_lt_of_le hBx2.lt hp3.size
            have b3 := (hp3.cell (p := ⟨w.heap.size, 0, none⟩) hBx2.lt (fun x => x)).trans b0
            try go_simp
            refine hKr _ _ ?_
            clear hKr Kr
            refine wpAny_ready (rs := [3]) (by kernel_rfl) (by simp) ?_
            refine AllReady.cons rfl (fun Kr hKr => ?_) AllReady.nil
            go_simp
            refine hKr _ _ ?_
            clear hKr Kr
            refine wpAny_ready (rs := [4]) (by kernel_rfl) (by simp) ?_
            refine AllReady.cons rfl (fun Kr hKr => ?_) AllReady.nil
            refine stepG (.tmp 33) (.tmp 36) (by rfl) (by rfl) w.heap.size (.slice Ab (j0 + i) cb) (j0 + i) vs (by go_simp) (own_only hown2 (hp3.trans ((Only.refl (fun _ => False) w3).alloc _)) fun _ _ x => x) _ (some ⟨w3.heap.size, 0, none⟩) 1 1 [.slice A3 n3 c3] (by go_simp) (Rd.one w3 _ _) (by simp [Value.oneCell']) (by unfold maxLen; omega) (by omega) (by have := hp3.size; simp; omega) ?_
            intro A5 c5 w5 ho5 hp5 hat5
            have hq5 : Only (fun b => (Value.slice Ab (j0 + i) cb).ownBlock = some b) X2 w5 := (Only.of_pure (hp3.trans ((Only.refl (fun _ => False) w3).alloc _))).then_ hp5 fun i _ e => e
            have hB5 := hBx2.only hq5 hnb
            have i0 : w5.cell? ⟨w.heap.size, 0, none⟩ = some (.slice Ab (j0 + i) cb) := hB5.cell 0
            have j00 := hB5.frozen 0
            try go_simp
            refine hKr _ _ ?_
            clear hKr Kr
            refine wpAny_ready (rs := [5]) (by kernel_rfl) (by simp) ?_
            refine AllReady.cons rfl (fun Kr hKr => ?_) AllReady.nil
            go_simp
            refine hKr _ _ ?_
            clear hKr Kr
            refine wpAny_done (by kernel_rfl) ?_ _
            exact hfin w3 A3 n3 c3 Se3 A5 c5 w5 hR3 hSe3 hp3 ho5 hp5 hat5
          · go_simp
            go_at_call 79
            refine (copied_any a m d (gs[N - 1 - i]?.getD []) _ X2.drew (RdK'.pure_ hx2 (Only.refl _ _).drew) hm hmem).mono ?_
            rintro e w3 ⟨A3, n3, c3, Se3, rfl, hR3, hSe3, hp3'⟩
            have hp3 := hp3'.ofDrew
            have hlt3 := Nat.lt_of_lt_of_le hBx2.lt hp3.size
            have b3 := (hp3.cell (p := ⟨w.heap.size, 0, none⟩) hBx2.lt (fun x => x)).trans b0
            try go_simp
            refine hKr _ _ ?_
            clear hKr Kr
            refine wpAny_ready (rs := [0, 3]) (by kernel_rfl) (by simp) ?_
            refine AllReady.cons rfl (fun Kr hKr => ?_) (AllReady.cons rfl (fun Kr hKr => ?_) AllReady.nil)
            · go_simp
              refine hKr _ _ ?_
              clear hKr Kr
              refine wpAny_ready (rs := [3]) (by kernel_rfl) (by simp) ?_
              refine AllReady.cons rfl (fun Kr hKr => ?_) AllReady.nil
              go_simp
              refine hKr _ _ ?_
              clear hKr Kr
              refine wpAny_ready (rs := [4]) (by kernel_rfl) (by simp) ?_
              refine AllReady.cons rfl (fun Kr hKr => ?_) AllReady.nil
              refine stepG (.tmp 33) (.tmp 36) (by rfl) (by rfl) w.heap.size (.slice Ab (j0 + i) cb) (j0 + i) vs (by go_simp) (own_only hown2 (hp3.trans ((Only.refl (fun _ => False) w3).alloc _)) fun _ _ x => x) _ (some ⟨w3.heap.size, 0, none⟩) 1 1 [.slice A3 n3 c3] (by go_simp) (Rd.one w3 _ _) (by simp [Value.oneCell']) (by unfold maxLen; omega) (by omega) (by have := hp3.size; simp; omega) ?_
              intro A5 c5 w5 ho5 hp5 hat5
              have hq5 : Only (fun b => (Value.slice Ab (j0 + i) cb).ownBlock = some b) X2 w5 := (Only.of_pure (hp3.trans ((Only.refl (fun _ => False) w3).alloc _))).then_ hp5 fun i _ e => e
              have hB5 := hBx2.only hq5 hnb
              have i0 : w5.cell? ⟨w.heap.size, 0, none⟩ = some (.slice Ab (j0 + i) cb) := hB5.cell 0
              have j00 := hB5.frozen 0
              try go_simp
              refine hKr _ _ ?_
              clear hKr Kr
              refine wpAny_ready (rs := [5]) (by kernel_rfl) (by simp) ?_
              refine AllReady.cons rfl (fun Kr hKr => ?_) AllReady.nil
              go_simp
              refine hKr _ _ ?_
              clear hKr Kr
              refine wpAny_done (by kernel_rfl) ?_ _
              exact hfin w3 A3 n3 c3 Se3 A5 c5 w5 hR3 hSe3 hp3 ho5 hp5 hat5
            · go_simp
              refine hKr _ _ ?_
              clear hKr Kr
              refine wpAny_ready (rs := [0]) (by kernel_rfl) (by simp) ?_
              refine AllReady.cons rfl (fun Kr hKr => ?_) AllReady.nil
              go_simp
              refine hKr _ _ ?_
              clear hKr Kr
              refine wpAny_ready (rs := [4]) (by kernel_rfl) (by simp) ?_
              refine AllReady.cons rfl (fun Kr hKr => ?_) AllReady.nil
              refine stepG (.tmp 33) (.tmp 36) (by rfl) (by rfl) w.heap.size (.slice Ab (j0 + i) cb) (j0 + i) vs (by go_simp) (own_only hown2 (hp3.trans ((Only.refl (fun _ => False) w3).alloc _)) fun _ _ x => x) _ (some ⟨w3.heap.size, 0, none⟩) 1 1 [.slice A3 n3 c3] (by go_simp) (Rd.one w3 _ _) (by simp [Value.oneCell']) (by unfold maxLen; omega) (by omega) (by have := hp3.size; simp; omega) ?_
              intro A5 c5 w5 ho5 hp5 hat5
              have hq5 : Only (fun b => (Value.slice Ab (j0 + i) cb).ownBlock = some b) X2 w5 := (Only.of_pure (hp3.trans ((Only.refl (fun _ => False) w3).alloc _))).then_ hp5 fun i _ e => e
              have hB5 := hBx2.only hq5 hnb
              have i0 : w5.cell? ⟨w.heap.size, 0, none⟩ = some (.slice Ab (j0 + i) cb) := hB5.cell 0
              have j00 := hB5.frozen 0
              try go_simp
              refine hKr _ _ ?_
              clear hKr Kr
              refine wpAny_ready (rs := [5]) (by kernel_rfl) (by simp) ?_
              refine AllReady.cons rfl (fun Kr hKr => ?_) AllReady.nil
              go_simp
              refine hKr _ _ ?_
              clear hKr Kr
              refine wpAny_done (by kernel_rfl) ?_ _
              exact hfin w3 A3 n3 c3 Se3 A5 c5 w5 hR3 hSe3 hp3 ho5 hp5 hat5
      case done =>
        intro D X hD hC hk
        simp only [Exit.inBlock, Exit.then]
        obtain ⟨hC1, hC2, Ab, cb, Se, hBx, hO, hSe, hpX, _⟩ := hC
        go_wp2
        refine leave_marks (B := w.heap.size) [D] _ ⟨by simp, fun D' hD' => ?_⟩ fun W' hk' => ⟨_, results_tmp rfl _ _ _, ?_⟩
        · obtain rfl : D' = D := by simpa using hD'
          have := hp2.size
          exact ⟨by omega, hk⟩
        · have hall : nowG now ++ gs.reverse.take N = allG gs now := by unfold allG; rw [List.take_of_length_le (by simp [HLG.out])]
          have hlen : (allG gs now).length = j0 + N := by unfold allG; rw [List.length_append, hj0, List.length_reverse, HLG.out]
          rw [hall] at hO
          refine ⟨w.heap.size, Ab, cb, rfl, Nat.le_refl _, by rw [hlen]; exact hBx.keptB hk', ?_, hpX.keptB hk' (Nat.le_refl _)⟩
          rw [hlen]
          refine RdG.keptB (RdK'.mono hO.rd fun b _ hb => ?_) hk'
          rcases hb with hb | hb
          · have := hSe b hb; omega
          · exact (hO.2.choose_spec.1.lt b hb).1
      case stop => exact fun D c' X _ h _ => h.elim

end Go.Proofs.Ytinlpmgchcbjpaa
