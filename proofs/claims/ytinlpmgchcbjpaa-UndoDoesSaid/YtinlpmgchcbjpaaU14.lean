/- The inverses of a list of edits, the last one first. -/
import Derived.Test.YtinlpmgchcbjpaaU13
import Derived.Test.YtinlpmgchcbjpaaRg
import Derived.Deep.DrawnRows
namespace Go.Proofs.Ytinlpmgchcbjpaa
open Go Go.RowKit
set_option maxHeartbeats 1000000
set_option maxRecDepth 100000
attribute [local go_sem] Oper.semAt_some
attribute [local go_sem ↓] Go.wp_at_zero Go.wp_at_succ

def invs (es : List Ed) : List Ed := es.reverse.map Ed.inv

/-- While edits are gathered: the box holds a row of the call's own. -/
def GatE (w : World) (box k : Nat) (out : List Ed) (X : World) : Prop :=
  ∃ A c Se, Blk X box 71 #[.slice A k c] ∧ OwnE w.heap.size X A k c out Se ∧ (∀ b, Se b → box < b) ∧ Pure w X ∧ w.heap.size ≤ box

def OutE (w : World) (es : List Ed) (e : Ending) (w' : World) : Prop :=
  ∃ A n c, e = .returned (.slice A n c) ∧ RdE w' (fun b => w.heap.size ≤ b) A n c es ∧ Pure w w'

theorem inverses_any (A : Option Addr) (N c : Nat) (es : List Ed) (S : Nat → Prop) (w : World) (hL : RdE w S A N c es) (hN : N ≤ 16384) (hf : ∀ e ∈ es, e.fit) :
    Calls Try.prog 83 #[.slice A N c] w (OutE w (invs es)) := by
  have hNI : (N : Int) ≤ 16384 := by omega
  refine calls_of_wp_marks Try.func83 rfl ?_
  simp only [Try.ntmps83, List.size_toArray, List.length_cons, List.length_nil, Nat.reduceAdd, Nat.reduceSub, Array.replicate_succ, Array.replicate_zero, List.push_toArray, List.append_toArray, List.nil_append, List.cons_append]
  go_wp2_with (go_at_call 88; refine (backE_any A N c _).mono ?_; rintro e w' ⟨rfl, rfl⟩)
  obtain ⟨w1, hw1⟩ : ∃ w1, w1 = w.alloc (.cells #[.slice none 0 0] 71) := ⟨_, rfl⟩
  rw [← hw1]
  have hp1 : Pure w w1 := by rw [hw1]; exact (Only.refl _ w).alloc _
  have hb1 : Blk w1 w.heap.size 71 #[.slice none 0 0] := by rw [hw1]; exact Blk.new _ _ _
  have hs1 : w1.heap.size = w.heap.size + 1 := by rw [hw1]; simp
  clear hw1
  obtain ⟨w2, hw2⟩ : ∃ w2, w2 = w1.alloc (.cells #[.slice A N c] 71) := ⟨_, rfl⟩
  rw [← hw2]
  have hp2 : Pure w1 w2 := by rw [hw2]; exact (Only.refl _ w1).alloc _
  have hb2 : Blk w2 w1.heap.size 71 #[.slice A N c] := by rw [hw2]; exact Blk.new _ _ _
  clear hw2
  rw [hs1] at hb2
  have hG0 : GatE w w.heap.size 0 [] w2 := ⟨none, 0, fun _ => False, hb1.pure_ hp2, OwnK.nil _ _, fun _ h => h.elim, hp1.trans hp2, Nat.le_refl _⟩
  refine wp_range2 3 (gf := 89) (lb := #[.pointer (some ⟨w.heap.size + 1, 0, none⟩)]) rfl (enters_of Try.func89 (by kernel_rfl) rfl) N (EntE es (fun b => S b ∧ b < w.heap.size) N)
    (fun i X => Blk X (w.heap.size + 1) 71 #[.slice A N c] ∧ RdE X (fun b => S b ∧ b < w.heap.size) A N c es ∧ GatE w w.heap.size i ((invs es).take i) X)
    (fun _ _ => False)
    ?hI ?hIx ?hps (backE_iter 3 (w.heap.size + 1) A N c es _ _ hN ?hit) ⟨hb2, ((hL.mono fun b hb hS => ⟨hS, hb⟩).pure_ hp1).pure_ hp2, hG0⟩ ?round ?done ?stop
  case hI =>
    rintro i X Y ⟨h1, h2, Ag, cg, Se, h3, h4, h5, h6, h7⟩ kb
    exact ⟨h1.keptB kb, RdE.keptB h2 kb, Ag, cg, Se, h3.keptB kb, OwnE.keptB h4 kb, h5, h6.keptB kb (by have := hp2.size; omega), h7⟩
  case hIx => exact fun _ _ _ h _ => h
  case hps => rintro i args X ⟨a, m, d, a', m', d', rfl, _, _⟩; rfl
  case hit => exact fun i X h => ⟨h.1, h.2.1⟩
  case round =>
    rintro l i args X K hi hC ⟨a, m, d, a', m', d', rfl, hx, hy⟩ hK
    simp only [Array.zip, Array.foldl]
    gi_wp2
    have hpa : Pure X (X.alloc (.cells #[.int .i64 (es[N - 1 - i]?.getD Ed.none).at_, .slice a m d, .slice a' m' d'] 60)) := (Only.refl _ X).alloc _
    refine hK _ _ (keeps_pure hpa) fun X2 kb => ?_
    clear hK K
    obtain ⟨hC1, hC2, Ag, cg, Se, hBx, ⟨hlg, vs, hown, hes, hd1, hd2⟩, hSe, hpX, _⟩ := hC
    have hBx2 := (hBx.pure_ hpa).keptB kb
    have hC12 := (hC1.pure_ hpa).keptB kb
    have hC22 := RdE.keptB (RdK'.pure_ hC2 hpa) kb
    have hb5 := (Blk.new X 60 #[.int .i64 (es[N - 1 - i]?.getD Ed.none).at_, .slice a m d, .slice a' m' d']).keptB kb
    have hx2 := (hx.pure_ hpa).keptB kb
    have hy2 := (hy.pure_ hpa).keptB kb
    have hown2 := own_keptB (own_only hown hpa fun _ _ x => x) kb
    have hes2 : ∀ j, j < i → edKind.rd X2 Se ((vs.drop (j * 3)).take 3) (((invs es).take i)[j]?.getD Ed.none) := fun j hj => edKind_kept (edKind.pure_ (hes j hj) hpa) kb
    have hd22 : ∀ b, Se b → b < X2.heap.size := fun b hb => Nat.lt_of_lt_of_le (hd2 b hb) (Nat.le_trans hpa.size kb.size)
    have hpX2 : Pure w X2 := (hpX.trans hpa).keptB kb (by have := hp1.size; have := hp2.size; omega)
    have hXs := hpX.size
    have hX2s := hpX2.size
    have hnb : ¬ (Value.slice Ag i cg).ownBlock = some w.heap.size := fun e => row_ne_box hBx2 hown2 (by decide) _ e rfl
    have b0 : X2.cell? ⟨w.heap.size, 0, none⟩ = some (.slice Ag i cg) := hBx2.cell 0
    have e0 : X2.cell? ⟨X.heap.size, 0, none⟩ = some (.int .i64 (es[N - 1 - i]?.getD Ed.none).at_) := hb5.cell 0
    have e1 : X2.cell? ⟨X.heap.size, 1, none⟩ = some (.slice a m d) := hb5.cell 1
    have e2 : X2.cell? ⟨X.heap.size, 2, none⟩ = some (.slice a' m' d') := hb5.cell 2
    have hmem : (es[N - 1 - i]?.getD Ed.none).fit := by
      have := hL.len
      rw [List.getElem?_eq_getElem (by omega)]
      exact hf _ (List.getElem_mem _)
    have hm : small m := by rw [← hx.len]; exact hmem.1
    have hm' : small m' := by rw [← hy.len]; exact hmem.2
    have HBx := hid hBx
    clear hBx hC1 hC2 hb5 hmem hes hown hpX
    gi_wp2
    have hfin : ∀ (w3 : World) (A3 : Option Addr) (n3 c3 : Nat) (A4 : Option Addr) (n4 c4 : Nat) (A5 : Option Addr) (c5 : Nat) (w5 : World), RdI w3 (fun b => X2.heap.size ≤ b) A3 n3 c3 (es[N - 1 - i]?.getD Ed.none).ins → RdI w3 (fun b => X2.heap.size ≤ b) A4 n4 c4 (es[N - 1 - i]?.getD Ed.none).del → Pure X2 w3 →
        w5.ownsRow w.heap.size 60 3 (.slice A5 (i + 1) c5) (i + 1) (vs ++ [.int .i64 (es[N - 1 - i]?.getD Ed.none).at_, .slice A3 n3 c3, .slice A4 n4 c4]) →
        Only (fun b => (Value.slice Ag i cg).ownBlock = some b) (w3.alloc (.cells #[.int .i64 (es[N - 1 - i]?.getD Ed.none).at_, .slice A3 n3 c3, .slice A4 n4 c4] 60)) w5 →
        ((Value.slice A5 (i + 1) c5).ownBlock = (Value.slice Ag i cg).ownBlock ∨ (Value.slice A5 (i + 1) c5).ownBlock = some (w3.alloc (.cells #[.int .i64 (es[N - 1 - i]?.getD Ed.none).at_, .slice A3 n3 c3, .slice A4 n4 c4] 60)).heap.size) →
        KeepsOthers X2 (w5.setCell ⟨w.heap.size, 0, none⟩ (.slice A5 (i + 1) c5)) ∧ Blk (w5.setCell ⟨w.heap.size, 0, none⟩ (.slice A5 (i + 1) c5)) (w.heap.size + 1) 71 #[.slice A N c] ∧ RdE (w5.setCell ⟨w.heap.size, 0, none⟩ (.slice A5 (i + 1) c5)) (fun b => S b ∧ b < w.heap.size) A N c es ∧
          GatE w w.heap.size (i + 1) ((invs es).take (i + 1)) (w5.setCell ⟨w.heap.size, 0, none⟩ (.slice A5 (i + 1) c5)) := by
      intro w3 A3 n3 c3 A4 n4 c4 A5 c5 w5 hR3 hR4 hp3 ho5 hp5 hat5
      have hR3t := RdI.mono hR3 (S' := fun b => X2.heap.size ≤ b ∧ b < w3.heap.size) fun b hb h => ⟨h, hb⟩
      have hR4t := RdI.mono hR4 (S' := fun b => X2.heap.size ≤ b ∧ b < w3.heap.size) fun b hb h => ⟨h, hb⟩
      have hlow : ∀ b, (Value.slice Ag i cg).ownBlock = some b → w.heap.size < b ∧ b < X2.heap.size := fun b hb => by
        have h1 := hown2.lt b hb
        have h2 : b ≠ w.heap.size := fun e => hnb (e ▸ hb)
        exact ⟨by omega, h1.2⟩
      have hst := OwnK.step (K := edKind) (z := Ed.none) hlg hown2 hes2 hd1 hd22 hp3 (x := (es[N - 1 - i]?.getD Ed.none).inv) (Sx := fun b => X2.heap.size ≤ b ∧ b < w3.heap.size) ⟨A3, n3, c3, A4, n4, c4, rfl, hR3t, hR4t⟩ rfl (fun b hb => ⟨hb.2, fun e => by have := (hlow b e).2; omega⟩) ((Only.refl (fun _ => False) _).alloc _) ho5 hp5 hat5
      have hq5 : Only (fun b => (Value.slice Ag i cg).ownBlock = some b) X2 w5 := (Only.of_pure (hp3.trans ((Only.refl (fun _ => False) w3).alloc _))).then_ hp5 fun i _ e => e
      have ho : Only (fun b => b = w.heap.size) w5 (w5.setCell ⟨w.heap.size, 0, none⟩ (.slice A5 (i + 1) c5)) := (Only.refl _ w5).set 0 _
      have hall : Only (fun b => (Value.slice Ag i cg).ownBlock = some b ∨ b = w.heap.size) X2 (w5.setCell ⟨w.heap.size, 0, none⟩ (.slice A5 (i + 1) c5)) := (hq5.mono fun _ _ e => .inl e).trans (ho.mono fun _ _ e => .inr e)
      have hB5 := hBx2.only hq5 hnb
      have hl := hL.len
      have htake : (invs es).take (i + 1) = (invs es).take i ++ [(es[N - 1 - i]?.getD Ed.none).inv] := by
        rw [List.take_add_one]
        congr 1
        unfold invs
        rw [List.getElem?_map, List.getElem?_reverse (by omega), hl, List.getElem?_eq_getElem (by omega)]
        rfl
      have hX1 : w.heap.size + 1 < X2.heap.size := hC12.lt
      refine ⟨keeps_only hall ?_, hC12.only hall ?_, RdK'.only hC22 hall ?_, A5, c5, fun b => Se b ∨ X2.heap.size ≤ b ∧ b < w3.heap.size, by simpa using hB5.set_ 0 (.slice A5 (i + 1) c5), ?_, ?_, hpX2.then_ hall ?_, Nat.le_refl _⟩
      · rintro b (hb | rfl) _
        · rcases hown2.2 with ⟨e, _⟩ | ⟨g, cap, cur, e, _, hh, _⟩
          · rw [e] at hb; simp [Value.ownBlock] at hb
          · rw [e] at hb; simp [Value.ownBlock] at hb; subst hb; exact ⟨_, _, _, hh⟩
        · exact ⟨_, _, _, hBx2⟩
      · rintro (hb | hb)
        · exact row_ne_box hC12 hown2 (by decide) _ hb rfl
        · omega
      · rintro b hb _ (h | h)
        · have := (hlow b h).1; have := hb.2; omega
        · have := hb.2; omega
      · rw [htake]
        refine hst.only ho (fun b hb e => ?_) (fun b hb e => row_ne_box hB5 ho5 (by decide) b hb e)
        rcases hb with hb | hb
        · have := hSe b hb; omega
        · omega
      · rintro b (hb | hb)
        · exact hSe b hb
        · omega
      · rintro b hb (h | h)
        · have := (hlow b h).1; omega
        · omega
    refine region_in (by kernel_rfl) (by kernel_rfl) (by rintro ⟨_, _, h⟩; exact h) ?_
    refine wpAny_ready (rs := [0, 1]) (by kernel_rfl) (by simp) ?_
    refine AllReady.cons rfl (fun Kr hKr => ?_) (AllReady.cons rfl (fun Kr hKr => ?_) AllReady.nil)
    · go_simp
      refine hKr _ _ ?_
      clear hKr Kr
      refine wpAny_ready (rs := [1]) (by kernel_rfl) (by simp) ?_
      refine AllReady.cons rfl (fun Kr hKr => ?_) AllReady.nil
      go_simp
      refine hKr _ _ ?_
      clear hKr Kr
      refine wpAny_ready (rs := [2]) (by kernel_rfl) (by simp) ?_
      refine AllReady.cons rfl (fun Kr hKr => ?_) AllReady.nil
      go_simp
      go_at_call 37
      refine (inv_edit (es[N - 1 - i]?.getD Ed.none).at_ a m d _ a' m' d' _ _ _ X2.drew (hx2.pure_ (Only.refl _ _).drew) (hy2.pure_ (Only.refl _ _).drew) hm hm').mono ?_
      rintro e w3 ⟨A3, n3, c3, A4, n4, c4, rfl, hR3, hR4, hp3⟩
      have hp3' := hp3.ofDrew
      have hlt3 := Nat.lt_of_lt_of_le hBx2.lt hp3'.size
      have b3 := (hp3'.cell (p := ⟨w.heap.size, 0, none⟩) hBx2.lt (fun x => x)).trans b0
      try go_simp
      refine hKr _ _ ?_
      clear hKr Kr
      refine wpAny_ready (rs := [3]) (by kernel_rfl) (by simp) ?_
      refine AllReady.cons rfl (fun Kr hKr => ?_) AllReady.nil
      go_simp
      refine hKr _ _ ?_
      clear hKr Kr
      refine wpAny_ready (rs := [4]) (by kernel_rfl) (by simp) ?_
      refine AllReady.cons rfl (fun Kr hKr => ?_) AllReady.nil
      refine stepE (.tmp 10) (.tmp 13) (by rfl) (by rfl) w.heap.size (.slice Ag i cg) i vs (by go_simp) (own_only hown2 (hp3'.trans ((Only.refl (fun _ => False) w3).alloc _)) fun _ _ x => x) _ (some ⟨w3.heap.size, 0, none⟩) 1 1 [.int .i64 (es[N - 1 - i]?.getD Ed.none).at_, .slice A3 n3 c3, .slice A4 n4 c4] (by go_simp) (Rd.row w3 60 #[.int .i64 (es[N - 1 - i]?.getD Ed.none).at_, .slice A3 n3 c3, .slice A4 n4 c4]) (by simp [Value.oneCell']) (by unfold maxLen; omega) (by omega) (by have := hp3'.size; simp; omega) ?_
      intro A5 c5 w5 ho5 hp5 hat5
      have hq5 : Only (fun b => (Value.slice Ag i cg).ownBlock = some b) X2 w5 := (Only.of_pure (hp3'.trans ((Only.refl (fun _ => False) w3).alloc _))).then_ hp5 fun i _ e => e
      have hB5 := hBx2.only hq5 hnb
      have i0 : w5.cell? ⟨w.heap.size, 0, none⟩ = some (.slice Ag i cg) := hB5.cell 0
      have j0 := hB5.frozen 0
      try go_simp
      refine hKr _ _ ?_
      clear hKr Kr
      refine wpAny_ready (rs := [5]) (by kernel_rfl) (by simp) ?_
      refine AllReady.cons rfl (fun Kr hKr => ?_) AllReady.nil
      go_simp
      refine hKr _ _ ?_
      clear hKr Kr
      refine wpAny_done (by kernel_rfl) ?_ _
      exact hfin w3 A3 n3 c3 A4 n4 c4 A5 c5 w5 hR3 hR4 hp3' ho5 hp5 hat5
    · go_simp
      refine hKr _ _ ?_
      clear hKr Kr
      refine wpAny_ready (rs := [0, 2]) (by kernel_rfl) (by simp) ?_
      refine AllReady.cons rfl (fun Kr hKr => ?_) (AllReady.cons rfl (fun Kr hKr => ?_) AllReady.nil)
      · go_simp
        refine hKr _ _ ?_
        clear hKr Kr
        refine wpAny_ready (rs := [2]) (by kernel_rfl) (by simp) ?_
        refine AllReady.cons rfl (fun Kr hKr => ?_) AllReady.nil
        go_simp
        go_at_call 37
        refine (inv_edit (es[N - 1 - i]?.getD Ed.none).at_ a m d _ a' m' d' _ _ _ X2.drew (hx2.pure_ (Only.refl _ _).drew) (hy2.pure_ (Only.refl _ _).drew) hm hm').mono ?_
        rintro e w3 ⟨A3, n3, c3, A4, n4, c4, rfl, hR3, hR4, hp3⟩
        have hp3' := hp3.ofDrew
        have hlt3 := Nat.lt_of_lt_of_le hBx2.lt hp3'.size
        have b3 := (hp3'.cell (p := ⟨w.heap.size, 0, none⟩) hBx2.lt (fun x => x)).trans b0
        try go_simp
        refine hKr _ _ ?_
        clear hKr Kr
        refine wpAny_ready (rs := [3]) (by kernel_rfl) (by simp) ?_
        refine AllReady.cons rfl (fun Kr hKr => ?_) AllReady.nil
        go_simp
        refine hKr _ _ ?_
        clear hKr Kr
        refine wpAny_ready (rs := [4]) (by kernel_rfl) (by simp) ?_
        refine AllReady.cons rfl (fun Kr hKr => ?_) AllReady.nil
        refine stepE (.tmp 10) (.tmp 13) (by rfl) (by rfl) w.heap.size (.slice Ag i cg) i vs (by go_simp) (own_only hown2 (hp3'.trans ((Only.refl (fun _ => False) w3).alloc _)) fun _ _ x => x) _ (some ⟨w3.heap.size, 0, none⟩) 1 1 [.int .i64 (es[N - 1 - i]?.getD Ed.none).at_, .slice A3 n3 c3, .slice A4 n4 c4] (by go_simp) (Rd.row w3 60 #[.int .i64 (es[N - 1 - i]?.getD Ed.none).at_, .slice A3 n3 c3, .slice A4 n4 c4]) (by simp [Value.oneCell']) (by unfold maxLen; omega) (by omega) (by have := hp3'.size; simp; omega) ?_
        intro A5 c5 w5 ho5 hp5 hat5
        have hq5 : Only (fun b => (Value.slice Ag i cg).ownBlock = some b) X2 w5 := (Only.of_pure (hp3'.trans ((Only.refl (fun _ => False) w3).alloc _))).then_ hp5 fun i _ e => e
        have hB5 := hBx2.only hq5 hnb
        have i0 : w5.cell? ⟨w.heap.size, 0, none⟩ = some (.slice Ag i cg) := hB5.cell 0
        have j0 := hB5.frozen 0
        try go_simp
        refine hKr _ _ ?_
        clear hKr Kr
        refine wpAny_ready (rs := [5]) (by kernel_rfl) (by simp) ?_
        refine AllReady.cons rfl (fun Kr hKr => ?_) AllReady.nil
        go_simp
        refine hKr _ _ ?_
        clear hKr Kr
        refine wpAny_done (by kernel_rfl) ?_ _
        exact hfin w3 A3 n3 c3 A4 n4 c4 A5 c5 w5 hR3 hR4 hp3' ho5 hp5 hat5
      · go_simp
        go_at_call 37
        refine (inv_edit (es[N - 1 - i]?.getD Ed.none).at_ a m d _ a' m' d' _ _ _ X2.drew (hx2.pure_ (Only.refl _ _).drew) (hy2.pure_ (Only.refl _ _).drew) hm hm').mono ?_
        rintro e w3 ⟨A3, n3, c3, A4, n4, c4, rfl, hR3, hR4, hp3⟩
        have hp3' := hp3.ofDrew
        have hlt3 := Nat.lt_of_lt_of_le hBx2.lt hp3'.size
        have b3 := (hp3'.cell (p := ⟨w.heap.size, 0, none⟩) hBx2.lt (fun x => x)).trans b0
        try go_simp
        refine hKr _ _ ?_
        clear hKr Kr
        refine wpAny_ready (rs := [0, 3]) (by kernel_rfl) (by simp) ?_
        refine AllReady.cons rfl (fun Kr hKr => ?_) (AllReady.cons rfl (fun Kr hKr => ?_) AllReady.nil)
        · go_simp
          refine hKr _ _ ?_
          clear hKr Kr
          refine wpAny_ready (rs := [3]) (by kernel_rfl) (by simp) ?_
          refine AllReady.cons rfl (fun Kr hKr => ?_) AllReady.nil
          go_simp
          refine hKr _ _ ?_
          clear hKr Kr
          refine wpAny_ready (rs := [4]) (by kernel_rfl) (by simp) ?_
          refine AllReady.cons rfl (fun Kr hKr => ?_) AllReady.nil
          refine stepE (.tmp 10) (.tmp 13) (by rfl) (by rfl) w.heap.size (.slice Ag i cg) i vs (by go_simp) (own_only hown2 (hp3'.trans ((Only.refl (fun _ => False) w3).alloc _)) fun _ _ x => x) _ (some ⟨w3.heap.size, 0, none⟩) 1 1 [.int .i64 (es[N - 1 - i]?.getD Ed.none).at_, .slice A3 n3 c3, .slice A4 n4 c4] (by go_simp) (Rd.row w3 60 #[.int .i64 (es[N - 1 - i]?.getD Ed.none).at_, .slice A3 n3 c3, .slice A4 n4 c4]) (by simp [Value.oneCell']) (by unfold maxLen; omega) (by omega) (by have := hp3'.size; simp; omega) ?_
          intro A5 c5 w5 ho5 hp5 hat5
          have hq5 : Only (fun b => (Value.slice Ag i cg).ownBlock = some b) X2 w5 := (Only.of_pure (hp3'.trans ((Only.refl (fun _ => False) w3).alloc _))).then_ hp5 fun i _ e => e
          have hB5 := hBx2.only hq5 hnb
          have i0 : w5.cell? ⟨w.heap.size, 0, none⟩ = some (.slice Ag i cg) := hB5.cell 0
          have j0 := hB5.frozen 0
          try go_simp
          refine hKr _ _ ?_
          clear hKr Kr
          refine wpAny_ready (rs := [5]) (by kernel_rfl) (by simp) ?_
          refine AllReady.cons rfl (fun Kr hKr => ?_) AllReady.nil
          go_simp
          refine hKr _ _ ?_
          clear hKr Kr
          refine wpAny_done (by kernel_rfl) ?_ _
          exact hfin w3 A3 n3 c3 A4 n4 c4 A5 c5 w5 hR3 hR4 hp3' ho5 hp5 hat5
        · go_simp
          refine hKr _ _ ?_
          clear hKr Kr
          refine wpAny_ready (rs := [0]) (by kernel_rfl) (by simp) ?_
          refine AllReady.cons rfl (fun Kr hKr => ?_) AllReady.nil
          go_simp
          refine hKr _ _ ?_
          clear hKr Kr
          refine wpAny_ready (rs := [4]) (by kernel_rfl) (by simp) ?_
          refine AllReady.cons rfl (fun Kr hKr => ?_) AllReady.nil
          refine stepE (.tmp 10) (.tmp 13) (by rfl) (by rfl) w.heap.size (.slice Ag i cg) i vs (by go_simp) (own_only hown2 (hp3'.trans ((Only.refl (fun _ => False) w3).alloc _)) fun _ _ x => x) _ (some ⟨w3.heap.size, 0, none⟩) 1 1 [.int .i64 (es[N - 1 - i]?.getD Ed.none).at_, .slice A3 n3 c3, .slice A4 n4 c4] (by go_simp) (Rd.row w3 60 #[.int .i64 (es[N - 1 - i]?.getD Ed.none).at_, .slice A3 n3 c3, .slice A4 n4 c4]) (by simp [Value.oneCell']) (by unfold maxLen; omega) (by omega) (by have := hp3'.size; simp; omega) ?_
          intro A5 c5 w5 ho5 hp5 hat5
          have hq5 : Only (fun b => (Value.slice Ag i cg).ownBlock = some b) X2 w5 := (Only.of_pure (hp3'.trans ((Only.refl (fun _ => False) w3).alloc _))).then_ hp5 fun i _ e => e
          have hB5 := hBx2.only hq5 hnb
          have i0 : w5.cell? ⟨w.heap.size, 0, none⟩ = some (.slice Ag i cg) := hB5.cell 0
          have j0 := hB5.frozen 0
          try go_simp
          refine hKr _ _ ?_
          clear hKr Kr
          refine wpAny_ready (rs := [5]) (by kernel_rfl) (by simp) ?_
          refine AllReady.cons rfl (fun Kr hKr => ?_) AllReady.nil
          go_simp
          refine hKr _ _ ?_
          clear hKr Kr
          refine wpAny_done (by kernel_rfl) ?_ _
          exact hfin w3 A3 n3 c3 A4 n4 c4 A5 c5 w5 hR3 hR4 hp3' ho5 hp5 hat5

  case done =>
    intro D X hD hC hk
    simp only [Exit.inBlock, Exit.then]
    obtain ⟨hC1, hC2, Ag, cg, Se, hBx, hO, hSe, hpX, _⟩ := hC
    have b0 : X.cell? ⟨w.heap.size, 0, none⟩ = some (.slice Ag N cg) := hBx.cell 0
    go_wp2
    refine leave_marks (B := w.heap.size) [D] _ ⟨by simp, fun D' hD' => ?_⟩ fun W' hk' => ⟨_, results_tmp rfl _ _ _, ?_⟩
    · obtain rfl : D' = D := by simpa using hD'
      have := hp1.size; have := hp2.size
      exact ⟨by omega, hk⟩
    · have hlen : (invs es).length = N := by unfold invs; simp [hL.len]
      rw [List.take_of_length_le (by omega)] at hO
      refine ⟨Ag, N, cg, rfl, RdE.keptB (RdK'.mono hO.rd fun b _ hb => ?_) hk', hpX.keptB hk' (Nat.le_refl _)⟩
      rcases hb with hb | hb
      · have := hSe b hb; omega
      · exact (hO.2.choose_spec.1.lt b hb).1
  case stop => exact fun D c' X _ h _ => h.elim

end Go.Proofs.Ytinlpmgchcbjpaa
