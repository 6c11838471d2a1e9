/- The reference's Join: the two cases; whole. -/
import Derived.Test.YtinlpmgchcbjpaaU20
import Derived.Deep.RegionHeldLaw
import Derived.Deep.DrawnRows
namespace Go.Proofs.Ytinlpmgchcbjpaa
open Go Go.RowKit
set_option maxHeartbeats 1000000
set_option maxRecDepth 100000
attribute [local go_sem ↓] Go.wp_at_zero Go.wp_at_succ


set_option maxHeartbeats 4000000 in
theorem rjoin_one (at0 : Int) (A : Option Addr) (n c : Nat) (del : List Int) (A' : Option Addr) (n' c' : Nat) (ins : List Int) (S S' : Nat → Prop)
    (at1 : Int) (B : Option Addr) (m d : Nat) (del1 : List Int) (B' : Option Addr) (m' d' : Nat) (ins1 : List Int) (T T' : Nat → Prop) (w : World)
    (hr : RdI w S A n c del) (hr' : RdI w S' A' n' c' ins) (hq : RdI w T B m d del1) (hq' : RdI w T' B' m' d' ins1) (w0 : word at0) (w1 : word at1)
    (hn : small n) (hn' : small n') (hs : n' + m' ≤ 4194304) (hA : joinA ⟨at0, del, ins⟩ ⟨at1, del1, ins1⟩) :
    Calls Try.prog 33 #[.agg #[.int .i64 at0, .slice A n c, .slice A' n' c'], .agg #[.int .i64 at1, .slice B m d, .slice B' m' d']] w (JoinDid w ⟨at0, del, ins⟩ ⟨at1, del1, ins1⟩) := by
  have hE : joinE ⟨at0, del, ins⟩ ⟨at1, del1, ins1⟩ = ⟨at0, del, ins ++ ins1⟩ := by unfold joinE; rw [if_pos hA]
  have hI : joinIs ⟨at0, del, ins⟩ ⟨at1, del1, ins1⟩ = true := by unfold joinIs; simp [hA]
  unfold JoinDid
  rw [hE, hI]
  obtain rfl : del1 = [] := hA.1
  obtain rfl : m = 0 := by have := hq.len; simpa using this.symm
  have L1 := hr'.len
  have h2 : at1 = at0 + (n' : Int) := by have := hA.2; simp only [L1] at this; exact this
  obtain ⟨e2, e3⟩ := (sub_eq_iff' w1 w0 hn').2 h2
  have HI := hid L1
  clear hE hI hA L1 h2
  go_enter Try.func33, Try.ntmps33
  go_wp2
  obtain ⟨W0, hW0⟩ : ∃ W0, W0 = ((w.alloc (.cells #[.int .i64 at0, .slice A n c, .slice A' n' c'] 60)).alloc (.cells #[.int .i64 at1, .slice B 0 d, .slice B' m' d'] 60)).alloc (.cells #[.int .i64 0, .slice none 0 0, .slice none 0 0] 60) := ⟨_, rfl⟩
  rw [← hW0]
  have hp0 : Pure w W0 := by rw [hW0]; exact (((Only.refl _ w).alloc _).alloc _).alloc _
  have ha : Blk W0 w.heap.size 60 #[.int .i64 at0, .slice A n c, .slice A' n' c'] := by rw [hW0]; exact ((Blk.new w _ _).alloc _).alloc _
  have hb : Blk W0 (w.heap.size + 1) 60 #[.int .i64 at1, .slice B 0 d, .slice B' m' d'] := by
    rw [hW0]; have := Blk.new (w.alloc (.cells #[.int .i64 at0, .slice A n c, .slice A' n' c'] 60)) 60 #[.int .i64 at1, .slice B 0 d, .slice B' m' d']; rw [World.size_alloc] at this; exact this.alloc _
  have hz : Blk W0 (w.heap.size + 2) 60 #[.int .i64 0, .slice none 0 0, .slice none 0 0] := by rw [hW0]; exact Blk.new3 w _ _ _ _
  clear hW0
  have i0 : W0.cell? ⟨w.heap.size, 0, none⟩ = some (.int .i64 at0) := ha.cell 0
  have i1 : W0.cell? ⟨w.heap.size, 1, none⟩ = some (.slice A n c) := ha.cell 1
  have i2 : W0.cell? ⟨w.heap.size, 2, none⟩ = some (.slice A' n' c') := ha.cell 2
  have ib2 : W0.cell? ⟨w.heap.size + 1, 2, none⟩ = some (.slice B' m' d') := hb.cell 2
  have far1 : ¬ w.heap.size + 1 + 1 = w.heap.size := by omega
  have far2 : ¬ w.heap.size + 1 + 1 = w.heap.size + 1 := by omega
  clear e2 e3
  go_region_held_law (fun X => X.cell? ⟨w.heap.size, 0, none⟩ = some (.int .i64 at0) ∧ X.cell? ⟨w.heap.size, 1, none⟩ = some (.slice A n c) ∧ X.cell? ⟨w.heap.size, 2, none⟩ = some (.slice A' n' c') ∧ X.cell? ⟨w.heap.size + 1, 2, none⟩ = some (.slice B' m' d'))
    (first | go_keep | exact ⟨i0, i1, i2, ib2⟩)
    (first
      | (refine stepI (.tmp 36) (.tmp 38) (by rfl) (by rfl) w4.heap.size (.slice A6 n' c6) n' _ (by go_simp) hO6u T' B' m' d' _ (by go_simp) (hq'.pure_ (hp0.trans hp05u)) (oneI ins1) (by unfold maxLen; omega) (by omega) hs45u ?_; intro A5 c5 w9 ho9 hp9 hat9; rw [← List.map_append] at ho9; have hs9 := hp9.size; have hlow : ∀ b, (Value.slice A6 n' c6).ownBlock = some b → w4.heap.size ≤ b := fun b hb => (hO6u.lt b hb).1; have hp09 : Pure W0 w9 := hp05u.then_ hp9 fun i hi e => by { have := hlow i e; have := hp4.size; omega }; have hX3 : RdI w9 (fun b => W0.heap.size ≤ b) A3 n3 c3 del := RdI.only (RdI.pure_ hR4t hp45u) hp9 (fun b hb _ e => by { have := hlow b e; have := hb.2; omega }) |>.mono fun b _ hb => hb.1; have hX5 : RdI w9 (fun b => W0.heap.size ≤ b) A5 (n' + m') c5 (ins ++ ins1) := RdI.mono (Rd.of_own (S := fun b => w4.heap.size ≤ b) ho9 fun b hb => (ho9.lt b hb).1) (fun b _ hb => by { have := hp4.size; have hb2 : w4.heap.size ≤ b := hb; omega }); have ha5 := ha.pure_ (hp09); have hb5 := hb.pure_ (hp09); have hz5 := hz.pure_ (hp09); have i0 : w9.cell? ⟨w.heap.size, 0, none⟩ = some (.int .i64 at0) := ha5.cell 0; have ib0 : w9.cell? ⟨w.heap.size + 1, 0, none⟩ = some (.int .i64 at1) := hb5.cell 0; have z0 : w9.cell? ⟨w.heap.size + 1 + 1, 0, none⟩ = some (.int .i64 0) := hz5.cell 0; have y0 : w9.frozen? ⟨w.heap.size + 1 + 1, 0, none⟩ = false := hz5.frozen 0; have i1 : w9.cell? ⟨w.heap.size, 1, none⟩ = some (.slice A n c) := ha5.cell 1; have ib1 : w9.cell? ⟨w.heap.size + 1, 1, none⟩ = some (.slice B 0 d) := hb5.cell 1; have z1 : w9.cell? ⟨w.heap.size + 1 + 1, 1, none⟩ = some (.slice none 0 0) := hz5.cell 1; have y1 : w9.frozen? ⟨w.heap.size + 1 + 1, 1, none⟩ = false := hz5.frozen 1; have i2 : w9.cell? ⟨w.heap.size, 2, none⟩ = some (.slice A' n' c') := ha5.cell 2; have ib2 : w9.cell? ⟨w.heap.size + 1, 2, none⟩ = some (.slice B' m' d') := hb5.cell 2; have z2 : w9.cell? ⟨w.heap.size + 1 + 1, 2, none⟩ = some (.slice none 0 0) := hz5.cell 2; have y2 : w9.frozen? ⟨w.heap.size + 1 + 1, 2, none⟩ = false := hz5.frozen 2)
      | (refine stepI (.tmp 36) (.tmp 38) (by rfl) (by rfl) W0.heap.size (.slice A6 n' c6) n' _ (by go_simp) hO6v T' B' m' d' _ (by go_simp) (hq'.pure_ (hp0.trans hp05v)) (oneI ins1) (by unfold maxLen; omega) (by omega) hp05v.size ?_; intro A5 c5 w9 ho9 hp9 hat9; rw [← List.map_append] at ho9; have hlow : ∀ b, (Value.slice A6 n' c6).ownBlock = some b → W0.heap.size ≤ b ∧ b < v4.heap.size := fun b hb => hlt4 b hb; have hp09 : Pure W0 w9 := hp05v.then_ hp9 fun i hi e => by { have := hlow i e; omega }; have hX3 : RdI w9 (fun b => W0.heap.size ≤ b) A3 n3 c3 del := RdI.mono (RdI.only hR5 hp9 (fun b hb _ e => by { have := hlow b e; have hb2 : v4.heap.size ≤ b := hb; omega })) (fun b _ hb => by { have := ho4.size; have hb2 : v4.heap.size ≤ b := hb; omega }); have hX5 : RdI w9 (fun b => W0.heap.size ≤ b) A5 (n' + m') c5 (ins ++ ins1) := Rd.of_own ho9 fun b hb => (ho9.lt b hb).1; have ha5 := ha.pure_ (hp09); have hb5 := hb.pure_ (hp09); have hz5 := hz.pure_ (hp09); have i0 : w9.cell? ⟨w.heap.size, 0, none⟩ = some (.int .i64 at0) := ha5.cell 0; have ib0 : w9.cell? ⟨w.heap.size + 1, 0, none⟩ = some (.int .i64 at1) := hb5.cell 0; have z0 : w9.cell? ⟨w.heap.size + 1 + 1, 0, none⟩ = some (.int .i64 0) := hz5.cell 0; have y0 : w9.frozen? ⟨w.heap.size + 1 + 1, 0, none⟩ = false := hz5.frozen 0; have i1 : w9.cell? ⟨w.heap.size, 1, none⟩ = some (.slice A n c) := ha5.cell 1; have ib1 : w9.cell? ⟨w.heap.size + 1, 1, none⟩ = some (.slice B 0 d) := hb5.cell 1; have z1 : w9.cell? ⟨w.heap.size + 1 + 1, 1, none⟩ = some (.slice none 0 0) := hz5.cell 1; have y1 : w9.frozen? ⟨w.heap.size + 1 + 1, 1, none⟩ = false := hz5.frozen 1; have i2 : w9.cell? ⟨w.heap.size, 2, none⟩ = some (.slice A' n' c') := ha5.cell 2; have ib2 : w9.cell? ⟨w.heap.size + 1, 2, none⟩ = some (.slice B' m' d') := hb5.cell 2; have z2 : w9.cell? ⟨w.heap.size + 1 + 1, 2, none⟩ = some (.slice none 0 0) := hz5.cell 2; have y2 : w9.frozen? ⟨w.heap.size + 1 + 1, 2, none⟩ = false := hz5.frozen 2)
      | (refine stepI (.tmp 36) (.tmp 38) (by rfl) (by rfl) W0.heap.size (.slice A6 n' c6) n' _ (by go_simp) hO4 T' B' m' d' _ (by go_simp) (hq'.pure_ (hp0.trans ho4)) (oneI ins1) (by unfold maxLen; omega) (by omega) ho4.size ?_; intro A5 c5 z5 ho9 hp9 hat9; rw [← List.map_append] at ho9; have hz05 : Pure W0 z5 := ho4.then_ hp9 fun i hi e => by { have := (hO4.lt i e).1; omega }; have ha5 := ha.pure_ (hz05); have hb5 := hb.pure_ (hz05); have hz5 := hz.pure_ (hz05); have i0 : z5.cell? ⟨w.heap.size, 0, none⟩ = some (.int .i64 at0) := ha5.cell 0; have ib0 : z5.cell? ⟨w.heap.size + 1, 0, none⟩ = some (.int .i64 at1) := hb5.cell 0; have z0 : z5.cell? ⟨w.heap.size + 1 + 1, 0, none⟩ = some (.int .i64 0) := hz5.cell 0; have y0 : z5.frozen? ⟨w.heap.size + 1 + 1, 0, none⟩ = false := hz5.frozen 0; have i1 : z5.cell? ⟨w.heap.size, 1, none⟩ = some (.slice A n c) := ha5.cell 1; have ib1 : z5.cell? ⟨w.heap.size + 1, 1, none⟩ = some (.slice B 0 d) := hb5.cell 1; have z1 : z5.cell? ⟨w.heap.size + 1 + 1, 1, none⟩ = some (.slice none 0 0) := hz5.cell 1; have y1 : z5.frozen? ⟨w.heap.size + 1 + 1, 1, none⟩ = false := hz5.frozen 1; have i2 : z5.cell? ⟨w.heap.size, 2, none⟩ = some (.slice A' n' c') := ha5.cell 2; have ib2 : z5.cell? ⟨w.heap.size + 1, 2, none⟩ = some (.slice B' m' d') := hb5.cell 2; have z2 : z5.cell? ⟨w.heap.size + 1 + 1, 2, none⟩ = some (.slice none 0 0) := hz5.cell 2; have y2 : z5.frozen? ⟨w.heap.size + 1 + 1, 2, none⟩ = false := hz5.frozen 2)
      | (go_at_call 75; have hh := rclone_any A n c del S (z5) (hr.pure_ (hp0.trans hz05)) hn; (with_reducible refine Calls.mono hh ?_); clear hh; rintro e w9 ⟨A3, n3, c3, rfl, hR5, hp5⟩; have hs5 := hz05.size; have hp09 := hz05.trans hp5; have hX3 : RdI w9 (fun b => W0.heap.size ≤ b) A3 n3 c3 del := RdI.mono hR5 (fun b _ hb => by have hb2 : _ ≤ b := hb; (try simp at hb2); omega); have hX5 : RdI w9 (fun b => W0.heap.size ≤ b) A5 (n' + m') c5 (ins ++ ins1) := RdI.pure_ (Rd.of_own ho9 fun b hb => (ho9.lt b hb).1) hp5; have ha5 := ha.pure_ (hp09); have hb5 := hb.pure_ (hp09); have hz5 := hz.pure_ (hp09); have i0 : w9.cell? ⟨w.heap.size, 0, none⟩ = some (.int .i64 at0) := ha5.cell 0; have ib0 : w9.cell? ⟨w.heap.size + 1, 0, none⟩ = some (.int .i64 at1) := hb5.cell 0; have z0 : w9.cell? ⟨w.heap.size + 1 + 1, 0, none⟩ = some (.int .i64 0) := hz5.cell 0; have y0 : w9.frozen? ⟨w.heap.size + 1 + 1, 0, none⟩ = false := hz5.frozen 0; have i1 : w9.cell? ⟨w.heap.size, 1, none⟩ = some (.slice A n c) := ha5.cell 1; have ib1 : w9.cell? ⟨w.heap.size + 1, 1, none⟩ = some (.slice B 0 d) := hb5.cell 1; have z1 : w9.cell? ⟨w.heap.size + 1 + 1, 1, none⟩ = some (.slice none 0 0) := hz5.cell 1; have y1 : w9.frozen? ⟨w.heap.size + 1 + 1, 1, none⟩ = false := hz5.frozen 1; have i2 : w9.cell? ⟨w.heap.size, 2, none⟩ = some (.slice A' n' c') := ha5.cell 2; have ib2 : w9.cell? ⟨w.heap.size + 1, 2, none⟩ = some (.slice B' m' d') := hb5.cell 2; have z2 : w9.cell? ⟨w.heap.size + 1 + 1, 2, none⟩ = some (.slice none 0 0) := hz5.cell 2; have y2 : w9.frozen? ⟨w.heap.size + 1 + 1, 2, none⟩ = false := hz5.frozen 2)
      | (go_at_call 75; have hh := rclone_any A n c del S (v4) (hr.pure_ (hp0.trans ho4)) hn; (with_reducible refine Calls.mono hh ?_); clear hh; rintro e v5 ⟨A3, n3, c3, rfl, hR5, hp5⟩; have hp05v := ho4.trans hp5; have hO6v := own_only hO4 hp5 (fun _ _ x => x); have ha5 := ha.pure_ (hp05v); have hb5 := hb.pure_ (hp05v); have hz5 := hz.pure_ (hp05v); have i0 : v5.cell? ⟨w.heap.size, 0, none⟩ = some (.int .i64 at0) := ha5.cell 0; have ib0 : v5.cell? ⟨w.heap.size + 1, 0, none⟩ = some (.int .i64 at1) := hb5.cell 0; have z0 : v5.cell? ⟨w.heap.size + 1 + 1, 0, none⟩ = some (.int .i64 0) := hz5.cell 0; have y0 : v5.frozen? ⟨w.heap.size + 1 + 1, 0, none⟩ = false := hz5.frozen 0; have i1 : v5.cell? ⟨w.heap.size, 1, none⟩ = some (.slice A n c) := ha5.cell 1; have ib1 : v5.cell? ⟨w.heap.size + 1, 1, none⟩ = some (.slice B 0 d) := hb5.cell 1; have z1 : v5.cell? ⟨w.heap.size + 1 + 1, 1, none⟩ = some (.slice none 0 0) := hz5.cell 1; have y1 : v5.frozen? ⟨w.heap.size + 1 + 1, 1, none⟩ = false := hz5.frozen 1; have i2 : v5.cell? ⟨w.heap.size, 2, none⟩ = some (.slice A' n' c') := ha5.cell 2; have ib2 : v5.cell? ⟨w.heap.size + 1, 2, none⟩ = some (.slice B' m' d') := hb5.cell 2; have z2 : v5.cell? ⟨w.heap.size + 1 + 1, 2, none⟩ = some (.slice none 0 0) := hz5.cell 2; have y2 : v5.frozen? ⟨w.heap.size + 1 + 1, 2, none⟩ = false := hz5.frozen 2)
      | (go_at_call 75; have hh := rclone_own A' n' c' ins S' (w4) (hr'.pure_ (hp0.trans hp4)) hn'; (with_reducible refine Calls.mono hh ?_); clear hh; rintro e u5 ⟨A6, n6, c6, rfl, hO, hp45u⟩; obtain rfl : n' = n6 := (by have h9 := hO.1; have h8 := HI.out; rw [List.length_map] at h9; omega); have hO6u := hO; have hs45u := hp45u.size; have hp05u := hp4.trans hp45u; have ha5 := ha.pure_ (hp05u); have hb5 := hb.pure_ (hp05u); have hz5 := hz.pure_ (hp05u); have i0 : u5.cell? ⟨w.heap.size, 0, none⟩ = some (.int .i64 at0) := ha5.cell 0; have ib0 : u5.cell? ⟨w.heap.size + 1, 0, none⟩ = some (.int .i64 at1) := hb5.cell 0; have z0 : u5.cell? ⟨w.heap.size + 1 + 1, 0, none⟩ = some (.int .i64 0) := hz5.cell 0; have y0 : u5.frozen? ⟨w.heap.size + 1 + 1, 0, none⟩ = false := hz5.frozen 0; have i1 : u5.cell? ⟨w.heap.size, 1, none⟩ = some (.slice A n c) := ha5.cell 1; have ib1 : u5.cell? ⟨w.heap.size + 1, 1, none⟩ = some (.slice B 0 d) := hb5.cell 1; have z1 : u5.cell? ⟨w.heap.size + 1 + 1, 1, none⟩ = some (.slice none 0 0) := hz5.cell 1; have y1 : u5.frozen? ⟨w.heap.size + 1 + 1, 1, none⟩ = false := hz5.frozen 1; have i2 : u5.cell? ⟨w.heap.size, 2, none⟩ = some (.slice A' n' c') := ha5.cell 2; have ib2 : u5.cell? ⟨w.heap.size + 1, 2, none⟩ = some (.slice B' m' d') := hb5.cell 2; have z2 : u5.cell? ⟨w.heap.size + 1 + 1, 2, none⟩ = some (.slice none 0 0) := hz5.cell 2; have y2 : u5.frozen? ⟨w.heap.size + 1 + 1, 2, none⟩ = false := hz5.frozen 2)
      | (go_at_call 75; have hh := rclone_any A n c del S (W0.drew) (hr.pure_ (hp0.drew)) hn; (with_reducible refine Calls.mono hh ?_); clear hh; rintro e w4 ⟨A3, n3, c3, rfl, hR4, hp4'⟩; have hp4 := hp4'.ofDrew; have hR4t : RdI w4 (fun b => W0.heap.size ≤ b ∧ b < w4.heap.size) A3 n3 c3 del := RdI.mono hR4 (fun b hb h => ⟨h, hb⟩); have ha5 := ha.pure_ (hp4); have hb5 := hb.pure_ (hp4); have hz5 := hz.pure_ (hp4); have i0 : w4.cell? ⟨w.heap.size, 0, none⟩ = some (.int .i64 at0) := ha5.cell 0; have ib0 : w4.cell? ⟨w.heap.size + 1, 0, none⟩ = some (.int .i64 at1) := hb5.cell 0; have z0 : w4.cell? ⟨w.heap.size + 1 + 1, 0, none⟩ = some (.int .i64 0) := hz5.cell 0; have y0 : w4.frozen? ⟨w.heap.size + 1 + 1, 0, none⟩ = false := hz5.frozen 0; have i1 : w4.cell? ⟨w.heap.size, 1, none⟩ = some (.slice A n c) := ha5.cell 1; have ib1 : w4.cell? ⟨w.heap.size + 1, 1, none⟩ = some (.slice B 0 d) := hb5.cell 1; have z1 : w4.cell? ⟨w.heap.size + 1 + 1, 1, none⟩ = some (.slice none 0 0) := hz5.cell 1; have y1 : w4.frozen? ⟨w.heap.size + 1 + 1, 1, none⟩ = false := hz5.frozen 1; have i2 : w4.cell? ⟨w.heap.size, 2, none⟩ = some (.slice A' n' c') := ha5.cell 2; have ib2 : w4.cell? ⟨w.heap.size + 1, 2, none⟩ = some (.slice B' m' d') := hb5.cell 2; have z2 : w4.cell? ⟨w.heap.size + 1 + 1, 2, none⟩ = some (.slice none 0 0) := hz5.cell 2; have y2 : w4.frozen? ⟨w.heap.size + 1 + 1, 2, none⟩ = false := hz5.frozen 2)
      | (go_at_call 75; have hh := rclone_own A' n' c' ins S' (W0.drew) (hr'.pure_ (hp0.drew)) hn'; (with_reducible refine Calls.mono hh ?_); clear hh; rintro e v4 ⟨A6, n6, c6, rfl, hO, ho4'⟩; obtain rfl : n' = n6 := (by have h9 := hO.1; have h8 := HI.out; rw [List.length_map] at h9; omega); have ho4 := ho4'.ofDrew; have hO4 : v4.ownsRow W0.heap.size 21 1 (.slice A6 n' c6) n' (ins.map (Value.int .i32)) := hO; have hlt4 : ∀ b, (Value.slice A6 n' c6).ownBlock = some b → W0.heap.size ≤ b ∧ b < v4.heap.size := fun b hb => hO.lt b hb; have ha5 := ha.pure_ (ho4); have hb5 := hb.pure_ (ho4); have hz5 := hz.pure_ (ho4); have i0 : v4.cell? ⟨w.heap.size, 0, none⟩ = some (.int .i64 at0) := ha5.cell 0; have ib0 : v4.cell? ⟨w.heap.size + 1, 0, none⟩ = some (.int .i64 at1) := hb5.cell 0; have z0 : v4.cell? ⟨w.heap.size + 1 + 1, 0, none⟩ = some (.int .i64 0) := hz5.cell 0; have y0 : v4.frozen? ⟨w.heap.size + 1 + 1, 0, none⟩ = false := hz5.frozen 0; have i1 : v4.cell? ⟨w.heap.size, 1, none⟩ = some (.slice A n c) := ha5.cell 1; have ib1 : v4.cell? ⟨w.heap.size + 1, 1, none⟩ = some (.slice B 0 d) := hb5.cell 1; have z1 : v4.cell? ⟨w.heap.size + 1 + 1, 1, none⟩ = some (.slice none 0 0) := hz5.cell 1; have y1 : v4.frozen? ⟨w.heap.size + 1 + 1, 1, none⟩ = false := hz5.frozen 1; have i2 : v4.cell? ⟨w.heap.size, 2, none⟩ = some (.slice A' n' c') := ha5.cell 2; have ib2 : v4.cell? ⟨w.heap.size + 1, 2, none⟩ = some (.slice B' m' d') := hb5.cell 2; have z2 : v4.cell? ⟨w.heap.size + 1 + 1, 2, none⟩ = some (.slice none 0 0) := hz5.cell 2; have y2 : v4.frozen? ⟨w.heap.size + 1 + 1, 2, none⟩ = false := hz5.frozen 2))
  all_goals
    go_wp2
    have ho : Only (fun b => b = w.heap.size + 2) w9 (((w9.setCell ⟨w.heap.size + 2, 0, none⟩ (.int .i64 at0)).setCell ⟨w.heap.size + 2, 1, none⟩ (.slice A3 n3 c3)).setCell ⟨w.heap.size + 2, 2, none⟩ (.slice A5 (n' + m') c5)) := (((Only.refl _ w9).set 0 _).set 1 _).set 2 _
    have hs0 := hp0.size
    have hlz := hz.lt
    refine bodyPost_ret (results_row_tmp rfl _ _ (w.heap.size + 2) 60 #[.int .i64 at0, .slice A3 n3 c3, .slice A5 (n' + m') c5] (0, 0) _ rfl (by simpa [Blk] using ((hz5.set_ 0 (.int .i64 at0)).set_ 1 (.slice A3 n3 c3)).set_ 2 (.slice A5 (n' + m') c5)) Try.underlying60 rfl size60) rfl ?_
    refine ⟨A3, n3, c3, A5, n' + m', c5, rfl, RdI.mono (hX3.only ho fun b hb _ e => ?_) (fun b _ hb => ?_), RdI.mono (RdI.only hX5 ho fun b hb _ e => ?_) (fun b _ hb => ?_), (hp0.trans hp09).then_ ho fun i hi e => ?_⟩
    · have h1 : W0.heap.size ≤ b := hb; have h2 : b = w.heap.size + 2 := e; omega
    · have h1 : W0.heap.size ≤ b := hb; omega
    · have h1 : W0.heap.size ≤ b := hb; have h2 : b = w.heap.size + 2 := e; omega
    · have h1 : W0.heap.size ≤ b := hb; omega
    · have h2 : i = w.heap.size + 2 := e; omega

set_option maxHeartbeats 4000000 in
theorem rjoin_two (at0 : Int) (A : Option Addr) (n c : Nat) (del : List Int) (A' : Option Addr) (n' c' : Nat) (ins : List Int) (S S' : Nat → Prop)
    (at1 : Int) (B : Option Addr) (m d : Nat) (del1 : List Int) (B' : Option Addr) (m' d' : Nat) (ins1 : List Int) (T T' : Nat → Prop) (w : World)
    (hr : RdI w S A n c del) (hr' : RdI w S' A' n' c' ins) (hq : RdI w T B m d del1) (hq' : RdI w T' B' m' d' ins1) (w0 : word at0) (w1 : word at1)
    (hn' : small n') (hm : small m) (hs : m + n ≤ 4194304) (hA : ¬ joinA ⟨at0, del, ins⟩ ⟨at1, del1, ins1⟩) (hB : joinB ⟨at0, del, ins⟩ ⟨at1, del1, ins1⟩) :
    Calls Try.prog 33 #[.agg #[.int .i64 at0, .slice A n c, .slice A' n' c'], .agg #[.int .i64 at1, .slice B m d, .slice B' m' d']] w (JoinDid w ⟨at0, del, ins⟩ ⟨at1, del1, ins1⟩) := by
  have hE : joinE ⟨at0, del, ins⟩ ⟨at1, del1, ins1⟩ = ⟨at1, del1 ++ del, []⟩ := by unfold joinE; rw [if_neg hA, if_pos hB]
  have hI : joinIs ⟨at0, del, ins⟩ ⟨at1, del1, ins1⟩ = true := by unfold joinIs; simp [hB]
  unfold JoinDid
  rw [hE, hI]
  obtain rfl : ins = [] := hB.1
  obtain rfl : ins1 = [] := hB.2.1
  obtain rfl : n' = 0 := by have := hr'.len; simpa using this.symm
  obtain rfl : m' = 0 := by have := hq'.len; simpa using this.symm
  have L2 := hq.len
  have HI := hid L2
  have h2 : at0 = at1 + (m : Int) := by have := hB.2.2; simp only [L2] at this; exact this.symm
  obtain ⟨e2, e3⟩ := (sub_eq_iff' w0 w1 hm).2 h2
  have k1 := sub_eq_iff' w1 w0 hn'
  obtain ⟨W1, hW1⟩ : ∃ W1, IntKind.i64.wrap (at1 - at0) = W1 := ⟨_, rfl⟩
  rw [hW1] at k1
  have c1 : ((m : Int) == 0) = false ∨ ((m : Int) == 0) = true ∧ decide (at0 ≤ at1) = false ∨ ((m : Int) == 0) = true ∧ decide (at0 ≤ at1) = true ∧ (W1 == 0) = false := by
    by_cases h1 : (m : Int) = 0
    · by_cases h3 : at0 ≤ at1
      · by_cases h2 : W1 = 0
        · exact (hA ⟨show del1 = [] from List.eq_nil_of_length_eq_zero (by omega), by have := k1.1 ⟨h3, h2⟩; exact this⟩).elim
        · exact .inr (.inr ⟨by simpa using h1, by simpa using h3, by simpa using h2⟩)
      · exact .inr (.inl ⟨by simpa using h1, by simpa using h3⟩)
    · exact .inl (by simpa using h1)
  clear hE hI hA hB L2 h2 k1
  rcases c1 with d1 | ⟨d1, d2⟩ | ⟨d1, d2, d3⟩
  all_goals
    go_enter Try.func33, Try.ntmps33
    go_wp2
    obtain ⟨W0, hW0⟩ : ∃ W0, W0 = ((w.alloc (.cells #[.int .i64 at0, .slice A n c, .slice A' 0 c'] 60)).alloc (.cells #[.int .i64 at1, .slice B m d, .slice B' 0 d'] 60)).alloc (.cells #[.int .i64 0, .slice none 0 0, .slice none 0 0] 60) := ⟨_, rfl⟩
    rw [← hW0]
    have hp0 : Pure w W0 := by rw [hW0]; exact (((Only.refl _ w).alloc _).alloc _).alloc _
    have ha : Blk W0 w.heap.size 60 #[.int .i64 at0, .slice A n c, .slice A' 0 c'] := by rw [hW0]; exact ((Blk.new w _ _).alloc _).alloc _
    have hb : Blk W0 (w.heap.size + 1) 60 #[.int .i64 at1, .slice B m d, .slice B' 0 d'] := by
      rw [hW0]; have := Blk.new (w.alloc (.cells #[.int .i64 at0, .slice A n c, .slice A' 0 c'] 60)) 60 #[.int .i64 at1, .slice B m d, .slice B' 0 d']; rw [World.size_alloc] at this; exact this.alloc _
    have hz : Blk W0 (w.heap.size + 2) 60 #[.int .i64 0, .slice none 0 0, .slice none 0 0] := by rw [hW0]; exact Blk.new3 w _ _ _ _
    clear hW0
    have i1 : W0.cell? ⟨w.heap.size, 1, none⟩ = some (.slice A n c) := ha.cell 1
    have ib0 : W0.cell? ⟨w.heap.size + 1, 0, none⟩ = some (.int .i64 at1) := hb.cell 0
    have ib1 : W0.cell? ⟨w.heap.size + 1, 1, none⟩ = some (.slice B m d) := hb.cell 1
    have far1 : ¬ w.heap.size + 1 + 1 = w.heap.size := by omega
    have far2 : ¬ w.heap.size + 1 + 1 = w.heap.size + 1 := by omega
    clear e2 e3 d1
    try clear d2
    try clear d3
    go_region_held_law (fun X => X.cell? ⟨w.heap.size + 1, 0, none⟩ = some (.int .i64 at1) ∧ X.cell? ⟨w.heap.size + 1, 1, none⟩ = some (.slice B m d) ∧ X.cell? ⟨w.heap.size, 1, none⟩ = some (.slice A n c))
      (first | go_keep | exact ⟨ib0, ib1, i1⟩)
      (first
        | (refine stepI (.tmp 74) (.tmp 76) (by rfl) (by rfl) W0.heap.size (.slice A6 m c6) m _ (by go_simp) hO4 S A n c _ (by go_simp) (hr.pure_ (hp0.trans ho4)) (oneI del) (by unfold maxLen; omega) (by omega) ho4.size ?_; intro A5 c5 w9 ho9 hp9 hat9; rw [← List.map_append] at ho9; have hp09 : Pure W0 w9 := ho4.then_ hp9 fun i hi e => by { have := (hO4.lt i e).1; omega }; have hX5 : RdI w9 (fun b => W0.heap.size ≤ b) A5 (m + n) c5 (del1 ++ del) := Rd.of_own ho9 fun b hb => (ho9.lt b hb).1; have ha5 := ha.pure_ (hp09); have hb5 := hb.pure_ (hp09); have hz5 := hz.pure_ (hp09); have i0 : w9.cell? ⟨w.heap.size, 0, none⟩ = some (.int .i64 at0) := ha5.cell 0; have ib0 : w9.cell? ⟨w.heap.size + 1, 0, none⟩ = some (.int .i64 at1) := hb5.cell 0; have z0 : w9.cell? ⟨w.heap.size + 1 + 1, 0, none⟩ = some (.int .i64 0) := hz5.cell 0; have y0 : w9.frozen? ⟨w.heap.size + 1 + 1, 0, none⟩ = false := hz5.frozen 0; have i1 : w9.cell? ⟨w.heap.size, 1, none⟩ = some (.slice A n c) := ha5.cell 1; have ib1 : w9.cell? ⟨w.heap.size + 1, 1, none⟩ = some (.slice B m d) := hb5.cell 1; have z1 : w9.cell? ⟨w.heap.size + 1 + 1, 1, none⟩ = some (.slice none 0 0) := hz5.cell 1; have y1 : w9.frozen? ⟨w.heap.size + 1 + 1, 1, none⟩ = false := hz5.frozen 1; have i2 : w9.cell? ⟨w.heap.size, 2, none⟩ = some (.slice A' 0 c') := ha5.cell 2; have ib2 : w9.cell? ⟨w.heap.size + 1, 2, none⟩ = some (.slice B' 0 d') := hb5.cell 2; have z2 : w9.cell? ⟨w.heap.size + 1 + 1, 2, none⟩ = some (.slice none 0 0) := hz5.cell 2; have y2 : w9.frozen? ⟨w.heap.size + 1 + 1, 2, none⟩ = false := hz5.frozen 2)
        | (go_at_call 75; refine (rclone_own B m d del1 T W0.drew (hq.pure_ hp0.drew) hm).mono ?_; rintro e v4 ⟨A6, n6, c6, rfl, hO, ho4'⟩; obtain rfl : m = n6 := (by have h9 := hO.1; have h8 := HI.out; rw [List.length_map] at h9; omega); have ho4 := ho4'.ofDrew; have hO4 : v4.ownsRow W0.heap.size 21 1 (.slice A6 m c6) m (del1.map (Value.int .i32)) := hO; have ha5 := ha.pure_ (ho4); have hb5 := hb.pure_ (ho4); have hz5 := hz.pure_ (ho4); have i0 : v4.cell? ⟨w.heap.size, 0, none⟩ = some (.int .i64 at0) := ha5.cell 0; have ib0 : v4.cell? ⟨w.heap.size + 1, 0, none⟩ = some (.int .i64 at1) := hb5.cell 0; have z0 : v4.cell? ⟨w.heap.size + 1 + 1, 0, none⟩ = some (.int .i64 0) := hz5.cell 0; have y0 : v4.frozen? ⟨w.heap.size + 1 + 1, 0, none⟩ = false := hz5.frozen 0; have i1 : v4.cell? ⟨w.heap.size, 1, none⟩ = some (.slice A n c) := ha5.cell 1; have ib1 : v4.cell? ⟨w.heap.size + 1, 1, none⟩ = some (.slice B m d) := hb5.cell 1; have z1 : v4.cell? ⟨w.heap.size + 1 + 1, 1, none⟩ = some (.slice none 0 0) := hz5.cell 1; have y1 : v4.frozen? ⟨w.heap.size + 1 + 1, 1, none⟩ = false := hz5.frozen 1; have i2 : v4.cell? ⟨w.heap.size, 2, none⟩ = some (.slice A' 0 c') := ha5.cell 2; have ib2 : v4.cell? ⟨w.heap.size + 1, 2, none⟩ = some (.slice B' 0 d') := hb5.cell 2; have z2 : v4.cell? ⟨w.heap.size + 1 + 1, 2, none⟩ = some (.slice none 0 0) := hz5.cell 2; have y2 : v4.frozen? ⟨w.heap.size + 1 + 1, 2, none⟩ = false := hz5.frozen 2))
  all_goals
    go_wp2
    have ho : Only (fun b => b = w.heap.size + 2) w9 (((w9.setCell ⟨w.heap.size + 2, 0, none⟩ (.int .i64 at1)).setCell ⟨w.heap.size + 2, 1, none⟩ (.slice A5 (m + n) c5)).setCell ⟨w.heap.size + 2, 2, none⟩ (.slice none 0 0)) := (((Only.refl _ w9).set 0 _).set 1 _).set 2 _
    have hs0 := hp0.size
    have hlz := hz.lt
    refine bodyPost_ret (results_row_tmp rfl _ _ (w.heap.size + 2) 60 #[.int .i64 at1, .slice A5 (m + n) c5, .slice none 0 0] (0, 0) _ rfl (by simpa [Blk] using ((hz5.set_ 0 (.int .i64 at1)).set_ 1 (.slice A5 (m + n) c5)).set_ 2 (.slice none 0 0)) Try.underlying60 rfl size60) rfl ?_
    refine ⟨A5, m + n, c5, none, 0, 0, rfl, RdI.mono (RdI.only hX5 ho fun b hb _ e => ?_) (fun b _ hb => ?_), RdI.nil _ _ _ _ (Nat.zero_le _), (hp0.trans hp09).then_ ho fun i hi e => ?_⟩
    · have h1 : W0.heap.size ≤ b := hb; have h2 : b = w.heap.size + 2 := e; omega
    · have h1 : W0.heap.size ≤ b := hb; omega
    · have h2 : i = w.heap.size + 2 := e; omega

theorem rjoin_any (at0 : Int) (A : Option Addr) (n c : Nat) (del : List Int) (A' : Option Addr) (n' c' : Nat) (ins : List Int) (S S' : Nat → Prop)
    (at1 : Int) (B : Option Addr) (m d : Nat) (del1 : List Int) (B' : Option Addr) (m' d' : Nat) (ins1 : List Int) (T T' : Nat → Prop) (w : World)
    (hr : RdI w S A n c del) (hr' : RdI w S' A' n' c' ins) (hq : RdI w T B m d del1) (hq' : RdI w T' B' m' d' ins1) (w0 : word at0) (w1 : word at1)
    (hn : n ≤ 1048576) (hn' : n' ≤ 1048576) (hm : m ≤ 1048576) (hm' : m' ≤ 1048576) :
    Calls Try.prog 33 #[.agg #[.int .i64 at0, .slice A n c, .slice A' n' c'], .agg #[.int .i64 at1, .slice B m d, .slice B' m' d']] w (JoinDid w ⟨at0, del, ins⟩ ⟨at1, del1, ins1⟩) := by
  have sn : small n := by unfold small; omega
  have sn' : small n' := by unfold small; omega
  have sm : small m := by unfold small; omega
  by_cases hA : joinA ⟨at0, del, ins⟩ ⟨at1, del1, ins1⟩
  · exact rjoin_one at0 A n c del A' n' c' ins S S' at1 B m d del1 B' m' d' ins1 T T' w hr hr' hq hq' w0 w1 sn sn' (by omega) hA
  · by_cases hB : joinB ⟨at0, del, ins⟩ ⟨at1, del1, ins1⟩
    · exact rjoin_two at0 A n c del A' n' c' ins S S' at1 B m d del1 B' m' d' ins1 T T' w hr hr' hq hq' w0 w1 sn' sm (by omega) hA hB
    · exact rjoin_none at0 A n c del A' n' c' ins S' at1 B m d del1 B' m' d' ins1 T T' w hr' sn' hq hq' sm w0 w1 hA hB

end Go.Proofs.Ytinlpmgchcbjpaa
