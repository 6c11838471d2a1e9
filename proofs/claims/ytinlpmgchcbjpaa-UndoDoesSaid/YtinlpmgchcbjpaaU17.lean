/- Join: what it answers. -/
import Derived.Test.YtinlpmgchcbjpaaU16
import Derived.Laws.ResultCell
import Derived.Deep.DrawnRows
namespace Go.Proofs.Ytinlpmgchcbjpaa
open Go Go.RowKit
set_option maxHeartbeats 1000000
set_option maxRecDepth 100000
attribute [local go_sem ↓] Go.wp_at_zero Go.wp_at_succ

theorem results_row_tmp {P : Program} {fn : Func} {p u : Tmp} {ty : TypeId} (h : fn.results = #[.cell p ty, .tmp u]) (tmps : Array Value) (w : World) (g : Nat) (t : TypeId) (cs : Array Value) (fr : Nat × Nat) (d : TypeDesc)
    (hp : tmps.getD p undef = .pointer (some ⟨g, 0, none⟩)) (hg : w.heap[g]? = some (.cells cs t fr))
    (hu : P.underlying ty = some d) (hd : (match d with | .struct _ | .array _ _ => true | _ => false) = true) (hi : (P.info? ty).map (·.size) = some cs.size) :
    (results fn tmps).run P w = .ok (.tuple #[.agg cs, tmps.getD u undef]) w := by
  rw [results_cell_tmp h, hp]
  simp [asAddr, Result.andThen, run_loadVar_row w g t ty cs fr d hg hu hd hi]

def joinA (a b : Ed) : Prop := b.del = [] ∧ b.at_ = a.at_ + a.ins.length
def joinB (a b : Ed) : Prop := a.ins = [] ∧ b.ins = [] ∧ b.at_ + b.del.length = a.at_
instance (a b : Ed) : Decidable (joinA a b) := by unfold joinA; exact inferInstance
instance (a b : Ed) : Decidable (joinB a b) := by unfold joinB; exact inferInstance
def joinE (a b : Ed) : Ed := if joinA a b then ⟨a.at_, a.del, a.ins ++ b.ins⟩ else if joinB a b then ⟨b.at_, b.del ++ a.del, []⟩ else Ed.none
def joinIs (a b : Ed) : Bool := decide (joinA a b) || decide (joinB a b)

def JoinDid (w : World) (a b : Ed) (r : Ending) (w' : World) : Prop :=
  ∃ A n c A' n' c', r = .returned (.tuple #[.agg #[.int .i64 (joinE a b).at_, .slice A n c, .slice A' n' c'], .bool (joinIs a b)]) ∧ RdI w' (fun x => w.heap.size ≤ x) A n c (joinE a b).del ∧ RdI w' (fun x => w.heap.size ≤ x) A' n' c' (joinE a b).ins ∧ Pure w w'

/-- A whole number that a machine's word holds. -/
def word (x : Int) : Prop := -9223372036854775808 ≤ x ∧ x ≤ 9223372036854775807

theorem Blk.new3 (w : World) (a b : Obj) (t : TypeId) (cs : Array Value) : Blk (((w.alloc a).alloc b).alloc (.cells cs t)) (w.heap.size + 2) t cs := by
  have := Blk.new ((w.alloc a).alloc b) t cs
  simpa using this

theorem cells3_far {w : World} {g b i : Nat} {u v0 v1 v2 : Value} (hne : ¬ b = g) (hb : b < w.heap.size) (h : w.cell? ⟨b, i, none⟩ = some u) : (((w.setCell ⟨g, 0, none⟩ v0).setCell ⟨g, 1, none⟩ v1).setCell ⟨g, 2, none⟩ v2).cell? ⟨b, i, none⟩ = some u :=
  (((((Only.refl (fun x => x = g) w).set 0 v0).set 1 v1).set 2 v2).cell (p := ⟨b, i, none⟩) hb hne).trans h

theorem sub_eq_iff {x y : Int} {n : Nat} (hx : word x) (hy : word y) (hn : small n) : (IntKind.i64.wrap (x - n) = y ∧ y ≤ x) ↔ x = y + n := by
  unfold word at hx hy
  unfold small at hn
  rw [IntKind.wrap_i64]
  omega
theorem sub_eq_iff' {x y : Int} {n : Nat} (hx : word x) (hy : word y) (hn : small n) : (y ≤ x ∧ IntKind.i64.wrap (x - y) = n) ↔ x = y + n := by
  unfold word at hx hy
  unfold small at hn
  rw [IntKind.wrap_i64]
  omega

theorem JoinDid.none_ {w w' : World} {a b : Ed} (h1 : ¬ joinA a b) (h2 : ¬ joinB a b) (hp : Pure w w') : JoinDid w a b (.returned (.tuple #[.agg #[.int .i64 0, .slice none 0 0, .slice none 0 0], .bool false])) w' := by
  have he : joinE a b = Ed.none := by unfold joinE; rw [if_neg h1, if_neg h2]
  have hi : joinIs a b = false := by unfold joinIs; simp [h1, h2]
  unfold JoinDid
  rw [he, hi]
  exact ⟨none, 0, 0, none, 0, 0, rfl, RdI.nil _ _ _ _ (Nat.zero_le _), RdI.nil _ _ _ _ (Nat.zero_le _), hp⟩

theorem join_none (at0 : Int) (A : Option Addr) (n c : Nat) (del : List Int) (A' : Option Addr) (n' c' : Nat) (ins : List Int) (S' : Nat → Prop)
    (at1 : Int) (B : Option Addr) (m d : Nat) (del1 : List Int) (B' : Option Addr) (m' d' : Nat) (ins1 : List Int) (T T' : Nat → Prop) (w : World)
    (hr' : RdI w S' A' n' c' ins) (hn' : small n') (hq : RdI w T B m d del1) (hq' : RdI w T' B' m' d' ins1) (hm : small m) (w0 : word at0) (w1 : word at1)
    (hA : ¬ joinA ⟨at0, del, ins⟩ ⟨at1, del1, ins1⟩) (hB : ¬ joinB ⟨at0, del, ins⟩ ⟨at1, del1, ins1⟩) :
    Calls Try.prog 32 #[.agg #[.int .i64 at0, .slice A n c, .slice A' n' c'], .agg #[.int .i64 at1, .slice B m d, .slice B' m' d']] w (JoinDid w ⟨at0, del, ins⟩ ⟨at1, del1, ins1⟩) := by
  have k1 := sub_eq_iff w1 w0 hn'
  have k2 := sub_eq_iff w0 w1 hm
  have L1 := hr'.len
  have L2 := hq.len
  have L3 := hq'.len
  obtain ⟨W1, hW1⟩ : ∃ W1, IntKind.i64.wrap (at1 - (n' : Int)) = W1 := ⟨_, rfl⟩
  obtain ⟨W2, hW2⟩ : ∃ W2, IntKind.i64.wrap (at0 - (m : Int)) = W2 := ⟨_, rfl⟩
  rw [hW1] at k1
  rw [hW2] at k2
  have c1 : ((m : Int) == 0) = false ∨ ((m : Int) == 0) = true ∧ (W1 == at0) = false ∨ ((m : Int) == 0) = true ∧ (W1 == at0) = true ∧ decide (at0 ≤ at1) = false := by
    by_cases h1 : (m : Int) = 0
    · by_cases h2 : W1 = at0
      · by_cases h3 : at0 ≤ at1
        · exact (hA ⟨show del1 = [] from List.eq_nil_of_length_eq_zero (by omega), by have := k1.1 ⟨h2, h3⟩; simp only [L1]; exact this⟩).elim
        · exact .inr (.inr ⟨by simpa using h1, by simpa using h2, by simpa using h3⟩)
      · exact .inr (.inl ⟨by simpa using h1, by simpa using h2⟩)
    · exact .inl (by simpa using h1)
  have c2 : ((n' : Int) == 0) = false ∨ ((n' : Int) == 0) = true ∧ ((m' : Int) == 0) = false ∨ ((n' : Int) == 0) = true ∧ ((m' : Int) == 0) = true ∧ (W2 == at1) = false ∨ ((n' : Int) == 0) = true ∧ ((m' : Int) == 0) = true ∧ (W2 == at1) = true ∧ decide (at1 ≤ at0) = false := by
    by_cases h1 : (n' : Int) = 0
    · by_cases h2 : (m' : Int) = 0
      · by_cases h3 : W2 = at1
        · by_cases h4 : at1 ≤ at0
          · exact (hB ⟨show ins = [] from List.eq_nil_of_length_eq_zero (by omega), show ins1 = [] from List.eq_nil_of_length_eq_zero (by omega), by have := k2.1 ⟨h3, h4⟩; simp only [L2]; omega⟩).elim
          · exact .inr (.inr (.inr ⟨by simpa using h1, by simpa using h2, by simpa using h3, by simpa using h4⟩))
        · exact .inr (.inr (.inl ⟨by simpa using h1, by simpa using h2, by simpa using h3⟩))
      · exact .inr (.inl ⟨by simpa using h1, by simpa using h2⟩)
    · exact .inl (by simpa using h1)
  clear k1 k2 L1 L2 L3 hr' hq hq' hn' hm
  rcases c1 with e1 | ⟨e1, e2⟩ | ⟨e1, e2, e3⟩ <;> rcases c2 with f1 | ⟨f1, f2⟩ | ⟨f1, f2, f3⟩ | ⟨f1, f2, f3, f4⟩
  all_goals
    go_enter Try.func32, Try.ntmps32
    go_wp2
    refine bodyPost_ret (results_row_tmp rfl _ _ (w.heap.size + 2) 60 #[.int .i64 0, .slice none 0 0, .slice none 0 0] (0, 0) _ rfl ?_ Try.underlying60 rfl size60) rfl ?_
    · exact Blk.new3 w _ _ _ _
    · exact JoinDid.none_ hA hB ((((Only.refl _ w).alloc _).alloc _).alloc _)

set_option maxHeartbeats 2000000 in
theorem join_one (at0 : Int) (A : Option Addr) (n c : Nat) (del : List Int) (A' : Option Addr) (n' c' : Nat) (ins : List Int) (S S' : Nat → Prop)
    (at1 : Int) (B : Option Addr) (m d : Nat) (del1 : List Int) (B' : Option Addr) (m' d' : Nat) (ins1 : List Int) (T T' : Nat → Prop) (w : World)
    (hr : RdI w S A n c del) (hr' : RdI w S' A' n' c' ins) (hn : small n) (hn' : small n') (hq : RdI w T B m d del1) (hq' : RdI w T' B' m' d' ins1) (hm : small m) (w0 : word at0) (w1 : word at1)
    (hs : small (n' + m')) (hA : joinA ⟨at0, del, ins⟩ ⟨at1, del1, ins1⟩) :
    Calls Try.prog 32 #[.agg #[.int .i64 at0, .slice A n c, .slice A' n' c'], .agg #[.int .i64 at1, .slice B m d, .slice B' m' d']] w (JoinDid w ⟨at0, del, ins⟩ ⟨at1, del1, ins1⟩) := by
  have hE : joinE ⟨at0, del, ins⟩ ⟨at1, del1, ins1⟩ = ⟨at0, del, ins ++ ins1⟩ := by unfold joinE; rw [if_pos hA]
  have hI : joinIs ⟨at0, del, ins⟩ ⟨at1, del1, ins1⟩ = true := by unfold joinIs; simp [hA]
  unfold JoinDid
  rw [hE, hI]
  obtain rfl : del1 = [] := hA.1
  obtain rfl : m = 0 := by have := hq.len; simpa using this.symm
  have L1 := hr'.len
  have L3 := hq'.len
  have h2 : at1 = at0 + (n' : Int) := by have := hA.2; simp only [L1] at this; exact this
  obtain ⟨e2, e3⟩ := (sub_eq_iff w1 w0 hn').2 h2
  have hfl : small [ins, ins1].flatten.length := by simp [L1, L3]; exact hs
  clear hE hI hA L1 L3 h2
  go_enter Try.func32, Try.ntmps32
  go_wp2
  obtain ⟨W0, hW0⟩ : ∃ W0, W0 = ((w.alloc (.cells #[.int .i64 at0, .slice A n c, .slice A' n' c'] 60)).alloc (.cells #[.int .i64 at1, .slice B 0 d, .slice B' m' d'] 60)).alloc (.cells #[.int .i64 0, .slice none 0 0, .slice none 0 0] 60) := ⟨_, rfl⟩
  rw [← hW0]
  have hp0 : Pure w W0 := by rw [hW0]; exact (((Only.refl _ w).alloc _).alloc _).alloc _
  have ha : Blk W0 w.heap.size 60 #[.int .i64 at0, .slice A n c, .slice A' n' c'] := by rw [hW0]; exact ((Blk.new w _ _).alloc _).alloc _
  have hb : Blk W0 (w.heap.size + 1) 60 #[.int .i64 at1, .slice B 0 d, .slice B' m' d'] := by
    rw [hW0]; have := Blk.new (w.alloc (.cells #[.int .i64 at0, .slice A n c, .slice A' n' c'] 60)) 60 #[.int .i64 at1, .slice B 0 d, .slice B' m' d']; rw [World.size_alloc] at this; exact this.alloc _
  have hz : Blk W0 (w.heap.size + 2) 60 #[.int .i64 0, .slice none 0 0, .slice none 0 0] := by rw [hW0]; exact Blk.new3 w _ _ _ _
  clear hW0
  have a0 : W0.cell? ⟨w.heap.size, 0, none⟩ = some (.int .i64 at0) := ha.cell 0
  have a1 : W0.cell? ⟨w.heap.size, 1, none⟩ = some (.slice A n c) := ha.cell 1
  have a2 : W0.cell? ⟨w.heap.size, 2, none⟩ = some (.slice A' n' c') := ha.cell 2
  have b2 : W0.cell? ⟨w.heap.size + 1, 2, none⟩ = some (.slice B' m' d') := hb.cell 2
  have far1 : ¬ w.heap.size + 1 + 1 = w.heap.size := by omega
  have far2 : ¬ w.heap.size + 1 + 1 = w.heap.size + 1 := by omega
  clear e2 e3
  go_region_held3 (fun X => X.cell? ⟨w.heap.size, 0, none⟩ = some (.int .i64 at0) ∧ X.cell? ⟨w.heap.size, 1, none⟩ = some (.slice A n c) ∧ X.cell? ⟨w.heap.size, 2, none⟩ = some (.slice A' n' c') ∧ X.cell? ⟨w.heap.size + 1, 2, none⟩ = some (.slice B' m' d'))
    (first | go_keep | exact ⟨a0, a1, a2, b2⟩ | exact ⟨i0, i1, i2, ib2⟩ | exact ⟨f0, f1, f2, fb2⟩)
    (first
      | (go_at_call 69; refine (concat_any (some ⟨w4.heap.size, 0, none⟩) 2 2 [ins, ins1] (fun _ => True) (w4.alloc (.cells #[.slice A' n' c', .slice B' m' d'] 22)) (RdL.two (hr'.pure_ (hp0.trans hp4)) (hq'.pure_ (hp0.trans hp4))) (by omega) hfl).mono ?_; rintro e w5 ⟨A5, n5, c5, rfl, hR5, hp5⟩; have hp45 : Pure w4 w5 := ((Only.refl _ w4).alloc _).trans hp5; have hs45 := hp4.size; have hX5 : RdI w5 (fun b => W0.heap.size ≤ b) A5 n5 c5 [ins, ins1].flatten := RdI.mono hR5 (fun b _ hb => by have hb2 : _ ≤ b := hb; (try simp at hb2); omega); have hX3 : RdI w5 (fun b => W0.heap.size ≤ b) A3 n3 c3 del := RdI.pure_ hR4 hp45; have hp05 := hp4.trans hp45; have ha5 := ha4.pure_ hp45; have hb5 := hb4.pure_ hp45; have hz5 := hz4.pure_ hp45; have f0 : w5.cell? ⟨w.heap.size, 0, none⟩ = some (.int .i64 at0) := ha5.cell 0; have f1 : w5.cell? ⟨w.heap.size, 1, none⟩ = some (.slice A n c) := ha5.cell 1; have f2 : w5.cell? ⟨w.heap.size, 2, none⟩ = some (.slice A' n' c') := ha5.cell 2; have fb0 : w5.cell? ⟨w.heap.size + 1, 0, none⟩ = some (.int .i64 at1) := hb5.cell 0; have fb1 : w5.cell? ⟨w.heap.size + 1, 1, none⟩ = some (.slice B 0 d) := hb5.cell 1; have fb2 : w5.cell? ⟨w.heap.size + 1, 2, none⟩ = some (.slice B' m' d') := hb5.cell 2; have z0 : w5.cell? ⟨w.heap.size + 1 + 1, 0, none⟩ = some (.int .i64 0) := hz5.cell 0; have y0 : w5.frozen? ⟨w.heap.size + 1 + 1, 0, none⟩ = false := hz5.frozen 0; have z1 : w5.cell? ⟨w.heap.size + 1 + 1, 1, none⟩ = some (.slice none 0 0) := hz5.cell 1; have y1 : w5.frozen? ⟨w.heap.size + 1 + 1, 1, none⟩ = false := hz5.frozen 1; have z2 : w5.cell? ⟨w.heap.size + 1 + 1, 2, none⟩ = some (.slice none 0 0) := hz5.cell 2; have y2 : w5.frozen? ⟨w.heap.size + 1 + 1, 2, none⟩ = false := hz5.frozen 2)
      | (go_at_call 69; refine (concat_any (some ⟨W0.heap.size, 0, none⟩) 2 2 [ins, ins1] (fun _ => True) (v4) (hV4) (by omega) hfl).mono ?_; rintro e w5 ⟨A5, n5, c5, rfl, hR5, hp5⟩; have hs45 := ho4.size; have hX5 : RdI w5 (fun b => W0.heap.size ≤ b) A5 n5 c5 [ins, ins1].flatten := RdI.mono hR5 (fun b _ hb => by have hb2 : _ ≤ b := hb; (try simp at hb2); omega); have hX3 : RdI w5 (fun b => W0.heap.size ≤ b) A3 n3 c3 del := RdI.pure_ hR4 hp5; have hp05 := ho4.trans hp5; have ha5 := ha4.pure_ hp5; have hb5 := hb4.pure_ hp5; have hz5 := hz4.pure_ hp5; have f0 : w5.cell? ⟨w.heap.size, 0, none⟩ = some (.int .i64 at0) := ha5.cell 0; have f1 : w5.cell? ⟨w.heap.size, 1, none⟩ = some (.slice A n c) := ha5.cell 1; have f2 : w5.cell? ⟨w.heap.size, 2, none⟩ = some (.slice A' n' c') := ha5.cell 2; have fb0 : w5.cell? ⟨w.heap.size + 1, 0, none⟩ = some (.int .i64 at1) := hb5.cell 0; have fb1 : w5.cell? ⟨w.heap.size + 1, 1, none⟩ = some (.slice B 0 d) := hb5.cell 1; have fb2 : w5.cell? ⟨w.heap.size + 1, 2, none⟩ = some (.slice B' m' d') := hb5.cell 2; have z0 : w5.cell? ⟨w.heap.size + 1 + 1, 0, none⟩ = some (.int .i64 0) := hz5.cell 0; have y0 : w5.frozen? ⟨w.heap.size + 1 + 1, 0, none⟩ = false := hz5.frozen 0; have z1 : w5.cell? ⟨w.heap.size + 1 + 1, 1, none⟩ = some (.slice none 0 0) := hz5.cell 1; have y1 : w5.frozen? ⟨w.heap.size + 1 + 1, 1, none⟩ = false := hz5.frozen 1; have z2 : w5.cell? ⟨w.heap.size + 1 + 1, 2, none⟩ = some (.slice none 0 0) := hz5.cell 2; have y2 : w5.frozen? ⟨w.heap.size + 1 + 1, 2, none⟩ = false := hz5.frozen 2)
      | (go_at_call 70; refine (clone_any A n c del S u4 (hr.pure_ (hp0.trans hq4)) hn).mono ?_; rintro e w5 ⟨A3, n3, c3, rfl, hR5, hp5⟩; have hs45 := hq4.size; have hX5 : RdI w5 (fun b => W0.heap.size ≤ b) A5 n5 c5 [ins, ins1].flatten := RdI.pure_ hQ4 hp5; have hX3 : RdI w5 (fun b => W0.heap.size ≤ b) A3 n3 c3 del := RdI.mono hR5 (fun b _ hb => by have hb2 : _ ≤ b := hb; (try simp at hb2); omega); have hp05 := hq4.trans hp5; have ha5 := ha4.pure_ hp5; have hb5 := hb4.pure_ hp5; have hz5 := hz4.pure_ hp5; have f0 : w5.cell? ⟨w.heap.size, 0, none⟩ = some (.int .i64 at0) := ha5.cell 0; have f1 : w5.cell? ⟨w.heap.size, 1, none⟩ = some (.slice A n c) := ha5.cell 1; have f2 : w5.cell? ⟨w.heap.size, 2, none⟩ = some (.slice A' n' c') := ha5.cell 2; have fb0 : w5.cell? ⟨w.heap.size + 1, 0, none⟩ = some (.int .i64 at1) := hb5.cell 0; have fb1 : w5.cell? ⟨w.heap.size + 1, 1, none⟩ = some (.slice B 0 d) := hb5.cell 1; have fb2 : w5.cell? ⟨w.heap.size + 1, 2, none⟩ = some (.slice B' m' d') := hb5.cell 2; have z0 : w5.cell? ⟨w.heap.size + 1 + 1, 0, none⟩ = some (.int .i64 0) := hz5.cell 0; have y0 : w5.frozen? ⟨w.heap.size + 1 + 1, 0, none⟩ = false := hz5.frozen 0; have z1 : w5.cell? ⟨w.heap.size + 1 + 1, 1, none⟩ = some (.slice none 0 0) := hz5.cell 1; have y1 : w5.frozen? ⟨w.heap.size + 1 + 1, 1, none⟩ = false := hz5.frozen 1; have z2 : w5.cell? ⟨w.heap.size + 1 + 1, 2, none⟩ = some (.slice none 0 0) := hz5.cell 2; have y2 : w5.frozen? ⟨w.heap.size + 1 + 1, 2, none⟩ = false := hz5.frozen 2)
      | (go_at_call 69; refine (concat_any (some ⟨W0.heap.size, 0, none⟩) 2 2 [ins, ins1] (fun _ => True) ((W0.alloc (.cells #[.slice A' n' c', .slice B' m' d'] 22)).drew) (RdL.pure_ (RdL.two (hr'.pure_ hp0) (hq'.pure_ hp0)) (Only.refl _ _).drew) (by omega) hfl).mono ?_; rintro e u4 ⟨A5, n5, c5, rfl, hQ4', hq4'⟩; have hq4 : Pure W0 u4 := (((Only.refl _ W0).alloc _).drew).trans hq4'; have hQ4 : RdI u4 (fun b => W0.heap.size ≤ b) A5 n5 c5 [ins, ins1].flatten := RdI.mono hQ4' (fun b _ hb => by have hb2 : _ ≤ b := hb; (try simp at hb2); omega); have ha4 := ha.pure_ hq4; have hb4 := hb.pure_ hq4; have hz4 := hz.pure_ hq4; have i0 : u4.cell? ⟨w.heap.size, 0, none⟩ = some (.int .i64 at0) := ha4.cell 0; have i1 : u4.cell? ⟨w.heap.size, 1, none⟩ = some (.slice A n c) := ha4.cell 1; have i2 : u4.cell? ⟨w.heap.size, 2, none⟩ = some (.slice A' n' c') := ha4.cell 2; have ib0 : u4.cell? ⟨w.heap.size + 1, 0, none⟩ = some (.int .i64 at1) := hb4.cell 0; have ib1 : u4.cell? ⟨w.heap.size + 1, 1, none⟩ = some (.slice B 0 d) := hb4.cell 1; have ib2 : u4.cell? ⟨w.heap.size + 1, 2, none⟩ = some (.slice B' m' d') := hb4.cell 2)
      | (go_at_call 70; refine (clone_any A n c del S W0.drew (hr.pure_ (hp0.drew)) hn).mono ?_; rintro e w4 ⟨A3, n3, c3, rfl, hR4, hp4'⟩; have hp4 := hp4'.ofDrew; have ha4 := ha.pure_ hp4; have hb4 := hb.pure_ hp4; have hz4 := hz.pure_ hp4; have i0 : w4.cell? ⟨w.heap.size, 0, none⟩ = some (.int .i64 at0) := ha4.cell 0; have i1 : w4.cell? ⟨w.heap.size, 1, none⟩ = some (.slice A n c) := ha4.cell 1; have i2 : w4.cell? ⟨w.heap.size, 2, none⟩ = some (.slice A' n' c') := ha4.cell 2; have ib0 : w4.cell? ⟨w.heap.size + 1, 0, none⟩ = some (.int .i64 at1) := hb4.cell 0; have ib1 : w4.cell? ⟨w.heap.size + 1, 1, none⟩ = some (.slice B 0 d) := hb4.cell 1; have ib2 : w4.cell? ⟨w.heap.size + 1, 2, none⟩ = some (.slice B' m' d') := hb4.cell 2)
      | (go_at_call 70; refine (clone_any A n c del S (W0.alloc (.cells #[.slice A' n' c', .slice B' m' d'] 22)).drew (hr.pure_ ((hp0.alloc _).drew)) hn).mono ?_; rintro e v4 ⟨A3, n3, c3, rfl, hR4', ho4'⟩; have ho4 : Pure W0 v4 := (((Only.refl _ W0).alloc _).drew).trans ho4'; have hR4 : RdI v4 (fun b => W0.heap.size ≤ b) A3 n3 c3 del := RdI.mono hR4' (fun b _ hb => by have hb2 : _ ≤ b := hb; (try simp at hb2); omega); have hV4 := RdL.pure_ (RdL.pure_ (RdL.two (hr'.pure_ hp0) (hq'.pure_ hp0)) (Only.refl _ _).drew) ho4'; have ha4 := ha.pure_ ho4; have hb4 := hb.pure_ ho4; have hz4 := hz.pure_ ho4; have i0 : v4.cell? ⟨w.heap.size, 0, none⟩ = some (.int .i64 at0) := ha4.cell 0; have i1 : v4.cell? ⟨w.heap.size, 1, none⟩ = some (.slice A n c) := ha4.cell 1; have i2 : v4.cell? ⟨w.heap.size, 2, none⟩ = some (.slice A' n' c') := ha4.cell 2; have ib0 : v4.cell? ⟨w.heap.size + 1, 0, none⟩ = some (.int .i64 at1) := hb4.cell 0; have ib1 : v4.cell? ⟨w.heap.size + 1, 1, none⟩ = some (.slice B 0 d) := hb4.cell 1; have ib2 : v4.cell? ⟨w.heap.size + 1, 2, none⟩ = some (.slice B' m' d') := hb4.cell 2))
  all_goals
    go_wp2
    have ho : Only (fun b => b = w.heap.size + 2) w5 (((w5.setCell ⟨w.heap.size + 2, 0, none⟩ (.int .i64 at0)).setCell ⟨w.heap.size + 2, 1, none⟩ (.slice A3 n3 c3)).setCell ⟨w.heap.size + 2, 2, none⟩ (.slice A5 n5 c5)) := (((Only.refl _ w5).set 0 _).set 1 _).set 2 _
    have hs0 := hp0.size
    have hlz := hz.lt
    refine bodyPost_ret (results_row_tmp rfl _ _ (w.heap.size + 2) 60 #[.int .i64 at0, .slice A3 n3 c3, .slice A5 n5 c5] (0, 0) _ rfl (by simpa [Blk] using ((hz5.set_ 0 (.int .i64 at0)).set_ 1 (.slice A3 n3 c3)).set_ 2 (.slice A5 n5 c5)) Try.underlying60 rfl size60) rfl ?_
    refine ⟨A3, n3, c3, A5, n5, c5, rfl, RdI.mono (hX3.only ho fun b hb _ e => ?_) (fun b _ hb => ?_), RdI.mono (RdI.only (by simpa using hX5) ho fun b hb _ e => ?_) (fun b _ hb => ?_), (hp0.trans hp05).then_ ho fun i hi e => ?_⟩
    · have h1 : W0.heap.size ≤ b := hb; have h2 : b = w.heap.size + 2 := e; omega
    · have h1 : W0.heap.size ≤ b := hb; omega
    · have h1 : W0.heap.size ≤ b := hb; have h2 : b = w.heap.size + 2 := e; omega
    · have h1 : W0.heap.size ≤ b := hb; omega
    · have h2 : i = w.heap.size + 2 := e; omega

end Go.Proofs.Ytinlpmgchcbjpaa
