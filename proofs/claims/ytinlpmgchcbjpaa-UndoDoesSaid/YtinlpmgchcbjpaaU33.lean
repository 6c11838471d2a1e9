/- The reference list: All. -/
import Derived.Test.YtinlpmgchcbjpaaU29
namespace Go.Proofs.Ytinlpmgchcbjpaa
open Go Go.RowKit
set_option maxHeartbeats 2000000
set_option maxRecDepth 100000

theorem halt2 {p : Prop} (h : True → p) : p := h trivial

/-- One group more in a row that shows groups of the list itself. -/
theorem OwnK.alias {w X W9 : World} {A : Option Addr} {n c : Nat} {A' : Option Addr} {c' : Nat} {xs : List (List Ed)} {x : List Ed} {a : Option Addr} {m d : Nat} {vs : List Value} (hl : xs.length = n) (hown : X.ownsRow w.heap.size 71 1 (.slice A n c) n vs)
    (hes : ∀ j, j < n → grKind.rd X (Old w) ((vs.drop (j * 1)).take 1) (xs[j]?.getD [])) (hp : Pure w X) (hx : RdE w (Old w) a m d x)
    (ho5 : W9.ownsRow w.heap.size 71 1 (.slice A' (n + 1) c') (n + 1) (vs ++ [.slice a m d])) (hp5 : Only (fun b => (Value.slice A n c).ownBlock = some b) (X.alloc (.cells #[.slice a m d] 71)) W9)
    (hat : (Value.slice A' (n + 1) c').ownBlock = (Value.slice A n c).ownBlock ∨ (Value.slice A' (n + 1) c').ownBlock = some (X.alloc (.cells #[.slice a m d] 71)).heap.size) :
    OwnK grKind 71 1 [] w.heap.size W9 A' (n + 1) c' (xs ++ [x]) (Old w) ∧ Pure w W9 := by
  have hs := hp.size
  have h4 : ∀ b, Old w b → (Value.slice A n c).ownBlock ≠ some b := fun b hb e => by
    have h1 := (hown.lt b e).1
    have h2 : b < w.heap.size := hb
    omega
  have h5 : ∀ b, Old w b → b < X.heap.size := fun b hb => by have h2 : b < w.heap.size := hb; omega
  have hst := OwnK.step (K := grKind) (z := []) hl hown hes h4 h5 (Only.refl _ X) (x := x) (Sx := Old w) ⟨a, m, d, rfl, RdK'.pure_ hx hp⟩ rfl (fun b hb => ⟨h5 b hb, h4 b hb⟩) ((Only.refl (fun _ => False) X).alloc _) ho5 hp5 hat
  obtain ⟨q1, vs', q2, q3, q4, q5⟩ := hst
  exact ⟨⟨q1, vs', q2, fun j hj => grKind.mono (q3 j hj) fun b _ hb => hb.elim id id, fun b hb => q4 b (.inl hb), fun b hb => q5 b (.inl hb)⟩, (hp.alloc _).then_ hp5 fun i hi e => by have := (hown.lt i e).1; omega⟩

def AllDid (w : World) (gs : List (List Ed)) (now : List Ed) (e : Ending) (w' : World) : Prop :=
  ∃ A c, e = .returned (.slice A (allG gs now).length c) ∧ RdG w' (fun _ => True) A (allG gs now).length c (allG gs now) ∧ Pure w w'

theorem drop_rev (gs : List (List Ed)) {z : Nat} (hz : z < gs.length) : (gs.drop z).reverse = (gs.drop (z + 1)).reverse ++ [gs[z]?.getD []] := by
  rw [List.getElem?_eq_getElem hz, List.drop_eq_getElem_cons hz]; simp

theorem rall_any (g : Nat) (S : Nat → Prop) (gs : List (List Ed)) (now : List Ed) (op : Int) (w : World) (hU : RL w S g gs now op) :
    Calls Try.prog 46 #[.pointer (some ⟨g, 0, none⟩)] w (AllDid w gs now) := by
  obtain ⟨_, Ag, ng, cg, An, nn, cn, Sg, Sn, hB, hG, hE, hS, h1, h2, h3, h4, _⟩ := hU
  have hle := tot_groups (now := now) h4
  have hlg := hG.len
  have hln := hE.len
  have c0 : w.cell? ⟨g, 0, none⟩ = some (.slice Ag ng cg) := hB.cell 0
  have c2 : w.cell? ⟨g, 2, none⟩ = some (.slice An nn cn) := hB.cell 2
  have hngI : (ng : Int) ≤ 16384 := by omega
  have hgl := hB.lt
  have hGr : RdG w (Old w) Ag ng cg gs := RdK'.mono hG.rd fun b hb _ => hb
  have hEr : RdE w (Old w) An nn cn now := RdK'.mono hE.rd fun b hb _ => hb
  have HLG := hid hlg
  have HLN := hid hln
  have HLE := hid hle
  have HB := hid hB
  obtain ⟨N0, hN0⟩ : ∃ N0, N0 = nowG now := ⟨_, rfl⟩
  have hN1 : N0.length ≤ 1 := by rw [hN0]; unfold nowG; split <;> simp
  have hall : allG gs now = N0 ++ gs.reverse := by rw [hN0]; rfl
  have HALL := hid hall
  have HN1 := hid hN1
  clear hle hlg hln h3 h4 hB hG hE hS h1 h2 hall hN1
  have key : ∀ (A1 : Option Addr) (c1 : Nat) (w1 : World), OwnK grKind 71 1 [] w.heap.size w1 A1 N0.length c1 N0 (Old w) → Pure w w1 → True := fun _ _ _ _ _ => trivial
  clear key
  by_cases hz : nn = 0
  · subst hz
    have hnow : now = [] := List.eq_nil_of_length_eq_zero HLN.out
    have hN00 : N0 = [] := by rw [hN0, hnow]; rfl
    have hI0 : OwnK grKind 71 1 [] w.heap.size w none 0 0 N0 (Old w) := by
      rw [hN00]
      exact ⟨rfl, [], World.ownsRow_nil _ _ _ _, fun j hj => absurd hj (by omega), fun b _ e => by simp [Value.ownBlock] at e, fun b hb => hb⟩
    clear hnow hN00 hN0
    go_enter Try.func46, Try.ntmps46
    go_wp2_with fail
    go_loopw [3, 4] (fun v i wr => ∃ (z n : Nat) (A : Option Addr) (c : Nat), z ≤ ng ∧ i = .int .i64 ((z : Int) - 1) ∧ v = .slice A n c ∧ OwnK grKind 71 1 [] w.heap.size wr A n c (N0 ++ (gs.drop z).reverse) (Old w) ∧ Pure w wr) (fun _ i _ => (intOf i + 1).toNat)
    case atStart => exact ⟨ng, 0, none, 0, Nat.le_refl _, by go_num, rfl, by rw [← HLG.out, List.drop_length]; simpa using hI0, Only.refl _ _⟩
    case round =>
      clear hI0 
      obtain ⟨z, n, A, c, hz, rfl, rfl, hO, hp⟩ := hrel
      have d0 : wr.cell? ⟨g, 0, none⟩ = some (.slice Ag ng cg) := (HB.out.pure_ hp).cell 0
      have hnl : n ≤ 16385 := by
        have h1 := hO.len
        rw [List.length_append, List.length_reverse, List.length_drop] at h1
        have h2 := HN1.out; have h3 := HLG.out
        omega
      cases z with
      | zero =>
        have hz1 : ((0 : Nat) : Int) - 1 = -1 := rfl
        rw [hz1]
        have hlen : n = (allG gs now).length := by
          have h1 := hO.len
          rw [HALL.out, ← h1]; simp
        have hR : RdG wr (fun _ => True) A n c (allG gs now) := by
          rw [HALL.out]
          have := RdK'.mono (S' := fun _ => True) hO.rd fun _ _ _ => trivial
          simpa using this
        clear hO hz1
        go_wp2
        go_ret
        subst hlen
        exact ⟨A, c, rfl, hR, hp⟩
      | succ j =>
        have hj1 : ((j + 1 : Nat) : Int) - 1 = (j : Int) := by omega
        rw [hj1]
        have hjI : (0 : Int) ≤ (j : Int) := by omega
        have hjm : j < ng := by omega
        have hjm' : (j : Int) < (ng : Int) := by omega
        obtain ⟨gx, ox, a, m, d, rfl, hgx, _, hc, hx⟩ := RdG.at_ hGr hjm
        have hc' : wr.cell? ⟨gx, ox + j, none⟩ = some (.slice a m d) := (hp.cell (p := ⟨gx, ox + j, none⟩) hgx (fun x => x)).trans hc
        have hdr := drop_rev gs (z := j) (by rw [HLG.out]; exact hjm)
        obtain ⟨hl, vs, hown, hes, _⟩ := hO
        have HL := hid hl
        have HDR := hid hdr
        have hsw := hp.size
        clear hj1 hc hl hdr
        go_wp2_with (at_builtin; refine halt2 ?_)
        intro _
        refine appendG (.tmp 28) (.tmp 36) rfl rfl w.heap.size (.slice A n c) n vs rfl (own_only hown ((Only.refl (fun _ => False) wr).alloc _) fun _ _ x => x) _ (some ⟨wr.heap.size, 0, none⟩) 1 1 [.slice a m d] (by rfl) (Rd.one wr _ _) (by simp [Value.oneCell']) (by unfold maxLen; omega) (by omega) (by simp; omega) ?_
        intro A5 c5 w5 ho5 hp5 hat5
        obtain ⟨hO5, hp05⟩ := OwnK.alias HL.out hown hes hp hx ho5 hp5 hat5
        clear hown hes ho5 hp5 hat5
        go_wp2
        go_roundw
        case rel => exact ⟨j, n + 1, A5, c5, by omega, by go_num, rfl, by rw [HDR.out, ← List.append_assoc]; exact hO5, hp05⟩
        case measure => simp [intOf] <;> omega
  · have hn0 : (0 : Int) < (nn : Int) := by omega
    have hnow : now ≠ [] := fun e => by have := HLN.out; rw [e] at this; simp at this; omega
    have hN00 : N0 = [now] := by rw [hN0]; unfold nowG; rw [if_neg hnow]
    clear hnow hN0 hz
    go_enter Try.func46, Try.ntmps46
    go_wp2_with (at_builtin; refine halt2 ?_)
    intro _
    refine appendG (.tmp 11) (.tmp 16) rfl rfl w.heap.size (.slice none 0 0) 0 [] rfl (World.ownsRow_nil _ _ _ _) _ (some ⟨w.heap.size, 0, none⟩) 1 1 [.slice An nn cn] (by rfl) (Rd.one w _ _) (by simp [Value.oneCell']) (by unfold maxLen; omega) (by omega) (by simp) ?_
    intro A1 c1 w1 ho1 hp1 hat1
    obtain ⟨hI0', hp01⟩ := OwnK.alias (xs := []) (n := 0) rfl (World.ownsRow_nil _ _ _ _) (fun j hj => absurd hj (by omega)) (Only.refl _ w) hEr ho1 hp1 hat1
    have hI0 : OwnK grKind 71 1 [] w.heap.size w1 A1 (0 + 1) c1 N0 (Old w) := by rw [hN00]; exact hI0'
    have c0' : w1.cell? ⟨g, 0, none⟩ = some (.slice Ag ng cg) := (HB.out.pure_ hp01).cell 0
    clear hI0' ho1 hp1 hat1 hN00
    go_wp2_with fail
    go_loopw [3, 4] (fun v i wr => ∃ (z n : Nat) (A : Option Addr) (c : Nat), z ≤ ng ∧ i = .int .i64 ((z : Int) - 1) ∧ v = .slice A n c ∧ OwnK grKind 71 1 [] w.heap.size wr A n c (N0 ++ (gs.drop z).reverse) (Old w) ∧ Pure w wr) (fun _ i _ => (intOf i + 1).toNat)
    case atStart => exact ⟨ng, 0 + 1, A1, c1, Nat.le_refl _, by go_num, rfl, by rw [← HLG.out, List.drop_length]; simpa using hI0, hp01⟩
    case round =>
      clear hI0 c0' hp01
      obtain ⟨z, n, A, c, hz, rfl, rfl, hO, hp⟩ := hrel
      have d0 : wr.cell? ⟨g, 0, none⟩ = some (.slice Ag ng cg) := (HB.out.pure_ hp).cell 0
      have hnl : n ≤ 16385 := by
        have h1 := hO.len
        rw [List.length_append, List.length_reverse, List.length_drop] at h1
        have h2 := HN1.out; have h3 := HLG.out
        omega
      cases z with
      | zero =>
        have hz1 : ((0 : Nat) : Int) - 1 = -1 := rfl
        rw [hz1]
        have hlen : n = (allG gs now).length := by
          have h1 := hO.len
          rw [HALL.out, ← h1]; simp
        have hR : RdG wr (fun _ => True) A n c (allG gs now) := by
          rw [HALL.out]
          have := RdK'.mono (S' := fun _ => True) hO.rd fun _ _ _ => trivial
          simpa using this
        clear hO hz1
        go_wp2
        go_ret
        subst hlen
        exact ⟨A, c, rfl, hR, hp⟩
      | succ j =>
        have hj1 : ((j + 1 : Nat) : Int) - 1 = (j : Int) := by omega
        rw [hj1]
        have hjI : (0 : Int) ≤ (j : Int) := by omega
        have hjm : j < ng := by omega
        have hjm' : (j : Int) < (ng : Int) := by omega
        obtain ⟨gx, ox, a, m, d, rfl, hgx, _, hc, hx⟩ := RdG.at_ hGr hjm
        have hc' : wr.cell? ⟨gx, ox + j, none⟩ = some (.slice a m d) := (hp.cell (p := ⟨gx, ox + j, none⟩) hgx (fun x => x)).trans hc
        have hdr := drop_rev gs (z := j) (by rw [HLG.out]; exact hjm)
        obtain ⟨hl, vs, hown, hes, _⟩ := hO
        have HL := hid hl
        have HDR := hid hdr
        have hsw := hp.size
        clear hj1 hc hl hdr
        go_wp2_with (at_builtin; refine halt2 ?_)
        intro _
        refine appendG (.tmp 28) (.tmp 36) rfl rfl w.heap.size (.slice A n c) n vs rfl (own_only hown ((Only.refl (fun _ => False) wr).alloc _) fun _ _ x => x) _ (some ⟨wr.heap.size, 0, none⟩) 1 1 [.slice a m d] (by rfl) (Rd.one wr _ _) (by simp [Value.oneCell']) (by unfold maxLen; omega) (by omega) (by simp; omega) ?_
        intro A5 c5 w5 ho5 hp5 hat5
        obtain ⟨hO5, hp05⟩ := OwnK.alias HL.out hown hes hp hx ho5 hp5 hat5
        clear hown hes ho5 hp5 hat5
        go_wp2
        go_roundw
        case rel => exact ⟨j, n + 1, A5, c5, by omega, by go_num, rfl, by rw [HDR.out, ← List.append_assoc]; exact hO5, hp05⟩
        case measure => simp [intOf] <;> omega

end Go.Proofs.Ytinlpmgchcbjpaa
