/- The reference list: Revert. -/
import Derived.Test.YtinlpmgchcbjpaaU39
namespace Go.Proofs.Ytinlpmgchcbjpaa
open Go Go.RowKit
set_option maxHeartbeats 2000000
set_option maxRecDepth 100000

def RRevertDid (w : World) (S : Nat → Prop) (g : Nat) (gs : List (List Ed)) (now : List Ed) (r : Ending) (w' : World) : Prop :=
  ∃ A n c, r = .returned (.slice A n c) ∧ RdE w' (fun b => w.heap.size ≤ b) A n c (invs (closeG gs now).flatten) ∧ RL w' (Plus S w.heap.size) g [] [] 0 ∧ Only (fun b => S b ∨ b = g) w w'

theorem undo_take (gs : List (List Ed)) {j : Nat} (hj : j < gs.length) : undoG (gs.take (j + 1)) [] = gs.take j ∧ undoOut (gs.take (j + 1)) [] = invs (gs[j]?.getD []) := by
  have h : gs.take (j + 1) = gs.take j ++ [gs[j]] := by rw [List.take_add_one, List.getElem?_eq_getElem hj]; rfl
  unfold undoG undoOut closeG
  rw [if_pos rfl, h, List.getElem?_eq_getElem hj]
  generalize gs.take j = t
  simp
theorem invs_flat (gs : List (List Ed)) {j : Nat} (hj : j < gs.length) : invs (gs.drop j).flatten = invs (gs.drop (j + 1)).flatten ++ invs (gs[j]?.getD []) := by
  rw [List.getElem?_eq_getElem hj, List.drop_eq_getElem_cons hj, List.flatten_cons]
  unfold invs
  rw [List.reverse_append, List.map_append]; rfl
theorem flat_drop_le (gs : List (List Ed)) (j : Nat) : (gs.drop j).flatten.length ≤ (gs.map List.length).sum := by
  rw [List.length_flatten]
  have : (gs.take j).map List.length ++ (gs.drop j).map List.length = gs.map List.length := by rw [← List.map_append, List.take_append_drop]
  rw [← this, List.sum_append]; omega
theorem flat_drop_len (gs : List (List Ed)) {j : Nat} (hj : j < gs.length) : (gs.drop j).flatten.length = (gs.drop (j + 1)).flatten.length + (gs[j]?.getD []).length := by
  rw [List.getElem?_eq_getElem hj, List.drop_eq_getElem_cons hj, List.flatten_cons, List.length_append]
  simp only [Option.getD_some]; omega

def lenOf : Value → Nat | .slice _ n _ => n | _ => 0

set_option maxHeartbeats 4000000 in
theorem rrevert_any (g : Nat) (S : Nat → Prop) (gs : List (List Ed)) (now : List Ed) (op : Int) (w : World) (hU : RL w S g gs now op) :
    Calls Try.prog 59 #[.pointer (some ⟨g, 0, none⟩)] w (RRevertDid w S g gs now) := by
  have hgw := hU.lt
  go_enter Try.func59, Try.ntmps59
  go_wp2_with (go_at_call 84; refine (rclose_any g S gs now op w hU).mono ?_; rintro e w1 ⟨rfl, hU1, ho1⟩)
  obtain ⟨gs', hgs⟩ : ∃ gs', gs' = closeG gs now := ⟨_, rfl⟩
  rw [← hgs] at hU1
  have HGS := hid hgs
  have hw1 := ho1.size
  have hU1' := hU1.tight
  have hSg : ¬ S g := hU.1
  clear hgs hU hU1
  have hne : ∀ x ∈ gs', x ≠ [] := by obtain ⟨_, _, _, _, _, _, _, _, _, _, _, _, _, _, _, _, h4, _⟩ := hU1'; exact h4
  have htot : (gs'.map List.length).sum ≤ 16384 := by
    obtain ⟨_, _, _, _, _, _, _, _, _, _, _, _, _, _, _, h4, _⟩ := hU1'
    unfold tot at h4; simp at h4; omega
  go_loopw [3] (fun v wr => ∃ (z n2 : Nat) (A2 : Option Addr) (c2 : Nat) (Se Sx : Nat → Prop), z ≤ gs'.length ∧ v = .slice A2 n2 c2 ∧ RL wr Sx g (gs'.take z) [] 0 ∧ OwnE w1.heap.size wr A2 n2 c2 (invs (gs'.drop z).flatten) Se ∧
      (∀ b, Sx b → b < wr.heap.size ∧ ¬ Se b ∧ (Value.slice A2 n2 c2).ownBlock ≠ some b ∧ (S b ∨ w.heap.size ≤ b)) ∧ (∀ b, Se b → w1.heap.size ≤ b) ∧ Only (fun b => S b ∨ b = g) w wr ∧ w1.heap.size ≤ wr.heap.size) (fun v _ => 20000 - lenOf v)
  case atStart => exact ⟨gs'.length, 0, none, 0, fun _ => False, (fun b => Plus S w.heap.size b ∧ b < w1.heap.size), Nat.le_refl _, rfl, by rw [List.take_length]; exact hU1', by rw [List.drop_length]; exact OwnK.nil _ _, fun b hb => ⟨hb.2, fun h => h, fun e => by simp [Value.ownBlock] at e, by
    rcases hb.1 with h | h
    · exact .inl h
    · exact .inr h⟩, fun _ h => h.elim, ho1, Nat.le_refl _⟩
  case round =>
    clear hU1'
    obtain ⟨z, n2, A2, c2, Se, Sx, hz, rfl, hR, hO, hX, hSe, hW, hsw⟩ := hrel
    have hn2 : n2 ≤ 16384 := by
      have h1 := hO.len
      have h2 := flat_drop_le gs' z
      rw [invs_len'] at h1; omega
    have hgl := hR.lt
    have c0 : ∃ Ag cg, wr.cell? ⟨g, 0, none⟩ = some (.slice Ag z cg) := by
      obtain ⟨_, Ag, ng, cg, An, nn, cn, Sg, Sn, hB, hG, _⟩ := hR
      have h1 := hG.len
      rw [List.length_take] at h1
      obtain rfl : ng = z := by omega
      exact ⟨Ag, cg, hB.cell 0⟩
    obtain ⟨Ag, cg, c0⟩ := c0
    have hown1 : ∀ b, (Value.slice A2 n2 c2).ownBlock = some b → w1.heap.size ≤ b := fun b hb => (hO.2.choose_spec.1.lt b hb).1
    cases z with
    | zero =>
      have hz0 : ¬ (0 : Int) < ((0 : Nat) : Int) := by omega
      rw [List.drop_zero] at hO
      rw [List.take_zero] at hR
      go_wp2
      go_ret
      refine ⟨A2, n2, c2, rfl, ?_, hR.mono (fun b hb h => (hX b h).2.2.2.elim .inl .inr) (fun h => ?_), hW⟩
      · rw [← HGS.out]
        exact RdK'.mono hO.rd fun b _ hb => by
          rcases hb with hb | hb
          · have := hSe b hb; omega
          · have := hown1 b hb; omega
      · rcases h with h | h
        · exact hSg h
        · omega
    | succ j =>
      have hj : j < gs'.length := by omega
      have hjI : (0 : Int) < ((j + 1 : Nat) : Int) := by omega
      obtain ⟨hu1, hu2⟩ := undo_take gs' hj
      have hnn : ¬ (gs'.take (j + 1) = [] ∧ ([] : List Ed) = []) := fun h => by
        have h1 : (gs'.take (j + 1)).length = 0 := by rw [h.1]; rfl
        rw [List.length_take] at h1; omega
      have HNN := hid hnn
      clear hnn
      have hif := invs_flat gs' hj
      have hfd := flat_drop_len gs' hj
      have hfl := flat_drop_le gs' j
      have hxn : 0 < (gs'[j]?.getD []).length := by
        rw [List.getElem?_eq_getElem hj]
        exact List.length_pos_iff.2 (hne _ (List.getElem_mem _))
      obtain ⟨x, hxe⟩ : ∃ x, x = gs'[j]?.getD [] := ⟨_, rfl⟩
      rw [← hxe] at hu2 hif hfd hxn
      have HIF := hid hif
      have HU1 := hid hu1
      have HU2 := hid hu2
      have hlo : n2 = (gs'.drop (j + 1)).flatten.length := by rw [← hO.len, invs_len']
      have HLO := hid hlo
      have HFD := hid hfd
      clear hif hu1 hu2 hxe hlo hfd
      go_wp2_with fail
      refine (rundo_some g Sx (gs'.take (j + 1)) [] 0 wr hR (fun h => HNN.out ⟨h.1, trivial⟩)).mono ?_
      rintro e w3 ⟨A3, n3, c3, B, rfl, hB, hE3, hR3, ho3⟩
      rw [HU2.out] at hE3
      rw [HU1.out] at hR3
      have hs3 := ho3.size
      have hgX : ¬ Sx g := hR.1
      have hOx := hO.only ho3 (fun b hb e => by
        rcases e with e | e
        · exact (hX b e).2.1 hb
        · have := hSe b hb; omega) (fun b hb e => by
        rcases e with e | e
        · exact (hX b e).2.2.1 hb
        · have := hown1 b hb; omega)
      have hm : n3 = x.length := by rw [← hE3.1, invs_len']
      have hsum : n2 + n3 ≤ 16384 := by have h1 := HLO.out; have h2 := HFD.out; omega
      have hE3' : RdE w3 (fun b => B ≤ b ∧ b < w3.heap.size) A3 n3 c3 (invs x) := RdK'.mono hE3 fun b hb h => ⟨h, hb⟩
      obtain ⟨ns, hr1, hr2, hr3⟩ := RdE.cells hE3'
      have hAl : ∀ b, (Value.slice A2 n2 c2).ownBlock = some b → b < wr.heap.size := hO.lt
      have hSel : ∀ b, Se b → b < wr.heap.size := hO.2.choose_spec.2.2.2
      obtain ⟨hl2, vs, hown, hes, hd1, hd2⟩ := hOx
      have HL2 := hid hl2
      have hml : (invs x).length = n3 := by rw [invs_len']; omega
      have HML := hid hml
      have hn3 : 0 < n3 := by omega
      have HN3 := hid hm
      clear hE3 hl2 hml hm hO hR
      go_wp2_with (at_builtin; refine halt3 ?_)
      intro _
      refine appendE (.tmp 19) (.tmp 20) rfl rfl w1.heap.size (.slice A2 n2 c2) n2 vs rfl hown _ A3 n3 c3 ns rfl hr1 hr3 (by unfold maxLen; omega) (by omega) (by omega) ?_
      intro A5 c5 w5 ho5 hp5 hat5
      have hst := OwnK.cat (z := Ed.none) HL2.out hown hes hd1 hd2 HML.out hr2 (fun b hb => ⟨hb.2, fun e => by have := hAl b e; omega⟩) ho5 hp5 hat5
      rw [← HIF.out] at hst
      have hR5 := hR3.only hp5 (fun b hb e => by
        rcases hb.1 with h | h
        · exact (hX b h).2.2.1 e
        · have := hAl b e; omega) (fun e => by have := hown1 g e; omega)
      have hs5 := hp5.size
      have hX5 : ∀ b, (Plus Sx wr.heap.size b ∧ b < B) → b < w5.heap.size ∧ ¬ (Se b ∨ (B ≤ b ∧ b < w3.heap.size)) ∧ (Value.slice A5 (n2 + n3) c5).ownBlock ≠ some b ∧ (S b ∨ w.heap.size ≤ b) := by
        intro b hb
        have hB3 : b < w3.heap.size ∨ w3.heap.size ≤ b := by omega
        have hlt3 : b < w3.heap.size := by
          have := hR3.tight
          rcases hb.1 with h | h
          · have := (hX b h).1; omega
          · by_cases hbb : b < w3.heap.size
            · exact hbb
            · exfalso
              obtain ⟨_, vs', hv', _⟩ := hst
              have : n3 ≠ 0 := by omega
              have hrr := hr1.2.2.2 (by omega)
              obtain ⟨gq, oq, eq, hSq, hgq, _⟩ := hrr
              omega
        refine ⟨by omega, fun h => ?_, fun e => ?_, ?_⟩
        · rcases h with h | h
          · rcases hb.1 with h2 | h2
            · exact (hX b h2).2.1 h
            · have := hSel b h; omega
          · omega
        · rcases hat5 with h | h
          · rw [h] at e
            rcases hb.1 with h2 | h2
            · exact (hX b h2).2.2.1 e
            · have := hAl b e; omega
          · rw [h] at e; injection e with e; omega
        · rcases hb.1 with h | h
          · exact (hX b h).2.2.2
          · have := hW.size; exact .inr (by omega)
      have hW5 : Only (fun b => S b ∨ b = g) w w5 := (hW.then_ ho3 fun i hi e => by
        rcases e with e | e
        · rcases (hX i e).2.2.2 with h | h
          · exact .inl h
          · omega
        · exact .inr e).then_ hp5 fun i hi e => by have := hown1 i e; omega
      clear ho5 hp5 hat5 hown hes hr1 hr2 hr3 hE3'
      go_wp2
      go_roundw
      case rel => exact ⟨j, n2 + n3, A5, c5, _, _, by omega, rfl, hR5, hst, hX5, fun b hb => by
        rcases hb with hb | hb
        · exact hSe b hb
        · omega, hW5, by omega⟩
      case measure => show 20000 - (n2 + n3) < 20000 - n2; omega

end Go.Proofs.Ytinlpmgchcbjpaa
