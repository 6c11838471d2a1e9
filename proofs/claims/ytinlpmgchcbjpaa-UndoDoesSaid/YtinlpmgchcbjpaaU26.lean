/- The list of edits: Revert. -/
import Derived.Test.YtinlpmgchcbjpaaU24
import Derived.Test.YtinlpmgchcbjpaaU22
namespace Go.Proofs.Ytinlpmgchcbjpaa
open Go Go.RowKit
set_option maxHeartbeats 1000000
set_option maxRecDepth 100000

theorem uclear_g (g : Nat) (S : Nat → Prop) (gs : List (List Ed)) (now : List Ed) (op : Int) (w : World) (hU : UL w S g gs now op) :
    Calls Try.prog 60 #[.pointer (some ⟨g, 0, none⟩)] w fun e w' => e = .returned (.tuple #[]) ∧ UL w' S g [] [] 0 ∧ Only (fun b => b = g) w w' := by
  have c4 := hU.c4
  have hlt := hU.lt
  obtain ⟨h0, Ag, ng, cg, An, nn, cn, Sg, Sn, hB, _⟩ := hU
  have c0 : w.cell? ⟨g, 0, none⟩ = some (.slice Ag ng cg) := hB.cell 0
  have c1 : w.cell? ⟨g, 1, none⟩ = some (.slice An nn cn) := hB.cell 1
  have c2 : w.cell? ⟨g, 2, none⟩ = some (.int .i64 op) := hB.cell 2
  have c3 : w.cell? ⟨g, 3, none⟩ = some (.int .i64 (tot gs now : Nat)) := hB.cell 3
  have f0 := hB.frozen 0
  have f1 := hB.frozen 1
  have f2 := hB.frozen 2
  have f3 := hB.frozen 3
  have f4 := hB.frozen 4
  go_enter Try.func60, Try.ntmps60
  go_wp2_with (go_at_call 78; refine (unone_made g w c4).mono ?_; rintro e w' ⟨rfl, rfl⟩)
  go_end0
  have ho : Only (fun b => b = g) w (((((w.setCell ⟨g, 0, none⟩ (.slice none 0 0)).setCell ⟨g, 1, none⟩ (.slice none 0 0)).setCell ⟨g, 2, none⟩ (.int .i64 0)).setCell ⟨g, 3, none⟩ (.int .i64 0)).setCell ⟨g, 4, none⟩ (.bool true)) := (((((Only.refl _ w).set 0 _).set 1 _).set 2 _).set 3 _).set 4 _
  refine ⟨rfl, ⟨h0, none, 0, 0, none, 0, 0, fun _ => False, fun _ => False, ?_, OwnK.nil _ _, OwnK.nil _ _, ?_, ?_, ?_, ?_, ?_, ?_, ?_⟩, ho⟩
  · simpa [tot] using ((((hB.set_ 0 (.slice none 0 0)).set_ 1 (.slice none 0 0)).set_ 2 (.int .i64 0)).set_ 3 (.int .i64 0)).set_ 4 (.bool true)
  · rintro b (hb | hb | hb | hb)
    · exact hb.elim
    · exact hb.elim
    · simp [Value.ownBlock] at hb
    · simp [Value.ownBlock] at hb
  · intro b hb; simp [Value.ownBlock] at hb
  · intro b hb; simp [Value.ownBlock] at hb
  · simp [tot]
  · simp
  · simp
  · simp


/-- Each cell of a row of edits is one cell. -/
theorem RdE.cells {w : World} {S : Nat → Prop} {A : Option Addr} {n c : Nat} {es : List Ed} (h : RdE w S A n c es) : ∃ ns, Rd w S 3 A n c ns ∧ (∀ j, j < n → edKind.rd w S ((ns.drop (j * 3)).take 3) (es[j]?.getD Ed.none)) ∧ ∀ u ∈ ns, u.oneCell' = true := by
  obtain ⟨h1, ns, h2, h3⟩ := h
  refine ⟨ns, h2, h3, fun u hu => ?_⟩
  obtain ⟨i, hi, rfl⟩ := List.getElem_of_mem hu
  have hl := h2.1
  obtain ⟨a, m, d, a', m', d', e, _⟩ := h3 (i / 3) (by omega)
  have hmem : ns[i] ∈ (ns.drop (i / 3 * 3)).take 3 := by
    rw [List.mem_iff_getElem?]
    refine ⟨i % 3, ?_⟩
    rw [List.getElem?_take_of_lt (by omega), List.getElem?_drop, show i / 3 * 3 + i % 3 = i by omega, List.getElem?_eq_getElem hi]
  rw [e] at hmem
  simp at hmem
  rcases hmem with h | h | h <;> rw [h] <;> rfl

/-- A row of the call's own, and a row appended to it. -/
theorem OwnK.cat {α : Type} {K : Kind α} {e : TypeId} {k : Nat} {z : α} {base : Nat} {w w5 : World} {A A' : Option Addr} {n c c' m : Nat} {xs ys : List α} {Se Sx : Nat → Prop} {vs ns : List Value} (hl : xs.length = n) (hown : w.ownsRow base e k (.slice A n c) n vs)
    (he : ∀ j, j < n → K.rd w Se ((vs.drop (j * k)).take k) (xs[j]?.getD z)) (h4 : ∀ b, Se b → (Value.slice A n c).ownBlock ≠ some b) (h5 : ∀ b, Se b → b < w.heap.size)
    (hm : ys.length = m) (hy : ∀ j, j < m → K.rd w Sx ((ns.drop (j * k)).take k) (ys[j]?.getD z)) (hSx : ∀ b, Sx b → b < w.heap.size ∧ (Value.slice A n c).ownBlock ≠ some b)
    (ho5 : w5.ownsRow base e k (.slice A' (n + m) c') (n + m) (vs ++ ns)) (hp5 : Only (fun b => (Value.slice A n c).ownBlock = some b) w w5)
    (hat : (Value.slice A' (n + m) c').ownBlock = (Value.slice A n c).ownBlock ∨ (Value.slice A' (n + m) c').ownBlock = some w.heap.size) :
    OwnK K e k z base w5 A' (n + m) c' (xs ++ ys) (fun b => Se b ∨ Sx b) := by
  have hlen : vs.length = n * k := hown.1
  have s5 := hp5.size
  refine ⟨by simp [hl, hm], vs ++ ns, ho5, fun j hj => ?_, fun b hb => ?_, fun b hb => ?_⟩
  · by_cases hlt : j < n
    · have hjk : j * k + k ≤ n * k := by have := Nat.mul_le_mul_right k (show j + 1 ≤ n by omega); rwa [Nat.add_mul, Nat.one_mul] at this
      have e1 : ((vs ++ ns).drop (j * k)).take k = (vs.drop (j * k)).take k := by
        rw [List.drop_append_of_le_length (by omega), List.take_append_of_le_length (by rw [List.length_drop]; omega)]
      have e2 : ((xs ++ ys)[j]?.getD z) = (xs[j]?.getD z) := by rw [List.getElem?_append_left (by omega)]
      rw [e1, e2]
      exact K.mono (K.only (he j hlt) hp5 fun b hb _ => h4 b hb) fun b _ hb => .inl hb
    · obtain ⟨i, rfl⟩ : ∃ i, j = n + i := ⟨j - n, by omega⟩
      have e1 : ((vs ++ ns).drop ((n + i) * k)).take k = (ns.drop (i * k)).take k := by
        rw [Nat.add_mul, ← hlen, ← List.drop_drop, List.drop_left]
      have e2 : ((xs ++ ys)[n + i]?.getD z) = (ys[i]?.getD z) := by rw [List.getElem?_append_right (by omega), hl, Nat.add_sub_cancel_left]
      rw [e1, e2]
      exact K.mono (K.only (hy i (by omega)) hp5 fun b hb _ => (hSx b hb).2) fun b _ hb => .inr hb
  · have key : b < w.heap.size ∧ (Value.slice A n c).ownBlock ≠ some b := by
      rcases hb with h | h
      · exact ⟨h5 b h, h4 b h⟩
      · exact hSx b h
    rcases hat with h | h
    · rw [h]; exact key.2
    · rw [h]; intro e; injection e with e; omega
  · rcases hb with h | h
    · have := h5 b h; omega
    · have := (hSx b h).1; omega

def RevertDid (w : World) (S : Nat → Prop) (g : Nat) (gs : List (List Ed)) (now : List Ed) (r : Ending) (w' : World) : Prop :=
  ∃ A n c, r = .returned (.slice A n c) ∧ RdE w' (fun b => w.heap.size ≤ b) A n c (invs (closeG gs now).flatten) ∧ UL w' (Plus S w.heap.size) g [] [] 0 ∧ Only (fun b => S b ∨ b = g) w w'

theorem len_flatten (gs : List (List Ed)) (k : Nat) : (gs.take k).flatten.length ≤ (gs.map List.length).sum := by
  induction gs generalizing k with
  | nil => simp
  | cons x xs ih =>
    cases k with
    | zero => simp
    | succ k => simp only [List.take_succ_cons, List.flatten_cons, List.length_append, List.map_cons, List.sum_cons]; have := ih k; omega

set_option maxHeartbeats 4000000 in
theorem urevert_any (g : Nat) (S : Nat → Prop) (gs : List (List Ed)) (now : List Ed) (op : Int) (w : World) (hU : UL w S g gs now op) :
    Calls Try.prog 53 #[.pointer (some ⟨g, 0, none⟩)] w (RevertDid w S g gs now) := by
  have c4 := hU.c4
  have hgw := hU.lt
  go_enter Try.func53, Try.ntmps53
  go_wp2_with (go_at_call 78; refine (unone_made g w c4).mono ?_; rintro e w' ⟨rfl, rfl⟩)
  refine (uclose_any g S gs now op w hU).mono ?_
  rintro e w1 ⟨rfl, hU1, ho1⟩
  obtain ⟨gs', hgs⟩ : ∃ gs', gs' = closeG gs now := ⟨_, rfl⟩
  rw [← hgs] at hU1
  have hU1' := hU1
  obtain ⟨k0, Ag, N, cg, An, nn, cn, Sg, Sn, hB, hG, hE, hS, q1, q2, q3, q4, q5, q6⟩ := hU1.tight
  have hle := tot_groups (now := []) q4
  have hlg := hG.len
  have hN : N ≤ 16384 := by simp at hle; omega
  have hNI : (N : Int) ≤ 16384 := by omega
  have e0 : w1.cell? ⟨g, 0, none⟩ = some (.slice Ag N cg) := hB.cell 0
  have hSgl : ∀ b, (Sg b ∨ (Value.slice Ag N cg).ownBlock = some b) → b < w1.heap.size ∧ b ≠ g := by
    rintro b (hb | hb)
    · exact ⟨hG.2.choose_spec.2.2.2 b hb, fun e => k0 (e ▸ hS b (.inl hb))⟩
    · exact ⟨hG.lt b hb, fun e => k0 (e ▸ hS b (.inr (.inr (.inl hb))))⟩
  have hGr : RdG w1 (fun b => b < w1.heap.size ∧ b ≠ g) Ag N cg gs' := RdK'.mono hG.rd fun b _ hb => hSgl b hb
  have hfl : ∀ k, (gs'.take k).flatten.length ≤ 16384 := fun k => by have := len_flatten gs' k; unfold tot at q3; simp at q3; omega
  have hfit : ∀ e ∈ gs'.flatten, e.fit := by
    intro e he
    obtain ⟨x, hx, hex⟩ := List.mem_flatten.1 he
    exact q5 x hx e hex
  have HLG := hid hlg
  have HGS := hid hgs
  have hw1s := ho1.size
  clear hG hE hS q1 q2 q3 q5 q6 hle hlg hB hgs hU1 c4 hSgl
  go_wp2
  go_loopw [3, 16] (fun v i wr => ∃ (k : Nat) (A2 : Option Addr) (n2 c2 : Nat) (Se : Nat → Prop), k ≤ N ∧ i = .int .i64 k ∧ v = .slice A2 n2 c2 ∧ OwnE w1.heap.size wr A2 n2 c2 (gs'.take k).flatten Se ∧ (∀ b, Se b → b < w1.heap.size ∧ b ≠ g) ∧ Pure w1 wr) (fun _ i _ => N - (intOf i).toNat)
  case atStart => exact ⟨0, none, 0, 0, fun _ => False, Nat.zero_le _, rfl, rfl, OwnK.nil _ _, fun _ h => h.elim, Only.refl _ _⟩
  case round =>
    obtain ⟨k, A2, n2, c2, Se, hk, rfl, rfl, hO, hSe, hp⟩ := hrel
    by_cases hlt : k < N
    · obtain ⟨gx, ox, a, m, d, rfl, _, _, hc, hx⟩ := RdG.at_ (RdK'.pure_ hGr hp) hlt
      have hkI : (k : Int) < N := by omega
      have ht := take_ed gs' [] k (by rw [HLG.out]; exact hlt)
      have hf1 : (gs'.take (k + 1)).flatten = (gs'.take k).flatten ++ gs'[k]?.getD [] := by rw [ht]; simp
      have hl1 := hfl (k + 1)
      obtain ⟨x, hxe⟩ : ∃ x, x = gs'[k]?.getD [] := ⟨_, rfl⟩
      rw [← hxe] at hf1 hx
      have hm : x.length = m := hx.1
      obtain ⟨ns, hr1, hr2, hr3⟩ := RdE.cells hx
      obtain ⟨hl2, vs, hown, hes, hd1, hd2⟩ := hO
      have hsum : n2 + m ≤ 16384 := by rw [hf1] at hl1; simp only [List.length_append] at hl1; omega
      have hbase : w1.heap.size ≤ wr.heap.size := hp.size
      have HF1 := hid hf1
      have HL2 := hid hl2
      have HM := hid hm
      clear hxe ht hf1 hl1 hl2 hm
      go_wp2_with (at_builtin; refine appendE (.tmp 20) (.tmp 21) rfl rfl w1.heap.size (.slice A2 n2 c2) n2 vs rfl hown _ a m d ns rfl hr1 hr3 (by unfold maxLen; omega) (by omega) hbase ?_; intro A5 c5 w5 ho5 hp5 hat5)
      have hst := OwnK.cat (z := Ed.none) HL2.out hown hes hd1 hd2 HM.out hr2 (fun b hb => ⟨by have := hb.1; omega, fun e => by have := (hown.lt b e).1; have := hb.1; omega⟩) ho5 hp5 hat5
      rw [← HF1.out] at hst
      have hp5' : Pure w1 w5 := hp.then_ hp5 fun i hi e => by have := (hown.lt i e).1; omega
      have hSe5 : ∀ b, (Se b ∨ b < w1.heap.size ∧ b ≠ g) → b < w1.heap.size ∧ b ≠ g := by
        rintro b (h | h)
        · exact hSe b h
        · exact h
      clear ho5 hp5 hat5 hown hes hr1 hr2 hr3 hx
      go_roundw
      case rel => exact ⟨k + 1, A5, n2 + m, c5, _, by omega, by go_num, rfl, hst, hSe5, hp5'⟩
      case measure => simp [intOf]; omega
    · obtain rfl : k = N := by omega
      rw [List.take_of_length_le (by rw [HLG.out]; exact Nat.le_refl _)] at hO
      have hU2 := hU1'.pure_ hp
      have hfk := hfl k
      rw [List.take_of_length_le (by rw [HLG.out]; exact Nat.le_refl _)] at hfk
      go_wp2_with fail
      refine (uclear_g g _ gs' [] 0 wr hU2).mono ?_
      rintro e w3 ⟨rfl, hU3, ho3⟩
      have hown1 : ∀ b, (Value.slice A2 n2 c2).ownBlock = some b → w1.heap.size ≤ b := fun b hb => (hO.2.choose_spec.1.lt b hb).1
      have hgw1 : g < w1.heap.size := by omega
      have hO3 := hO.only ho3 (fun b hb e => (hSe b hb).2 e) (fun b hb e => by have := hown1 b hb; omega)
      have hn2 : n2 ≤ 16384 := by have := hO.len; omega
      go_wp2_with fail
      refine (inverses_any A2 n2 c2 gs'.flatten _ w3 hO3.rd hn2 hfit).mono ?_
      rintro e w4 ⟨A4, n4, c4, rfl, hR4, hp4⟩
      go_wp2
      go_ret
      have hs3 := ho3.size
      have hps := hp.size
      refine ⟨A4, n4, c4, rfl, ?_, (hU3.pure_ hp4).mono (fun b _ hb => hb) (fun h => k0 ⟨h, hgw1⟩), ((ho1.trans (Only.of_pure hp)).trans (ho3.mono fun _ _ e => .inr e)).trans (Only.of_pure hp4)⟩
      rw [← HGS.out]
      exact RdK'.mono hR4 fun b _ hb => by have hb2 : w3.heap.size ≤ b := hb; omega

end Go.Proofs.Ytinlpmgchcbjpaa
