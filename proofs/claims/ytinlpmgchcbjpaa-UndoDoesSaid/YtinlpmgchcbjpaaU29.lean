/- The reference list: what it holds; Len, Edits, Open, Begin. -/
import Derived.Test.YtinlpmgchcbjpaaU26
import Derived.Test.YtinlpmgchcbjpaaU24
namespace Go.Proofs.Ytinlpmgchcbjpaa
open Go Go.RowKit
set_option maxHeartbeats 1000000
set_option maxRecDepth 100000

/-- The reference list in block g. -/
def RL (w : World) (S : Nat → Prop) (g : Nat) (gs : List (List Ed)) (now : List Ed) (op : Int) : Prop :=
  ¬ S g ∧ ∃ Ag ng cg An nn cn Sg Sn, Blk w g 77 #[.slice Ag ng cg, .int .i64 op, .slice An nn cn] ∧
    OwnK grKind 71 1 [] 0 w Ag ng cg gs Sg ∧ OwnK edKind 60 3 Ed.none 0 w An nn cn now Sn ∧
    (∀ b, Sg b ∨ Sn b ∨ (Value.slice Ag ng cg).ownBlock = some b ∨ (Value.slice An nn cn).ownBlock = some b → S b) ∧
    (∀ b, (Value.slice An nn cn).ownBlock = some b → ¬ Sg b) ∧ (∀ b, (Value.slice Ag ng cg).ownBlock = some b → ¬ Sn b) ∧
    tot gs now ≤ 16384 ∧ (∀ x ∈ gs, x ≠ []) ∧ (∀ x ∈ gs, ∀ e ∈ x, e.fit) ∧ (∀ e ∈ now, e.fit)

section
variable {w w' : World} {S S' T : Nat → Prop} {g : Nat} {gs : List (List Ed)} {now : List Ed} {op : Int}
theorem RL.lt (h : RL w S g gs now op) : g < w.heap.size := by obtain ⟨_, Ag, ng, cg, An, nn, cn, Sg, Sn, hB, _⟩ := h; exact hB.lt
theorem RL.only (h : RL w S g gs now op) (ho : Only T w w') (hT : ∀ b, S b → ¬ T b) (hg : ¬ T g) : RL w' S g gs now op := by
  obtain ⟨h0, Ag, ng, cg, An, nn, cn, Sg, Sn, hB, hG, hE, hS, h1, h2, h3⟩ := h
  exact ⟨h0, Ag, ng, cg, An, nn, cn, Sg, Sn, hB.only ho hg, hG.only ho (fun b hb => hT b (hS b (.inl hb))) (fun b hb => hT b (hS b (.inr (.inr (.inl hb))))), hE.only ho (fun b hb => hT b (hS b (.inr (.inl hb)))) (fun b hb => hT b (hS b (.inr (.inr (.inr hb))))), hS, h1, h2, h3⟩
theorem RL.pure_ (h : RL w S g gs now op) (ho : Pure w w') : RL w' S g gs now op := h.only ho (fun _ _ x => x) fun x => x
theorem RL.tight (h : RL w S g gs now op) : RL w (fun b => S b ∧ b < w.heap.size) g gs now op := by
  obtain ⟨h0, Ag, ng, cg, An, nn, cn, Sg, Sn, hB, hG, hE, hS, h3⟩ := h
  refine ⟨fun x => h0 x.1, Ag, ng, cg, An, nn, cn, Sg, Sn, hB, hG, hE, fun b hb => ⟨hS b hb, ?_⟩, h3⟩
  rcases hb with hb | hb | hb | hb
  · exact hG.2.choose_spec.2.2.2 b hb
  · exact hE.2.choose_spec.2.2.2 b hb
  · exact hG.lt b hb
  · exact hE.lt b hb
theorem RL.mono (h : RL w S g gs now op) (hS' : ∀ b, b < w.heap.size → S b → S' b) (hg : ¬ S' g) : RL w S' g gs now op := by
  obtain ⟨h0, Ag, ng, cg, An, nn, cn, Sg, Sn, hB, hG, hE, hS, h3⟩ := h.tight
  exact ⟨hg, Ag, ng, cg, An, nn, cn, Sg, Sn, hB, hG, hE, fun b hb => hS' b (hS b hb).2 (hS b hb).1, h3⟩
theorem RL.c1 (h : RL w S g gs now op) : w.cell? ⟨g, 1, none⟩ = some (.int .i64 op) := by obtain ⟨_, Ag, ng, cg, An, nn, cn, Sg, Sn, hB, _⟩ := h; exact hB.cell 1
theorem RL.setOpen (h : RL w S g gs now op) (o : Int) : RL (w.setCell ⟨g, 1, none⟩ (.int .i64 o)) S g gs now o := by
  obtain ⟨h0, Ag, ng, cg, An, nn, cn, Sg, Sn, hB, hG, hE, hS, h1, h2, h3⟩ := h
  have ho : Only (fun b => b = g) w (w.setCell ⟨g, 1, none⟩ (.int .i64 o)) := (Only.refl _ w).set 1 _
  exact ⟨h0, Ag, ng, cg, An, nn, cn, Sg, Sn, by simpa using hB.set_ 1 (.int .i64 o), hG.only ho (fun b hb e => h0 (e ▸ hS b (.inl hb))) (fun b hb e => h0 (e ▸ hS b (.inr (.inr (.inl hb))))), hE.only ho (fun b hb e => h0 (e ▸ hS b (.inr (.inl hb)))) (fun b hb e => h0 (e ▸ hS b (.inr (.inr (.inr hb))))), hS, h1, h2, h3⟩
theorem RL.plus (h : RL w S g gs now op) {n : Nat} (hn : g < n) : RL w (Plus S n) g gs now op :=
  h.mono (fun _ _ x => .inl x) fun x => by
    rcases x with x | x
    · exact h.1 x
    · omega
end

/-- A call has turned the reference list's own blocks alone. -/
def RLDid (w : World) (S : Nat → Prop) (g : Nat) (gs : List (List Ed)) (now : List Ed) (op : Int) (v : Value) (e : Ending) (w' : World) : Prop :=
  e = .returned v ∧ RL w' (Plus S w.heap.size) g gs now op ∧ Only (fun b => S b ∨ b = g) w w'
theorem RLDid.same {w w' : World} {S : Nat → Prop} {g : Nat} {gs : List (List Ed)} {now : List Ed} {op : Int} {v : Value} (h : RL w S g gs now op) (hp : Pure w w') : RLDid w S g gs now op v (.returned v) w' :=
  ⟨rfl, (h.pure_ hp).plus h.lt, hp.mono fun _ _ x => x.elim⟩

theorem ropen_any (g : Nat) (S : Nat → Prop) (gs : List (List Ed)) (now : List Ed) (op : Int) (w : World) (hU : RL w S g gs now op) :
    Calls Try.prog 65 #[.pointer (some ⟨g, 0, none⟩)] w fun e w' => e = .returned (.int .i64 op) ∧ w = w' := by
  have c1 := hU.c1
  go_enter Try.func65, Try.ntmps65
  go_wp2
  go_ret
  exact ⟨rfl, rfl⟩

theorem rbegin_any (g : Nat) (S : Nat → Prop) (gs : List (List Ed)) (now : List Ed) (op : Int) (w : World) (hU : RL w S g gs now op) (h0 : 0 ≤ op) (h1 : op ≤ 4611686018427387904) :
    Calls Try.prog 55 #[.pointer (some ⟨g, 0, none⟩)] w (RLDid w S g gs now (op + 1) (.int .i64 0)) := by
  have c1 := hU.c1
  have hlt := hU.lt
  have f1 : w.frozen? ⟨g, 1, none⟩ = false := by obtain ⟨_, Ag, ng, cg, An, nn, cn, Sg, Sn, hB, _⟩ := hU; exact hB.frozen 1
  go_enter Try.func55, Try.ntmps55
  go_wp2
  go_ret
  exact ⟨rfl, (hU.setOpen (op + 1)).plus hlt, ((Only.refl (fun b => b = g) w).set 1 _).mono fun _ _ e => .inr e⟩

theorem rlen_any (g : Nat) (S : Nat → Prop) (gs : List (List Ed)) (now : List Ed) (op : Int) (w : World) (hU : RL w S g gs now op) :
    Calls Try.prog 62 #[.pointer (some ⟨g, 0, none⟩)] w fun e w' => e = .returned (.int .i64 ((gs.length + min 1 now.length : Nat) : Int)) ∧ w = w' := by
  obtain ⟨_, Ag, ng, cg, An, nn, cn, Sg, Sn, hB, hG, hE, hS, h1, h2, h3, h4, _⟩ := hU
  have hle := tot_groups (now := now) h4
  have hlg := hG.len
  have hln := hE.len
  have c0 : w.cell? ⟨g, 0, none⟩ = some (.slice Ag ng cg) := hB.cell 0
  have c2 : w.cell? ⟨g, 2, none⟩ = some (.slice An nn cn) := hB.cell 2
  have hngI : (ng : Int) ≤ 16384 := by omega
  rw [hlg, hln]
  by_cases h0 : nn = 0
  · subst h0
    clear hle hlg hln
    go_enter Try.func62, Try.ntmps62
    go_wp2
    go_ret
    exact ⟨rfl, rfl⟩
  · have hnn : (0 : Int) < (nn : Int) := by omega
    have hm : ((ng + min 1 nn : Nat) : Int) = (ng : Int) + 1 := by omega
    rw [hm]
    clear hle hlg hln h0 hm
    go_enter Try.func62, Try.ntmps62
    go_wp2
    go_ret
    exact ⟨rfl, rfl⟩

theorem tot_take (gs : List (List Ed)) (now : List Ed) {k : Nat} (hk : k < gs.length) : tot (gs.take (k + 1)) now = tot (gs.take k) now + (gs[k]?.getD []).length := by
  have h : gs.take (k + 1) = gs.take k ++ [gs[k]] := by rw [List.take_add_one, List.getElem?_eq_getElem hk]; rfl
  unfold tot
  rw [h, List.getElem?_eq_getElem hk]
  simp only [List.map_append, List.sum_append, List.map_cons, List.map_nil, List.sum_cons, List.sum_nil, Option.getD_some]; omega
theorem tot_take_le (gs : List (List Ed)) (now : List Ed) (k : Nat) : tot (gs.take k) now ≤ tot gs now := by
  unfold tot
  have : (gs.take k).map List.length ++ (gs.drop k).map List.length = gs.map List.length := by rw [← List.map_append, List.take_append_drop]
  rw [← this, List.sum_append]; omega

theorem redits_any (g : Nat) (S : Nat → Prop) (gs : List (List Ed)) (now : List Ed) (op : Int) (w : World) (hU : RL w S g gs now op) :
    Calls Try.prog 63 #[.pointer (some ⟨g, 0, none⟩)] w fun e w' => e = .returned (.int .i64 (tot gs now : Nat)) ∧ w = w' := by
  obtain ⟨_, Ag, ng, cg, An, nn, cn, Sg, Sn, hB, hG, hE, hS, h1, h2, h3, h4, _⟩ := hU
  have hle := tot_groups (now := now) h4
  have hlg := hG.len
  have hln := hE.len
  have c0 : w.cell? ⟨g, 0, none⟩ = some (.slice Ag ng cg) := hB.cell 0
  have c2 : w.cell? ⟨g, 2, none⟩ = some (.slice An nn cn) := hB.cell 2
  have hngI : (ng : Int) ≤ 16384 := by omega
  have hGr := hG.rd
  have HLG := hid hlg
  have HLN := hid hln
  have H3 := hid h3
  clear hle hlg hln h3
  go_enter Try.func63, Try.ntmps63
  go_wp2
  go_loopw [3, 4] (fun n i wr => ∃ k : Nat, k ≤ ng ∧ i = .int .i64 k ∧ n = .int .i64 (tot (gs.take k) now : Nat) ∧ wr = w) (fun _ i _ => ng - (intOf i).toNat)
  case atStart => exact ⟨0, Nat.zero_le _, rfl, by simp [tot, HLN.out], rfl⟩
  case round =>
    obtain ⟨k, hk, rfl, rfl, rfl⟩ := hrel
    by_cases hlt : k < ng
    · have hkI : (k : Int) < ng := by omega
      have hkl : k < gs.length := by rw [HLG.out]; exact hlt
      obtain ⟨gx, ox, a, m, d, rfl, hgx, _, hc, hx⟩ := RdG.at_ hGr hlt
      have ht := tot_take gs now hkl
      have hml := hx.1
      have hle1 := tot_take_le gs now (k + 1)
      obtain ⟨t, htt⟩ : ∃ t, t = tot (gs.take k) now := ⟨_, rfl⟩
      rw [← htt]
      have htI : (t : Int) + (m : Int) ≤ 16384 := by have := H3.out; omega
      have HT := hid (show tot (gs.take (k + 1)) now = t + m by omega)
      clear ht hml hle1 htt hkl
      go_wp2
      go_roundw
      case rel => exact ⟨k + 1, by omega, by go_num, by rw [HT.out]; simp, trivial⟩
      case measure => simp [intOf] <;> omega
    · obtain rfl : k = ng := by omega
      have hh : gs.take k = gs := by rw [← HLG.out, List.take_length]
      rw [hh]
      go_wp2
      go_ret
      exact ⟨rfl, rfl⟩

end Go.Proofs.Ytinlpmgchcbjpaa
