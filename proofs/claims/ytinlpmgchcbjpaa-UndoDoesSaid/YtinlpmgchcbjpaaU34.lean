/- The law's 'groups': the list tells just the groups that are wanted, twice. -/
import Derived.Test.YtinlpmgchcbjpaaU32
import Derived.Test.YtinlpmgchcbjpaaU24
namespace Go.Proofs.Ytinlpmgchcbjpaa
open Go Go.RowKit
set_option maxHeartbeats 2000000
set_option maxRecDepth 100000
attribute [local go_sem] Oper.semAt_some

def gcut (n : Nat) (S : Nat → Prop) : Nat → Prop := fun x => S x ∧ x < n
theorem ownO_kept {B0 base B : Nat} {W W' : World} {Se : Nat → Prop} {A : Option Addr} {n c : Nat} {es : List Ed} (h : OwnK (edKindO B0) 60 3 Ed.none base W A n c es Se) (k : KeptB B W W') : OwnK (edKindO B0) 60 3 Ed.none base W' A n c es Se :=
  OwnK.keptB (fun _ _ ⟨a, m, d, a', m', d', e, h1, h2, h3⟩ => ⟨a, m, d, a', m', d', e, own_keptB h1 k, own_keptB h2 k, h3⟩) h k

/-- What stands while 'groups' goes on. -/
def GTelling (w : World) (L : List (List Ed)) (Sw Sa : Nat → Prop) (A : Option Addr) (N c : Nat) (b Bn : Nat) (Aa : Option Addr) (ca : Nat) (W : World) : Prop :=
  Blk W b 75 #[.slice A N c] ∧ (∃ r, Blk W (b + 1) 4 #[.bool r]) ∧ Blk W Bn 75 #[.slice Aa N ca] ∧ RdG W Sa Aa N ca L ∧ RdG W Sw A N c L ∧ Pure w W

section
variable {w : World} {L : List (List Ed)} {S Sw Sa S' Sw' Sa' : Nat → Prop} {A : Option Addr} {N c : Nat} {b Bn : Nat} {Aa : Option Addr} {ca : Nat} {W W' : World} {B b8 k : Nat} {Ds : List Nat}
theorem GTelling.keptB (h : GTelling w L Sw Sa A N c b Bn Aa ca W) (k : KeptB B W W') (hB : w.heap.size ≤ B) : GTelling w L Sw Sa A N c b Bn Aa ca W' := by
  obtain ⟨h1, ⟨r, h3⟩, h4, h5, h6, h8⟩ := h
  exact ⟨h1.keptB k, ⟨r, h3.keptB k⟩, h4.keptB k, RdG.keptB h5 k, RdG.keptB h6 k, h8.keptB k hB⟩
theorem GTelling.pure_ (h : GTelling w L Sw Sa A N c b Bn Aa ca W) (k : Pure W W') : GTelling w L Sw Sa A N c b Bn Aa ca W' := h.keptB (KeptB.of_pure k) (Nat.le_refl _)
theorem GTelling.mono (h : GTelling w L Sw Sa A N c b Bn Aa ca W) (h2 : ∀ x, x < W.heap.size → Sw x → Sw' x) (h3 : ∀ x, x < W.heap.size → Sa x → Sa' x) : GTelling w L Sw' Sa' A N c b Bn Aa ca W := by
  obtain ⟨k1, k3, k4, k5, k6, k8⟩ := h
  exact ⟨k1, k3, k4, RdK'.mono k5 h3, RdK'.mono k6 h2, k8⟩

/-- The round's own box b8: how many have come. -/
def GCounts (w : World) (L : List (List Ed)) (Sw Sa : Nat → Prop) (A : Option Addr) (N c : Nat) (b Bn : Nat) (Aa : Option Addr) (ca : Nat) (B : Nat) (Ds : List Nat) (b8 k : Nat) (W : World) : Prop :=
  GTelling w L (gcut b8 Sw) (gcut b8 Sa) A N c b Bn Aa ca W ∧ (Bn < b8 ∧ b + 1 < b8 ∧ w.heap.size ≤ b8) ∧ Blk W b8 3 #[.int .i64 (k : Int)] ∧ Marks B W Ds

theorem GCounts.step (h : GCounts w L Sw Sa A N c b Bn Aa ca B Ds b8 k W) (hp : Pure W W') : GCounts w L Sw Sa A N c b Bn Aa ca B Ds b8 (k + 1) (W'.setCell ⟨b8, 0, none⟩ (.int .i64 ((k : Int) + 1))) := by
  obtain ⟨⟨h1, ⟨r, h3⟩, h4, h5, h6, h8⟩, ⟨g2, g3, g4⟩, hb, hm⟩ := h
  have ho : Only (fun x => x = b8) W (W'.setCell ⟨b8, 0, none⟩ (.int .i64 ((k : Int) + 1))) := (Only.of_pure hp).set 0 _
  have hlt := hb.lt
  refine ⟨⟨h1.only ho (by omega), ⟨r, h3.only ho (by omega)⟩, h4.only ho (by omega), RdK'.only h5 ho (fun x hx _ e => by have := hx.2; omega), RdK'.only h6 ho (fun x hx _ e => by have := hx.2; omega), h8.then_ ho fun i hi e => by omega⟩, ⟨g2, g3, g4⟩, ?_, ?_⟩
  · exact (hb.pure_ hp).set_ 0 _
  · exact hm.keeps (keeps_only ho fun x e _ => ⟨#[.int .i64 (k : Int)], 3, (0, 0), e ▸ hb⟩)
theorem GCounts.keeps (h : GCounts w L Sw Sa A N c b Bn Aa ca B Ds b8 k W) (hp : Pure W W') (u : Value) : KeepsOthers W (W'.setCell ⟨b8, 0, none⟩ u) :=
  keeps_only ((Only.of_pure (T := fun x => x = b8) hp).set 0 u) fun _ e _ => ⟨#[.int .i64 (k : Int)], 3, (0, 0), e ▸ h.2.2.1⟩
theorem GCounts.keptB (h : GCounts w L Sw Sa A N c b Bn Aa ca B Ds b8 k W) (kb : KeptB (b8 + 1) W W') (hlt : ∀ D ∈ Ds, D < b8) : GCounts w L Sw Sa A N c b Bn Aa ca B Ds b8 k W' :=
  ⟨h.1.keptB kb (by have := h.2.1.2.2; omega), h.2.1, h.2.2.1.keptB kb, h.2.2.2.low kb fun D hD => by have := hlt D hD; omega⟩
end

theorem GCounts.told {w : World} {L : List (List Ed)} {Sw Sa : Nat → Prop} {A : Option Addr} {N c : Nat} {b Bn : Nat} {Aa : Option Addr} {ca : Nat} {W1 X : World} {Ds : List Nat} {b8 k D : Nat} (h : GCounts w L Sw Sa A N c b Bn Aa ca w.heap.size Ds b8 k X)
    (hsz : W1.heap.size = b8 + 1) (hD : W1.heap.size ≤ D) (hk : X.heap[D]? = some (.deferred (some []))) (hlt : ∀ D ∈ Ds, D < b8) :
    GTelling w L (gcut b8 Sw) (gcut b8 Sa) A N c b Bn Aa ca X ∧ Marks w.heap.size X (D :: Ds) :=
  ⟨h.1, h.2.2.2.cons hlt (by omega) h.2.1.2.2 hk⟩

/-- What holds at the head of 'for range 2'. -/
def GHead (w : World) (g : Nat) (L : List (List Ed)) (Sw Sa : Nat → Prop) (A : Option Addr) (N c : Nat) (Bn : Nat) (Aa : Option Addr) (ca : Nat) (a' : Act) (W : World) : Prop :=
  ∃ (i : Nat) (Ds : List Nat) (u6 u7 u11 u12 u13 u14 u15 u16 u17 u18 u19 u20 u21 u22 u23 u24 u25 u26 u27 u28 u29 u30 u31 u32 u33 : Value), i ≤ 2 ∧ GTelling w L Sw Sa A N c w.heap.size Bn Aa ca W ∧ Marks w.heap.size W Ds ∧
    a' = { tmps := #[.pointer (some ⟨g, 0, none⟩), .slice A N c, undef, .pointer (some ⟨w.heap.size, 0, none⟩), .pointer (some ⟨w.heap.size + 1, 0, none⟩), .func (.func 81) #[] #[.pointer (some ⟨Bn, 0, none⟩)], u6, u7, .pointer (some ⟨g, 0, none⟩), .func (.func 81) #[] #[.pointer (some ⟨Bn, 0, none⟩)], .int .i64 (i : Int), u11, u12, u13, u14, u15, u16, u17, u18, u19, u20, u21, u22, u23, u24, u25, u26, u27, u28, u29, u30, u31, u32, u33], defers := marks Ds }

set_option maxHeartbeats 4000000 in
theorem told_groups (g : Nat) (S : Nat → Prop) (gs : List (List Ed)) (now : List Ed) (op : Int) (w : World) (hU : UL w S g gs now op) (A : Option Addr) (c : Nat) (Sw : Nat → Prop) (hL : RdG w Sw A (allG gs now).length c (allG gs now)) :
    Calls Try.prog 45 #[.pointer (some ⟨g, 0, none⟩), .slice A (allG gs now).length c] w fun e w' => e = .returned (.bool true) ∧ Pure w w' := by
  have hp2 : Pure w ((w.alloc (.cells #[.slice A (allG gs now).length c] 75)).alloc (.cells #[.bool false] 4)) := ((Only.refl _ w).alloc _).alloc _
  have hfit : ∀ x ∈ allG gs now, x.length ≤ 16384 ∧ ∀ e ∈ x, e.fit := by
    obtain ⟨_, _, _, _, _, _, _, _, _, _, _, _, _, _, _, h4, _, h6, h7⟩ := hU
    intro x hx
    unfold allG nowG at hx
    unfold tot at h4
    have hx' : x ∈ gs ∨ x = now := by
      rcases List.mem_append.1 hx with hx | hx
      · split at hx
        · simp at hx
        · exact .inr (by simpa using hx)
      · exact .inl (by simpa using hx)
    rcases hx' with hx | rfl
    · exact ⟨by have := len_le_sum hx; omega, h6 x hx⟩
    · exact ⟨by omega, h7⟩
  have hN5 : (allG gs now).length ≤ 16385 := by
    obtain ⟨_, _, _, _, _, _, _, _, _, _, _, _, _, _, _, h4, h5, h6, h7⟩ := hU
    have h1 := tot_groups (now := now) h5
    unfold allG nowG
    rw [List.length_append, List.length_reverse]
    split <;> simp <;> omega
  refine calls_of_wp_marks Try.func45 rfl ?_
  simp only [Try.ntmps45, List.size_toArray, List.length_cons, List.length_nil, Nat.reduceAdd, Nat.reduceSub, Array.replicate_succ, Array.replicate_zero, List.push_toArray, List.append_toArray, List.nil_append, List.cons_append]
  go_wp2_with (go_at_call 44; refine (groups_any g S gs now op _ (hU.pure_ hp2)).mono ?_; rintro e w2 ⟨Bn, Aa, ca, rfl, hBn, hBa, hLa, hpa⟩)
  obtain ⟨L, hLL⟩ : ∃ L, L = allG gs now := ⟨_, rfl⟩
  rw [← hLL] at hL hfit hN5 hBa hLa hpa ⊢
  obtain ⟨N, hNN⟩ : ∃ N, N = L.length := ⟨_, rfl⟩
  rw [← hNN] at hL hN5 hBa hLa hpa ⊢
  have hT : GTelling w L Sw (fun _ => True) A N c w.heap.size Bn Aa ca w2 := by
    have b1 : Blk (w.alloc (.cells #[.slice A N c] 75)) w.heap.size 75 #[.slice A N c] := Blk.new _ _ _
    have b3 : Blk ((w.alloc (.cells #[.slice A N c] 75)).alloc (.cells #[.bool false] 4)) (w.heap.size + 1) 4 #[.bool false] := by have := Blk.new (w.alloc (.cells #[.slice A N c] 75)) 4 #[.bool false]; rwa [World.size_alloc] at this
    have hp2' : Pure w ((w.alloc (.cells #[.slice A N c] 75)).alloc (.cells #[.bool false] 4)) := ((Only.refl _ w).alloc _).alloc _
    exact ⟨(b1.alloc _).pure_ hpa, ⟨false, b3.pure_ hpa⟩, hBa, RdK'.mono hLa fun _ _ _ => trivial, RdK'.pure_ (RdK'.pure_ hL hp2') hpa, hp2'.trans hpa⟩
  have HN := hid hNN
  clear hBn hBa hLa hpa hp2 hU hLL hNN
  refine wp_loop (fun a' W => GHead w g L Sw (fun _ => True) A N c Bn Aa ca a' W) (fun a' _ => 2 - (intOf (a'.tmps.getD 10 undef)).toNat) ⟨0, [], _, _, _, _, _, _, _, _, _, _, _, _, _, _, _, _, _, _, _, _, _, _, _, _, _, Nat.zero_le _, hT, Marks.nil _ _, rfl⟩ ?_
  clear hT
  rintro a' W ⟨i, Ds, u6, u7, u11, u12, u13, u14, u15, u16, u17, u18, u19, u20, u21, u22, u23, u24, u25, u26, u27, u28, u29, u30, u31, u32, u33, hi, hT, hM, rfl⟩
  by_cases hlt : i < 2
  · have hiI : (i : Int) < 2 := by omega
    go_wp2
    obtain ⟨W1, hW1⟩ : ∃ W1, W1 = W.alloc (.cells #[.int .i64 0] 3) := ⟨_, rfl⟩
    have hp1 : Pure W W1 := by rw [hW1]; exact (Only.refl _ W).alloc _
    have hb8 : Blk W1 W.heap.size 3 #[.int .i64 ((0 : Nat) : Int)] := by rw [hW1]; exact Blk.new _ _ _
    have hsz : W1.heap.size = W.heap.size + 1 := by rw [hW1]; simp
    rw [← hW1]
    have h0 : GCounts w L Sw (fun _ => True) A N c w.heap.size Bn Aa ca w.heap.size Ds W.heap.size 0 W1 :=
      ⟨(hT.mono (Sw' := gcut W.heap.size Sw) (Sa' := gcut W.heap.size fun _ => True) (fun x hx h => ⟨h, hx⟩) (fun x hx h => ⟨h, hx⟩)).pure_ hp1, ⟨hT.2.2.1.lt, (by obtain ⟨_, ⟨r, h3⟩, _⟩ := hT; exact h3.lt), hT.2.2.2.2.2.size⟩, hb8, hM.keeps (keeps_pure hp1)⟩
    have hDlt := hM.lt
    have hlt6 : w.heap.size + 1 < W.heap.size := by obtain ⟨_, ⟨r, h3⟩, _⟩ := hT; exact h3.lt
    have hwW : w.heap.size ≤ W.heap.size := hT.2.2.2.2.2.size
    have HSZ := hid hsz
    clear hW1 hp1 hb8 hT hM hsz
    refine wp_range 3 (gf := 81) (lb := #[.pointer (some ⟨Bn, 0, none⟩)]) rfl (enters_of Try.func81 (by kernel_rfl) rfl) N (EntC L w.heap.size)
      (fun k W' => GCounts w L Sw (fun _ => True) A N c w.heap.size Bn Aa ca w.heap.size Ds W.heap.size k W')
      (fun c' W' => False)
      ?hI ?hIx ?hG ?hps (groups_iter 3 Bn Aa N ca L (gcut W.heap.size fun _ => True) w.heap.size _ hN5 hfit ?hit) h0 ?round ?done ?stop
    case hI => exact fun k X Y h kb => h.keptB (by rw [HSZ.out] at kb; exact kb) hDlt
    case hIx => exact fun c' X Y h kb => h
    case hG => exact fun k args X Y ⟨a, m, d, Se, e, h, hs⟩ kb => ⟨a, m, d, Se, e, ownO_kept h kb, hs⟩
    case hps => rintro k args X ⟨a, m, d, Se, rfl, h⟩; rfl
    case hit => exact fun k X h => ⟨h.1.2.2.1, h.1.2.2.2.1, h.1.2.2.2.2.2.size⟩
    case round =>
      intro l k args X K hk hC hE hK
      obtain ⟨a, m, d, Se, rfl, hx, _⟩ := hE
      clear hx hC
      simp only [Array.zip, Array.foldl]
      gi_wp2
      rintro X2 hC2 ⟨a', m', d', Se', e, hx, _⟩
      simp only [Array.mk.injEq, List.cons.injEq, Value.slice.injEq, and_true] at e
      obtain ⟨rfl, rfl, rfl⟩ := e
      have hC2' := hC2
      obtain ⟨⟨t1, _, _, _, t6, t8⟩, _, hb8, _⟩ := hC2'
      have c1 : X2.cell? ⟨w.heap.size, 0, none⟩ = some (.slice A N c) := t1.cell 0
      have c8 : X2.cell? ⟨W.heap.size, 0, none⟩ = some (.int .i64 (k : Int)) := hb8.cell 0
      have f8 : X2.frozen? ⟨W.heap.size, 0, none⟩ = false := hb8.frozen 0
      have hlt2 : (k : Int) < (N : Int) := by omega
      have hN5I : (N : Int) ≤ 16385 := by omega
      obtain ⟨gw, ow, aw, mw, dw, hA, _, _, cw, hw⟩ := RdG.at_ t6 hk
      have hmm : mw = m := by have h1 := hw.1; have h2 := hx.1; omega
      subst hmm
      have hmem : L[k]?.getD [] ∈ L := by rw [List.getElem?_eq_getElem (by rw [← HN.out]; exact hk)]; exact List.getElem_mem _
      have hm4 : mw ≤ 16384 := by have h1 := hw.1; have := (hfit _ hmem).1; omega
      have hfe := (hfit _ hmem).2
      have hxr := RdK'.mono (S' := fun _ => True) hx.ed.rd fun _ _ _ => trivial
      have hne8 : ¬ w.heap.size = W.heap.size := by omega
      have hne8' : ¬ W.heap.size = w.heap.size := by omega
      obtain ⟨E, hEe⟩ : ∃ E, E = L[k]?.getD [] := ⟨_, rfl⟩
      rw [← hEe] at hw hxr hfe
      subst hA
      clear hEe t1 t6 hx hmem
      gi_wp2_with ((refine ⟨trivial, ?_⟩; gi_at_call 58; refine (CallsIn.inRound l (callsIn_wide.2 (samelist_same a mw d _ aw dw _ E X2 hxr hw hm4 hfe))).mono ?_; rintro e w3 ⟨rfl, hp3⟩; have g8 : w3.cell? ⟨W.heap.size, 0, none⟩ = some (.int .i64 (k : Int)) := (hb8.pure_ hp3).cell 0; have f9 : w3.frozen? ⟨W.heap.size, 0, none⟩ = false := (hb8.pure_ hp3).frozen 0))
      exact ⟨hC2.keeps hp3 _, hC2.step hp3⟩
    case done =>
      intro D X hD hC hk
      simp only [Exit.inBlock, Exit.then]
      have c1 : X.cell? ⟨w.heap.size, 0, none⟩ = some (.slice A N c) := hC.1.1.cell 0
      have c8 : X.cell? ⟨W.heap.size, 0, none⟩ = some (.int .i64 (N : Int)) := hC.2.2.1.cell 0
      have hnn : ((N : Int) != (N : Int)) = false := by simp
      have HF := hid (hC.told HSZ.out hD hk hDlt)
      clear hC hk hD
      go_wp2
      obtain ⟨hT2, hM2⟩ := HF.out
      refine ⟨⟨i + 1, D :: Ds, _, _, _, _, _, _, _, _, _, _, _, _, _, _, _, _, _, _, _, _, _, _, _, _, _, by omega, hT2.mono (fun _ _ h => h.1) (fun _ _ _ => trivial), hM2, rfl⟩, ?_⟩
      simp [intOf]
      omega
    case stop =>
      rintro D c' X hD h hkk
      exact h.elim
  · have hi2 : i = 2 := by omega
    subst hi2
    obtain ⟨t1, ⟨r, t3⟩, t4, t5, t6, t8⟩ := hT
    have c3 : W.cell? ⟨w.heap.size + 1, 0, none⟩ = some (.bool r) := t3.cell 0
    have f3 : W.frozen? ⟨w.heap.size + 1, 0, none⟩ = false := t3.frozen 0
    have hlt3 := t3.lt
    have hO : Only (fun x => x = w.heap.size + 1) W (W.setCell ⟨w.heap.size + 1, 0, none⟩ (.bool true)) := (Only.refl _ W).set 0 _
    clear hlt hi t1 t4 t5 t6
    go_wp2
    refine leave_marks (B := w.heap.size) Ds _ (hM.keeps (keeps_only hO fun x e _ => ⟨#[.bool r], 4, (0, 0), e ▸ t3⟩)) fun W' hk => ?_
    have c9 : W'.cell? ⟨w.heap.size + 1, 0, none⟩ = some (.bool true) := hk.cell ((t3.set_ 0 (.bool true)).cell 0)
    refine ⟨.bool true, ?_, rfl, ?_⟩
    · exact results_bool rfl _ _ _ _ rfl c9
    · exact (t8.then_ hO fun i hi e => by omega).keptB hk (Nat.le_refl _)

end Go.Proofs.Ytinlpmgchcbjpaa
