/- The law's 'told': the ring tells just the entries that are wanted, twice, as far as it is asked. -/
import Derived.Test.YtinlpmgchcbjpaaK7
namespace Go.Proofs.Ytinlpmgchcbjpaa
open Go Go.RowKit
set_option maxHeartbeats 1000000
set_option maxRecDepth 100000
attribute [local go_sem] Oper.semAt_some

theorem Blk.keptB {B g : Nat} {W W' : World} {t : TypeId} {cs : Array Value} (h : Blk W g t cs) (k : KeptB B W W') : Blk W' g t cs := k.cells _ _ _ _ h
theorem RingCells.keptB {B : Nat} {W W' : World} {S : Nat → Prop} {cs : Array Value} {head : Nat} {es : List (List Int)} {place : Nat} (h : RingCells W S cs head es place) (k : KeptB B W W') : RingCells W' S cs head es place := by
  obtain ⟨h1, h2, h3, h4, h5, h6, h7, h8, h9⟩ := h
  refine ⟨h1, h2, h3, h4, h5, h6, h7, h8, fun i hi => ?_⟩
  obtain ⟨a, m, d, hc, hr, hm⟩ := h9 i hi
  exact ⟨a, m, d, hc, hr.keptB k, hm⟩
theorem Ring.keptB {B g place : Nat} {W W' : World} {S : Nat → Prop} {es : List (List Int)} (h : Ring W S g es place) (k : KeptB B W W') : Ring W' S g es place := by
  obtain ⟨hn, cs, head, hb, hr⟩ := h
  exact ⟨hn, cs, head, hb.keptB k, hr.keptB k⟩

/-- What stands while 'told' goes on: its four boxes, the ring, the entries that are wanted, the iterator's list; nothing that was there has turned. -/
def Telling (w : World) (g : Nat) (S Sw Sa : Nat → Prop) (es : List (List Int)) (place : Nat) (A : Option Addr) (N c : Nat) (stop : Int) (b Bn : Nat) (Aa : Option Addr) (ca : Nat) (W : World) : Prop :=
  Blk W b 23 #[.slice A N c] ∧ Blk W (b + 1) 3 #[.int .i64 stop] ∧ (∃ r, Blk W (b + 1 + 1) 4 #[.bool r]) ∧ Blk W Bn 23 #[.slice Aa N ca] ∧ RdL W Sa Aa N ca es ∧ RdL W Sw A N c es ∧ Ring W S g es place ∧ Pure w W

section
variable {w : World} {g : Nat} {S Sw Sa S' Sw' Sa' : Nat → Prop} {es : List (List Int)} {place : Nat} {A : Option Addr} {N c : Nat} {stop : Int} {b Bn : Nat} {Aa : Option Addr} {ca : Nat} {W W' : World} {B b8 k : Nat} {Ds : List Nat}
theorem Telling.keptB (h : Telling w g S Sw Sa es place A N c stop b Bn Aa ca W) (k : KeptB B W W') (hB : w.heap.size ≤ B) : Telling w g S Sw Sa es place A N c stop b Bn Aa ca W' := by
  obtain ⟨h1, h2, ⟨r, h3⟩, h4, h5, h6, h7, h8⟩ := h
  exact ⟨h1.keptB k, h2.keptB k, ⟨r, h3.keptB k⟩, h4.keptB k, h5.keptB k, h6.keptB k, h7.keptB k, h8.keptB k hB⟩
theorem Telling.pure_ (h : Telling w g S Sw Sa es place A N c stop b Bn Aa ca W) (k : Pure W W') : Telling w g S Sw Sa es place A N c stop b Bn Aa ca W' := h.keptB (KeptB.of_pure k) (Nat.le_refl _)
theorem Telling.mono (h : Telling w g S Sw Sa es place A N c stop b Bn Aa ca W) (h1 : ∀ x, x < W.heap.size → S x → S' x) (hg : ¬ S' g) (h2 : ∀ x, x < W.heap.size → Sw x → Sw' x) (h3 : ∀ x, x < W.heap.size → Sa x → Sa' x) : Telling w g S' Sw' Sa' es place A N c stop b Bn Aa ca W := by
  obtain ⟨k1, k2, k3, k4, k5, k6, k7, k8⟩ := h
  exact ⟨k1, k2, k3, k4, k5.mono h3, k6.mono h2, k7.mono h1 hg, k8⟩

def cut (n : Nat) (S : Nat → Prop) : Nat → Prop := fun x => S x ∧ x < n

/-- The round's own box b8: how many have come. -/
def Counts (w : World) (g : Nat) (S Sw Sa : Nat → Prop) (es : List (List Int)) (place : Nat) (A : Option Addr) (N c : Nat) (stop : Int) (b Bn : Nat) (Aa : Option Addr) (ca : Nat) (B : Nat) (Ds : List Nat) (b8 k : Nat) (W : World) : Prop :=
  Telling w g (cut b8 S) (cut b8 Sw) (cut b8 Sa) es place A N c stop b Bn Aa ca W ∧ (g < b8 ∧ Bn < b8 ∧ b + 1 + 1 < b8 ∧ w.heap.size ≤ b8) ∧ Blk W b8 3 #[.int .i64 (k : Int)] ∧ Marks B W Ds

theorem Counts.step (h : Counts w g S Sw Sa es place A N c stop b Bn Aa ca B Ds b8 k W) (q : Nat) : Counts w g S Sw Sa es place A N c stop b Bn Aa ca B Ds b8 (k + 1) ((W.drewN q).setCell ⟨b8, 0, none⟩ (.int .i64 ((k : Int) + 1))) := by
  obtain ⟨⟨h1, h2, ⟨r, h3⟩, h4, h5, h6, h7, h8⟩, ⟨g1, g2, g3, g4⟩, hb, hm⟩ := h
  have ho : Only (fun x => x = b8) W ((W.drewN q).setCell ⟨b8, 0, none⟩ (.int .i64 ((k : Int) + 1))) := ((Only.refl _ W).drewN q).set 0 _
  have hlt := hb.lt
  refine ⟨⟨h1.only ho (by omega), h2.only ho (by omega), ⟨r, h3.only ho (by omega)⟩, h4.only ho (by omega), h5.only ho (fun x hx _ e => by have := hx.2; omega), h6.only ho (fun x hx _ e => by have := hx.2; omega), h7.only ho (fun x hx _ e => by have := hx.2; omega) (by omega), h8.then_ ho fun i hi e => by omega⟩, ⟨g1, g2, g3, g4⟩, ?_, ?_⟩
  · exact (hb.drewN q).set_ 0 _
  · exact hm.keeps (keeps_only ho fun x e _ => ⟨#[.int .i64 (k : Int)], 3, (0, 0), e ▸ hb⟩)
theorem Counts.keeps (h : Counts w g S Sw Sa es place A N c stop b Bn Aa ca B Ds b8 k W) (q : Nat) (u : Value) : KeepsOthers W ((W.drewN q).setCell ⟨b8, 0, none⟩ u) :=
  keeps_only (((Only.refl (fun x => x = b8) W).drewN q).set 0 u) fun _ e _ => ⟨#[.int .i64 (k : Int)], 3, (0, 0), e ▸ h.2.2.1⟩
theorem Counts.keptB (h : Counts w g S Sw Sa es place A N c stop b Bn Aa ca B Ds b8 k W) (kb : KeptB (b8 + 1) W W') (hlt : ∀ D ∈ Ds, D < b8) : Counts w g S Sw Sa es place A N c stop b Bn Aa ca B Ds b8 k W' :=
  ⟨h.1.keptB kb (by have := h.2.1.2.2.2; omega), h.2.1, h.2.2.1.keptB kb, h.2.2.2.low kb fun D hD => by have := hlt D hD; omega⟩
end

theorem Ring.smalls {W : World} {S : Nat → Prop} {g place : Nat} {es : List (List Int)} (h : Ring W S g es place) (k : Nat) : (es[k]?.getD []).length ≤ 1024 := by
  obtain ⟨_, cs, head, _, k1, k2, k3, k4, k5, k6, k7, k8, k9⟩ := h
  by_cases hk : k < es.length
  · obtain ⟨a, m, d, _, hr, hm⟩ := k9 k hk
    rw [hr.len]; exact hm
  · rw [List.getElem?_eq_none (by omega)]; simp

/-- What holds at the head of 'for range 2'. -/
def ToldHead (w : World) (g : Nat) (S Sw Sa : Nat → Prop) (es : List (List Int)) (place : Nat) (A : Option Addr) (N c : Nat) (stop : Int) (Bn : Nat) (Aa : Option Addr) (ca : Nat) (a' : Act) (W : World) : Prop :=
  ∃ (i : Nat) (Ds : List Nat) (u8 u9 u10 u14 u15 u16 u17 u18 u19 u20 u21 u22 u23 u24 u25 u26 u27 u28 u29 u30 u31 u32 u33 u34 u35 u36 u37 u38 u39 u40 u41 u42 u43 u44 u45 u46 u47 u48 u49 u50 u51 u52 u53 u54 u55 : Value), i ≤ 2 ∧ Telling w g S Sw Sa es place A N c stop w.heap.size Bn Aa ca W ∧ Marks w.heap.size W Ds ∧
    a' = { tmps := #[.pointer (some ⟨g, 0, none⟩), .slice A N c, .int .i64 stop, undef, .pointer (some ⟨w.heap.size, 0, none⟩), .pointer (some ⟨w.heap.size + 1, 0, none⟩), .pointer (some ⟨w.heap.size + 1 + 1, 0, none⟩), .func (.func 71) #[] #[.pointer (some ⟨Bn, 0, none⟩)], u8, u9, u10, .pointer (some ⟨g, 0, none⟩), .func (.func 71) #[] #[.pointer (some ⟨Bn, 0, none⟩)], .int .i64 (i : Int), u14, u15, u16, u17, u18, u19, u20, u21, u22, u23, u24, u25, u26, u27, u28, u29, u30, u31, u32, u33, u34, u35, u36, u37, u38, u39, u40, u41, u42, u43, u44, u45, u46, u47, u48, u49, u50, u51, u52, u53, u54, u55], defers := marks Ds }

theorem Counts.told {w : World} {g : Nat} {S Sw Sa : Nat → Prop} {es : List (List Int)} {place : Nat} {A : Option Addr} {N c : Nat} {stop : Int} {b Bn : Nat} {Aa : Option Addr} {ca : Nat} {W1 X : World} {Ds : List Nat} {b8 k D : Nat} (h : Counts w g S Sw Sa es place A N c stop b Bn Aa ca w.heap.size Ds b8 k X)
    (hsz : W1.heap.size = b8 + 1) (hD : W1.heap.size ≤ D) (hk : X.heap[D]? = some (.deferred (some []))) (hlt : ∀ D ∈ Ds, D < b8) :
    Telling w g (cut b8 S) (cut b8 Sw) (cut b8 Sa) es place A N c stop b Bn Aa ca X ∧ Marks w.heap.size X (D :: Ds) :=
  ⟨h.1, h.2.2.2.cons hlt (by omega) h.2.1.2.2.2 hk⟩

/-- A statement that is walked to its end alone. -/
theorem wp_calm {P : Program} {c : Code} {K : Act → World → Prop} {Q' : Exit → Act → World → Prop} {a : Act} {w : World} (h : c.wp P (Exit.then K fun _ _ _ => False) a w) : c.wp P (Exit.then K Q') a w :=
  wp_mono h fun e a w hq => by cases e <;> first | exact hq | exact hq.elim

theorem results_bool {fn : Func} {p : Tmp} (h : fn.results = #[.cell p 4]) (tmps : Array Value) (w : World) (a : Addr) (v : Value)
    (hp : tmps.getD p undef = .pointer (some a)) (hc : w.cell? a = some v) : (results fn tmps).run Try.prog w = .ok v w := by
  have hp' : tmps[p]?.getD undef = .pointer (some a) := by simpa using hp
  simp [results, h, hp', asAddr, go_sem, hc]

theorem told_any (g : Nat) (S Sw : Nat → Prop) (es : List (List Int)) (place : Nat) (A : Option Addr) (N c : Nat) (stop : Int) (w : World) (hR : Ring w S g es place) (hL : RdL w Sw A N c es) :
    Calls Try.prog 27 #[.pointer (some ⟨g, 0, none⟩), .slice A N c, .int .i64 stop] w fun e w' => e = .returned (.bool true) ∧ Pure w w' := by
  have hp3 : Pure w (((w.alloc (.cells #[.slice A N c] 23)).alloc (.cells #[.int .i64 stop] 3)).alloc (.cells #[.bool false] 4)) := (((Only.refl _ w).alloc _).alloc _).alloc _
  have hN := hL.len
  refine calls_of_wp_marks Try.func27 rfl ?_
  simp only [Try.ntmps27, List.size_toArray, List.length_cons, List.length_nil, Nat.reduceAdd, Nat.reduceSub, Array.replicate_succ, Array.replicate_zero, List.push_toArray, List.append_toArray, List.nil_append, List.cons_append]
  have HN := hid hN
  clear hN
  go_wp2_with (go_at_call 23; refine (all_any g S es place _ (hR.pure_ hp3)).mono ?_; rintro e w2 ⟨Bn, Aa, ca, rfl, hBn, hBa, hLa, hpa⟩)
  have hT : Telling w g S Sw (fun _ => True) es place A N c stop w.heap.size Bn Aa ca w2 := by
    have b1 : Blk (w.alloc (.cells #[.slice A N c] 23)) w.heap.size 23 #[.slice A N c] := Blk.new _ _ _
    have b2 : Blk ((w.alloc (.cells #[.slice A N c] 23)).alloc (.cells #[.int .i64 stop] 3)) (w.heap.size + 1) 3 #[.int .i64 stop] := by have := Blk.new (w.alloc (.cells #[.slice A N c] 23)) 3 #[.int .i64 stop]; rwa [World.size_alloc] at this
    have b3 : Blk (((w.alloc (.cells #[.slice A N c] 23)).alloc (.cells #[.int .i64 stop] 3)).alloc (.cells #[.bool false] 4)) (w.heap.size + 1 + 1) 4 #[.bool false] := by have := Blk.new ((w.alloc (.cells #[.slice A N c] 23)).alloc (.cells #[.int .i64 stop] 3)) 4 #[.bool false]; rwa [World.size_alloc, World.size_alloc] at this
    rw [HN.out] at hBa hLa
    exact ⟨((b1.alloc _).alloc _).pure_ hpa, (b2.alloc _).pure_ hpa, ⟨false, b3.pure_ hpa⟩, hBa, hLa.mono fun _ _ _ => trivial, (hL.pure_ hp3).pure_ hpa, (hR.pure_ hp3).pure_ hpa, hp3.trans hpa⟩
  clear hBn hBa hLa hpa hp3
  refine wp_loop (fun a' W => ToldHead w g S Sw (fun _ => True) es place A N c stop Bn Aa ca a' W) (fun a' _ => 2 - (intOf (a'.tmps.getD 13 undef)).toNat) ⟨0, [], _, _, _, _, _, _, _, _, _, _, _, _, _, _, _, _, _, _, _, _, _, _, _, _, _, _, _, _, _, _, _, _, _, _, _, _, _, _, _, _, _, _, _, _, _, Nat.zero_le _, hT, Marks.nil _ _, rfl⟩ ?_
  clear hT
  rintro a' W ⟨i, Ds, u8, u9, u10, u14, u15, u16, u17, u18, u19, u20, u21, u22, u23, u24, u25, u26, u27, u28, u29, u30, u31, u32, u33, u34, u35, u36, u37, u38, u39, u40, u41, u42, u43, u44, u45, u46, u47, u48, u49, u50, u51, u52, u53, u54, u55, hi, hT, hM, rfl⟩
  by_cases hlt : i < 2
  · have hiI : (i : Int) < 2 := by omega
    go_wp2
    obtain ⟨W1, hW1⟩ : ∃ W1, W1 = W.alloc (.cells #[.int .i64 0] 3) := ⟨_, rfl⟩
    have hp1 : Pure W W1 := by rw [hW1]; exact (Only.refl _ W).alloc _
    have hb8 : Blk W1 W.heap.size 3 #[.int .i64 ((0 : Nat) : Int)] := by rw [hW1]; exact Blk.new _ _ _
    have hsz : W1.heap.size = W.heap.size + 1 := by rw [hW1]; simp
    rw [← hW1]
    have h0 : Counts w g S Sw (fun _ => True) es place A N c stop w.heap.size Bn Aa ca w.heap.size Ds W.heap.size 0 W1 :=
      ⟨(hT.mono (S' := cut W.heap.size S) (Sw' := cut W.heap.size Sw) (Sa' := cut W.heap.size fun _ => True) (fun x hx h => ⟨h, hx⟩) (fun h => hT.2.2.2.2.2.2.1.1 h.1) (fun x hx h => ⟨h, hx⟩) (fun x hx h => ⟨h, hx⟩)).pure_ hp1, ⟨hT.2.2.2.2.2.2.1.lt, hT.2.2.2.1.lt, (by obtain ⟨_, _, ⟨r, h3⟩, _⟩ := hT; exact h3.lt), hT.2.2.2.2.2.2.2.size⟩, hb8, hM.keeps (keeps_pure hp1)⟩
    have hDlt := hM.lt
    have hlt6 : w.heap.size + 1 + 1 < W.heap.size := by obtain ⟨_, _, ⟨r, h3⟩, _⟩ := hT; exact h3.lt
    have hwW : w.heap.size ≤ W.heap.size := hT.2.2.2.2.2.2.2.size
    have HSZ := hid hsz
    have hN60 : N ≤ 60 := by rw [← HN.out]; exact hT.2.2.2.2.2.2.1.le60
    have hsm := hT.2.2.2.2.2.2.1.smalls
    clear hW1 hp1 hb8 hT hM hsz
    refine wp_range 3 (gf := 71) (lb := #[.pointer (some ⟨Bn, 0, none⟩)]) rfl (enters_of Try.func71 (by kernel_rfl) rfl) N (Entry es w.heap.size)
      (fun k W' => Counts w g S Sw (fun _ => True) es place A N c stop w.heap.size Bn Aa ca w.heap.size Ds W.heap.size k W')
      (fun c' W' => c' = .exit 2 ∧ ∃ k, k ≤ N ∧ (k : Int) = stop ∧ Counts w g S Sw (fun _ => True) es place A N c stop w.heap.size Bn Aa ca w.heap.size Ds W.heap.size k W')
      ?hI ?hIx ?hG ?hps (all1_iter 3 Bn Aa N ca es (cut W.heap.size fun _ => True) w.heap.size _ (by omega) (fun k => by have := hsm k; unfold small; omega) ?hit) h0 ?round ?done ?stop
    case hI => exact fun k X Y h kb => h.keptB (by rw [HSZ.out] at kb; exact kb) hDlt
    case hIx => exact fun c' X Y ⟨e, k, hk, hs, h⟩ kb => ⟨e, k, hk, hs, h.keptB (by rw [HSZ.out] at kb; exact kb) hDlt⟩
    case hG => exact fun k args X Y ⟨a, m, d, e, h⟩ kb => ⟨a, m, d, e, h.keptB kb⟩
    case hps => rintro k args X ⟨a, m, d, rfl, h⟩; rfl
    case hit => exact fun k X h => ⟨h.1.2.2.2.1, h.1.2.2.2.2.1, h.1.2.2.2.2.2.2.2.size⟩
    case round =>
      intro l k args X K hk hC hE hK
      obtain ⟨a, m, d, rfl, hx⟩ := hE
      clear hx hC
      simp only [Array.zip, Array.foldl]
      gi_wp2
      rintro X2 hC2 ⟨a', m', d', e, hx⟩
      simp only [Array.mk.injEq, List.cons.injEq, Value.slice.injEq, and_true, true_and] at e
      obtain ⟨rfl, rfl, rfl⟩ := e
      have hC2' := hC2
      obtain ⟨⟨t1, t2, _, _, _, t6, _, t8⟩, _, hb8, _⟩ := hC2'
      have c1 : X2.cell? ⟨w.heap.size, 0, none⟩ = some (.slice A N c) := t1.cell 0
      have c2 : X2.cell? ⟨w.heap.size + 1, 0, none⟩ = some (.int .i64 stop) := t2.cell 0
      have c8 : X2.cell? ⟨W.heap.size, 0, none⟩ = some (.int .i64 (k : Int)) := hb8.cell 0
      have f8 : X2.frozen? ⟨W.heap.size, 0, none⟩ = false := hb8.frozen 0
      have hlt2 : (k : Int) < (N : Int) := by omega
      have hN60I : (N : Int) ≤ 60 := by omega
      obtain ⟨gw, ow, aw, mw, dw, hA, _, _, cw, hw⟩ := t6.at_ hk
      have hsma : small m := by have h1 := hx.len; have h2 := hsm k; unfold small; omega
      have heq : eqL (es[k]?.getD []) (es[k]?.getD []) = true := by unfold eqL; simp
      have hne8 : ¬ w.heap.size = W.heap.size := by omega
      have hne9 : ¬ w.heap.size + 1 = W.heap.size := by omega
      have hne8' : ¬ W.heap.size = w.heap.size := by omega
      have hne9' : ¬ W.heap.size = w.heap.size + 1 := by omega
      obtain ⟨L, hLe⟩ : ∃ L, L = es[k]?.getD [] := ⟨_, rfl⟩
      rw [← hLe] at hx hw heq
      subst hA
      clear hLe t1 t2 t6
      by_cases hst : (k : Int) + 1 = stop
      · have hstB : ((k : Int) + 1 == stop) = true := by rw [beq_iff_eq]; exact hst
        have HST := hid hst
        clear hst
        gi_wp2_with ((refine ⟨trivial, ?_⟩; gi_at_call 19; refine (CallsIn.inRound l (callsIn_wide.2 (equal_any a m d L _ aw mw dw L _ X2 hx hw hsma))).mono ?_; rintro e w3 ⟨rfl, q, rfl⟩; rw [heq]))
        exact ⟨hC2.keeps q _, rfl, k + 1, by omega, by have := HST.out; omega, hC2.step q⟩
      · have hstB : ((k : Int) + 1 == stop) = false := by rw [beq_eq_false_iff_ne]; exact hst
        clear hst
        gi_wp2_with ((refine ⟨trivial, ?_⟩; gi_at_call 19; refine (CallsIn.inRound l (callsIn_wide.2 (equal_any a m d L _ aw mw dw L _ X2 hx hw hsma))).mono ?_; rintro e w3 ⟨rfl, q, rfl⟩; rw [heq]))
        exact ⟨hC2.keeps q _, hC2.step q⟩
    case done =>
      intro D X hD hC hk
      simp only [Exit.inBlock, Exit.then]
      have c1 : X.cell? ⟨w.heap.size, 0, none⟩ = some (.slice A N c) := hC.1.1.cell 0
      have c2 : X.cell? ⟨w.heap.size + 1, 0, none⟩ = some (.int .i64 stop) := hC.1.2.1.cell 0
      have c8 : X.cell? ⟨W.heap.size, 0, none⟩ = some (.int .i64 (N : Int)) := hC.2.2.1.cell 0
      have hnn : ((N : Int) != (N : Int)) = false := by simp
      have HF := hid (hC.told HSZ.out hD hk hDlt)
      clear hC hk hD
      go_wp2
      obtain ⟨hT2, hM2⟩ := HF.out
      refine ⟨⟨i + 1, D :: Ds, _, _, _, _, _, _, _, _, _, _, _, _, _, _, _, _, _, _, _, _, _, _, _, _, _, _, _, _, _, _, _, _, _, _, _, _, _, _, _, _, _, _, _, _, _, by omega, hT2.mono (fun _ _ h => h.1) (fun h => hR.1 h) (fun _ _ h => h.1) (fun _ _ _ => trivial), hM2, rfl⟩, ?_⟩
      simp [intOf]
      omega
    case stop =>
      rintro D c' X hD ⟨rfl, k, hk, hks, hC⟩ hkk
      have c1 : X.cell? ⟨w.heap.size, 0, none⟩ = some (.slice A N c) := hC.1.1.cell 0
      have c2 : X.cell? ⟨w.heap.size + 1, 0, none⟩ = some (.int .i64 stop) := hC.1.2.1.cell 0
      have c8 : X.cell? ⟨W.heap.size, 0, none⟩ = some (.int .i64 (k : Int)) := hC.2.2.1.cell 0
      have hnn : ((k : Int) != stop) = false := by rw [hks]; simp
      have HF := hid (hC.told HSZ.out hD hkk hDlt)
      clear hC hkk hD hks
      by_cases hkN : (k : Int) = (N : Int)
      · have hnn2 : ((k : Int) != (N : Int)) = false := by rw [hkN]; simp
        clear hkN
        go_wp2
        obtain ⟨hT2, hM2⟩ := HF.out
        refine ⟨⟨i + 1, D :: Ds, _, _, _, _, _, _, _, _, _, _, _, _, _, _, _, _, _, _, _, _, _, _, _, _, _, _, _, _, _, _, _, _, _, _, _, _, _, _, _, _, _, _, _, _, _, by omega, hT2.mono (fun _ _ h => h.1) (fun h => hR.1 h) (fun _ _ h => h.1) (fun _ _ _ => trivial), hM2, rfl⟩, ?_⟩
        simp [intOf]
        omega
      · have hnn2 : ((k : Int) != (N : Int)) = true := by simpa using hkN
        clear hkN
        go_wp2
        obtain ⟨hT2, hM2⟩ := HF.out
        refine ⟨⟨i + 1, D :: Ds, _, _, _, _, _, _, _, _, _, _, _, _, _, _, _, _, _, _, _, _, _, _, _, _, _, _, _, _, _, _, _, _, _, _, _, _, _, _, _, _, _, _, _, _, _, by omega, hT2.mono (fun _ _ h => h.1) (fun h => hR.1 h) (fun _ _ h => h.1) (fun _ _ _ => trivial), hM2, rfl⟩, ?_⟩
        simp [intOf]
        omega
  · have hi2 : i = 2 := by omega
    subst hi2
    have c1 : W.cell? ⟨w.heap.size, 0, none⟩ = some (.slice A N c) := hT.1.cell 0
    obtain ⟨t1, t2, ⟨r, t3⟩, t4, t5, t6, t7, t8⟩ := hT
    have c3 : W.cell? ⟨w.heap.size + 1 + 1, 0, none⟩ = some (.bool r) := t3.cell 0
    have f3 : W.frozen? ⟨w.heap.size + 1 + 1, 0, none⟩ = false := t3.frozen 0
    have hnn : ((N : Int) == (N : Int)) = true := by simp
    have hne : ¬ w.heap.size = w.heap.size + 1 + 1 := by omega
    have hne' : ¬ w.heap.size + 1 + 1 = w.heap.size := by omega
    have h0 : W.cell? ⟨g, 0, none⟩ = some (.bool true) := t7.c0
    have h62 : W.cell? ⟨g, 62, none⟩ = some (.int .i64 (N : Int)) := by rw [← HN.out]; exact t7.c62
    have hlt3 := t3.lt
    have hO : Only (fun x => x = w.heap.size + 1 + 1) W ((W.drew).setCell ⟨w.heap.size + 1 + 1, 0, none⟩ (.bool true)) := ((Only.refl _ W).drew).set 0 _
    clear hlt hi t1 t2 t4 t5 t6
    go_wp2
    refine wp_calm ?_
    go_region_with (go_at_call 20; refine (len_made g _ W.drew h0 h62).mono ?_; rintro e w9 ⟨rfl, rfl⟩)
    all_goals (
      go_wp2
      refine leave_marks (B := w.heap.size) Ds _ (hM.keeps (keeps_only hO fun x e _ => ⟨#[.bool r], 4, (0, 0), e ▸ t3⟩)) fun W' hk => ?_
      have c9 : W'.cell? ⟨w.heap.size + 1 + 1, 0, none⟩ = some (.bool true) := hk.cell (((t3.drew).set_ 0 (.bool true)).cell 0)
      refine ⟨.bool true, ?_, rfl, ?_⟩
      · exact results_bool rfl _ _ _ _ rfl c9
      · exact (t8.then_ hO fun i hi e => by omega).keptB hk (Nat.le_refl _))

end Go.Proofs.Ytinlpmgchcbjpaa
