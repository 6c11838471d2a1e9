/- The law of a range over a function whose round's assignment lays memory; rows of the call's own kept by the loop's book-keeping. No program is named. -/
import Derived.Test.YtinlpmgchcbjpaaRf
import Derived.Test.YtinlpmgchcbjpaaU6
namespace Go.Proofs.Ytinlpmgchcbjpaa
open Go Go.RowKit

/-- THE STATEMENT 'for .. := range g { .. }' over such an iterator, in the plain walk; what the round's assignment leaves is any world. -/
theorem wp_range2 {P : Program} {g : Operand} {ps : Array Tmp} {assign body : Code} {Q : Exit → Act → World → Prop} {a : Act} {w : World} {gf : Nat} {lb : Array Value} (n : Nat)
    (hg : a.eval g = .func (.func gf) #[] lb) (eg : ∀ args w, (callFunc gf args).run P w = .ok (.enter gf args) w)
    (N : Nat) (G : Nat → Array Value → World → Prop) (I : Nat → World → Prop) (Ix : Code → World → Prop)
    (hI : ∀ i W W', I i W → KeptB w.heap.size W W' → I i W') (hIx : ∀ c W W', Ix c W → KeptB w.heap.size W W' → Ix c W')
    (hps : ∀ i args W, G i args W → args.size = ps.size) (hiter : Iter n P gf lb N G I) (h0 : I 0 w)
    (hround : ∀ (l i : Nat) (args : Array Value) (W : World) (K : Act → World → Prop), i < N → I i W → G i args W →
      (∀ (a₁ : Act) (W1 : World), KeepsOthers W W1 → (∀ W2, KeptB w.heap.size W1 W2 → body.wpIn (Fence.wide.inRound l) n P (postB I Ix i W2) a₁ W2) → K a₁ W1) →
      assign.wpIn (Fence.wide.inRound l) n P (Exit.then K (fun _ _ _ => False)) { tmps := (ps.zip args).foldl (fun t (p, v) => t.setIfInBounds p v) a.tmps, defers := [] } W)
    (hdone : ∀ (D : Nat) (W : World), w.heap.size ≤ D → I N W → W.heap[D]? = some (.deferred (some [])) → Q .normal { a with defers := { target := .collected D, args := #[] } :: a.defers } W)
    (hstop : ∀ (D : Nat) (c : Code) (W : World), w.heap.size ≤ D → Ix c W → W.heap[D]? = some (.deferred (some [])) → c.wp P Q { a with defers := { target := .collected D, args := #[] } :: a.defers } W) :
    (Code.rangeFunc g ps assign body).wp P Q a w := by
  refine (wpIn_wide (n := n + 2)).1 (wpIn_rangeFunc ?_)
  intro fn hfn
  obtain ⟨rec, hrec⟩ : ∃ rec : LoopState → Option Code → Loop, rec = fun st pe => { state := st, pending := pe, fn, tmps := a.tmps, params := ps, assign, body, defers := w.heap.size } := ⟨_, rfl⟩
  obtain ⟨W1, hW1⟩ : ∃ W1, (w.alloc (.deferred (some []))).alloc (.loop (rec .ready none)) = W1 := ⟨_, rfl⟩
  have hL1 : W1.heap[w.heap.size + 1]? = some (.loop (rec .ready none)) := by
    rw [← hW1]; have := World.alloc_heap_new (w.alloc (.deferred (some []))) (.loop (rec .ready none)); rwa [World.size_alloc] at this
  have hK1 : W1.heap[w.heap.size]? = some (.deferred (some [])) := by
    rw [← hW1]; exact (Below.heap_alloc _ _ _ (by simp)).trans (World.alloc_heap_new w _)
  have hI1 : I 0 W1 := hI 0 w W1 h0 (KeptB.of_pure (by rw [← hW1]; exact ((Only.refl _ w).alloc _).alloc _))
  refine ⟨w.heap.size + 1, [{ target := .collected w.heap.size, args := #[] }], W1, { target := .fn (.func gf) lb, args := #[.func (.yield (w.heap.size + 1)) #[] #[]] }, W1, gf,
    #[.func (.yield (w.heap.size + 1)) #[] #[]] ++ lb, W1, ?_, ?_, ?_, ?_, fun h => by simp [Fence.wide] at h, ?_⟩
  · rw [← hW1, hrec]; exact run_enterLoop_outer _ _ _ _ _
  · simp only [resolve, hg]
    simp [go_sem]
  · intro f' _; trivial
  · simp [invoke, go_sem, eg]
  · refine (hiter (w.heap.size + 1)
      (fun i W => I i W ∧ W.heap[w.heap.size + 1]? = some (.loop (rec .ready none)) ∧ W.heap[w.heap.size]? = some (.deferred (some [])))
      (fun W => ∃ c, Ix c W ∧ W.heap[w.heap.size + 1]? = some (.loop (rec .done (some c))) ∧ W.heap[w.heap.size]? = some (.deferred (some [])))
      W1 (fun i W h => h.1)
      (fun i W W' h hp => ⟨hI i W W' h.1 (KeptB.of_pure hp), (hp.block _ (Array.getElem?_eq_some_iff.1 h.2.1).1 (fun x => x)).trans h.2.1, (hp.block _ (Array.getElem?_eq_some_iff.1 h.2.2).1 (fun x => x)).trans h.2.2⟩)
      ?_ ⟨hI1, hL1, hK1⟩).mono ?_
    · -- one round
      rintro i args W hiN ⟨hi, hl, hk⟩ hgi
      have hlt : w.heap.size + 1 < W.heap.size := (Array.getElem?_eq_some_iff.1 hl).1
      have hy := run_yield (P := P) (args := args) hl (by rw [hrec]; exact hps i args W hgi)
      rw [hrec] at hy
      refine ⟨fn, _, assign, body, hy, roundIn_of_wpIn hfn (hround _ i args W _ hiN hi hgi fun a₁ W0 hko hbody => ⟨_, run_beginRound (hko.same _ _ hl rfl) (by rw [hrec]), ?_⟩)⟩
      have hl0 := hko.same _ _ hl rfl
      have hk0 := hko.same _ _ hk rfl
      have hlt0 : w.heap.size + 1 < W0.heap.size := (Array.getElem?_eq_some_iff.1 hl0).1
      have hl2 : (W0.putObj (w.heap.size + 1) (.loop { rec .ready none with state := .busy })).heap[w.heap.size + 1]? = some (.loop { rec .ready none with state := .busy }) := World.putObj_heap_same hlt0
      have hk2 : (W0.putObj (w.heap.size + 1) (.loop { rec .ready none with state := .busy })).heap[w.heap.size]? = some (.deferred (some [])) := (World.putObj_heap_other (by omega)).trans hk0
      have kb : KeptB w.heap.size W0 (W0.putObj (w.heap.size + 1) (.loop { rec .ready none with state := .busy })) := KeptB.putObj _ (by omega) hl0 rfl
      refine wpIn_mono (hbody _ kb) ?_
      have fin : ∀ (jump : Option Code) (W3 : World), KeepsOthers (W0.putObj (w.heap.size + 1) (.loop { rec .ready none with state := .busy })) W3 →
          (Instr.endRound (w.heap.size + 1) jump).run P W3 = .ok (.bool jump.isNone) (W3.putObj (w.heap.size + 1) (.loop (rec (if jump.isNone then .ready else .done) jump))) ∧
          KeptB w.heap.size W3 (W3.putObj (w.heap.size + 1) (.loop (rec (if jump.isNone then .ready else .done) jump))) ∧
          (W3.putObj (w.heap.size + 1) (.loop (rec (if jump.isNone then .ready else .done) jump))).heap[w.heap.size + 1]? = some (.loop (rec (if jump.isNone then .ready else .done) jump)) ∧
          (W3.putObj (w.heap.size + 1) (.loop (rec (if jump.isNone then .ready else .done) jump))).heap[w.heap.size]? = some (.deferred (some [])) := fun jump W3 hk3 => by
        have hl3 := hk3.same _ _ hl2 rfl
        have := run_endRound (P := P) jump hl3
        rw [hrec] at this ⊢
        exact ⟨this, KeptB.putObj _ (by omega) hl3 rfl, World.putObj_heap_same (Array.getElem?_eq_some_iff.1 hl3).1, (World.putObj_heap_other (by omega)).trans (hk3.same _ _ hk2 rfl)⟩
      rintro e a3 W3 hp
      cases e with
      | normal =>
        obtain ⟨hr, kb3, hl4, hk4⟩ := fin none W3 hp.1
        exact ⟨_, _, hr, .inl ⟨rfl, hI _ _ _ hp.2 kb3, hl4, hk4⟩⟩
      | ret =>
        obtain ⟨hr, kb3, hl4, hk4⟩ := fin (some .ret) W3 hp.1
        exact ⟨_, _, hr, .inr ⟨rfl, .ret, hIx _ _ _ hp.2 kb3, hl4, hk4⟩⟩
      | exit id =>
        obtain ⟨hr, kb3, hl4, hk4⟩ := fin (some (.exit id)) W3 hp.1
        exact ⟨_, _, hr, .inr ⟨rfl, .exit id, hIx _ _ _ hp.2 kb3, hl4, hk4⟩⟩
      | goto t =>
        obtain ⟨hr, kb3, hl4, hk4⟩ := fin (some (.goto t)) W3 hp.1
        exact ⟨_, _, hr, .inr ⟨rfl, .goto t, hIx _ _ _ hp.2 kb3, hl4, hk4⟩⟩
      | panic ch => exact hp.elim
      | outgrown => exact hp.elim
    · -- behind the iterator
      rintro e W2 ⟨⟨v, rfl⟩, (⟨hi, hl, hk⟩ | ⟨c, hi, hl, hk⟩)⟩
      · exact ⟨none, _, by have := run_endLoop (P := P) hl (by rw [hrec]; simp); rw [hrec] at this; exact this, hdone _ _ (Nat.le_refl _) (hI _ _ _ hi (KeptB.putObj _ (by omega) hl rfl)) ((World.putObj_heap_other (by omega)).trans hk)⟩
      · exact ⟨some c, _, by have := run_endLoop (P := P) hl (by rw [hrec]; simp); rw [hrec] at this; exact this, wpIn_wide.2 (hstop _ c _ (Nat.le_refl _) (hIx _ _ _ hi (KeptB.putObj _ (by omega) hl rfl)) ((World.putObj_heap_other (by omega)).trans hk))⟩

theorem KeptB.lower {B B' : Nat} {W W' : World} (h : KeptB B W W') (hB : B' ≤ B) : KeptB B' W W' := ⟨h.os, h.tape, h.output, h.size, fun k hk hk' => h.low k (Nat.lt_of_lt_of_le hk hB) hk', h.cells⟩
theorem edKind_kept {B : Nat} {W W' : World} {S : Nat → Prop} {cs : List Value} {x : Ed} (h : edKind.rd W S cs x) (k : KeptB B W W') : edKind.rd W' S cs x := by
  obtain ⟨a, m, d, a', m', d', e, h1, h2⟩ := h
  exact ⟨a, m, d, a', m', d', e, h1.keptB k, h2.keptB k⟩
theorem RdK'.keptB {α : Type} {K : Kind α} {n' : Nat} {z : α} {B : Nat} {W W' : World} {S : Nat → Prop} {A : Option Addr} {n c : Nat} {xs : List α} (hK : ∀ cs x, K.rd W S cs x → K.rd W' S cs x) (h : RdK' K n' z W S A n c xs) (k : KeptB B W W') : RdK' K n' z W' S A n c xs := by
  obtain ⟨h1, vs, h2, h3⟩ := h
  exact ⟨h1, vs, h2.keptB k, fun j hj => hK _ _ (h3 j hj)⟩
theorem RdE.keptB {B : Nat} {W W' : World} {S : Nat → Prop} {A : Option Addr} {n c : Nat} {es : List Ed} (h : RdE W S A n c es) (k : KeptB B W W') : RdE W' S A n c es := RdK'.keptB (fun _ _ h => edKind_kept h k) h k
theorem grKind_kept {B : Nat} {W W' : World} {S : Nat → Prop} {cs : List Value} {x : List Ed} (h : grKind.rd W S cs x) (k : KeptB B W W') : grKind.rd W' S cs x := by
  obtain ⟨a, m, d, e, h1⟩ := h
  exact ⟨a, m, d, e, RdE.keptB h1 k⟩
theorem RdG.keptB {B : Nat} {W W' : World} {S : Nat → Prop} {A : Option Addr} {n c : Nat} {gs : List (List Ed)} (h : RdG W S A n c gs) (k : KeptB B W W') : RdG W' S A n c gs := RdK'.keptB (fun _ _ h => grKind_kept h k) h k
theorem OwnK.keptB {α : Type} {K : Kind α} {e : TypeId} {n' : Nat} {z : α} {base B : Nat} {W W' : World} {Se : Nat → Prop} {A : Option Addr} {n c : Nat} {xs : List α} (hK : ∀ cs x, K.rd W Se cs x → K.rd W' Se cs x) (h : OwnK K e n' z base W A n c xs Se) (k : KeptB B W W') : OwnK K e n' z base W' A n c xs Se := by
  obtain ⟨h1, vs, h2, h3, h4, h5⟩ := h
  exact ⟨h1, vs, own_keptB h2 k, fun j hj => hK _ _ (h3 j hj), h4, fun b hb => Nat.lt_of_lt_of_le (h5 b hb) k.size⟩
abbrev OwnE (base : Nat) (w : World) (A : Option Addr) (n c : Nat) (es : List Ed) (Se : Nat → Prop) : Prop := OwnK edKind 60 3 Ed.none base w A n c es Se
abbrev OwnG (base : Nat) (w : World) (A : Option Addr) (n c : Nat) (gs : List (List Ed)) (Se : Nat → Prop) : Prop := OwnK grKind 71 1 [] base w A n c gs Se
theorem OwnE.keptB {B base : Nat} {W W' : World} {Se : Nat → Prop} {A : Option Addr} {n c : Nat} {es : List Ed} (h : OwnE base W A n c es Se) (k : KeptB B W W') : OwnE base W' A n c es Se := OwnK.keptB (fun _ _ h => edKind_kept h k) h k
theorem OwnG.keptB {B base : Nat} {W W' : World} {Se : Nat → Prop} {A : Option Addr} {n c : Nat} {gs : List (List Ed)} (h : OwnG base W A n c gs Se) (k : KeptB B W W') : OwnG base W' A n c gs Se := OwnK.keptB (fun _ _ h => grKind_kept h k) h k

end Go.Proofs.Ytinlpmgchcbjpaa
