/- A range over a function whose rounds are handed slices in memory: one law for the statement, in the plain walk, over an iterator that numbers its rounds. No program is named. -/
import Derived.Test.YtinlpmgchcbjpaaBase2
import Derived.RangeFuncNested
import Derived.RangeFuncLeaves
import Derived.RangeFuncCalls
namespace Go.Proofs.Ytinlpmgchcbjpaa
open Go Go.RowKit

/-- From W to W': below block B nothing has turned, and no block of cells. -/
structure KeptB (B : Nat) (W W' : World) : Prop where
  os : W'.os = W.os
  tape : W'.tape = W.tape
  output : W'.output = W.output
  size : W.heap.size ≤ W'.heap.size
  low : ∀ k, k < B → k < W.heap.size → W'.heap[k]? = W.heap[k]?
  cells : ∀ (k : Nat) (cs : Array Value) (t : TypeId) (fr : Nat × Nat), W.heap[k]? = some (.cells cs t fr) → W'.heap[k]? = some (.cells cs t fr)

theorem KeptB.putObj {B : Nat} {W : World} {l : Nat} {o : Obj} (o' : Obj) (hl : B ≤ l) (h : W.heap[l]? = some o) (ho : o.isCells = false) : KeptB B W (W.putObj l o') :=
  ⟨rfl, rfl, rfl, by simp, fun k hk _ => World.putObj_heap_other (by omega), fun k cs t fr hk => by
    refine (World.putObj_heap_other (fun e => ?_)).trans hk
    subst e; rw [h] at hk; cases hk; simp [Obj.isCells] at ho⟩
theorem KeptB.of_pure {B : Nat} {W W' : World} (h : Pure W W') : KeptB B W W' :=
  ⟨h.os, h.tape, h.output, h.size, fun k _ hk => h.block k hk (fun x => x), fun k _ _ _ hk => (h.block k (Array.getElem?_eq_some_iff.1 hk).1 (fun x => x)).trans hk⟩
theorem KeptB.cell {B : Nat} {W W' : World} (h : KeptB B W W') {p : Addr} {v : Value} (hc : W.cell? p = some v) : W'.cell? p = some v := by
  obtain ⟨o, ho, hc'⟩ := cells_of_cell hc
  cases o with
  | cells cs t fr => exact (World.cell?_of_block ((h.cells _ _ _ _ ho).trans ho.symm)).trans hc
  | _ => simp [Obj.isCells] at hc'
theorem Only.keptB {B : Nat} {T : Nat → Prop} {w W W' : World} (h : Only T w W) (k : KeptB B W W') (hB : w.heap.size ≤ B) : Only T w W' :=
  ⟨k.os.trans h.os, k.tape.trans h.tape, k.output.trans h.output, Nat.le_trans h.size k.size, fun i hi ht => (k.low i (by omega) (Nat.lt_of_lt_of_le hi h.size)).trans (h.block i hi ht)⟩
theorem Rd.keptB {B : Nat} {W W' : World} {S : Nat → Prop} {size : Nat} {A : Option Addr} {n c : Nat} {xs : List Value} (h : Rd W S size A n c xs) (k : KeptB B W W') : Rd W' S size A n c xs :=
  ⟨h.1, h.2.1, h.2.2.1, fun hn => by
    obtain ⟨g, off, e, hS, hg, hc⟩ := h.2.2.2 hn
    exact ⟨g, off, e, hS, Nat.lt_of_lt_of_le hg k.size, fun j u hu => k.cell (hc j u hu)⟩⟩
theorem RdI.keptB {B : Nat} {W W' : World} {S : Nat → Prop} {A : Option Addr} {n c : Nat} {xs : List Int} (h : RdI W S A n c xs) (k : KeptB B W W') : RdI W' S A n c xs := Rd.keptB h k
theorem RdL.keptB {B : Nat} {W W' : World} {S : Nat → Prop} {A : Option Addr} {n c : Nat} {ls : List (List Int)} (h : RdL W S A n c ls) (k : KeptB B W W') : RdL W' S A n c ls := by
  obtain ⟨h1, vs, hr, hi⟩ := h
  refine ⟨h1, vs, hr.keptB k, fun j hj => ?_⟩
  obtain ⟨a, m, d, hv, hri⟩ := hi j hj
  exact ⟨a, m, d, hv, hri.keptB k⟩
theorem own_keptB {B : Nat} {W W' : World} {base : Nat} {e : TypeId} {size n : Nat} {v : Value} {xs : List Value} (h : W.ownsRow base e size v n xs) (k : KeptB B W W') : W'.ownsRow base e size v n xs := by
  refine ⟨h.1, ?_⟩
  rcases h.2 with hn | ⟨g, cap, cur, rfl, hb, hgg, rest⟩
  · exact .inl hn
  · exact .inr ⟨g, cap, cur, rfl, hb, k.cells _ _ _ _ hgg, rest⟩

/-- THE BODY's WORD on what is no cells, out of what it may have turned. -/
theorem keeps_only {T : Nat → Prop} {W W' : World} (h : Only T W W') (hT : ∀ k, T k → k < W.heap.size → ∃ cs t fr, W.heap[k]? = some (.cells cs t fr)) : KeepsOthers W W' :=
  ⟨h.size, fun k o hk ho => by
    have hlt := (Array.getElem?_eq_some_iff.1 hk).1
    by_cases ht : T k
    · obtain ⟨cs, t, fr, e⟩ := hT k ht hlt
      rw [hk] at e; cases e; simp [Obj.isCells] at ho
    · exact (h.block k hlt ht).trans hk⟩
theorem keeps_pure {W W' : World} (h : Pure W W') : KeepsOthers W W' := keeps_only h fun _ x _ => x.elim

/-- How the body of a round may be left. -/
def postB (I : Nat → World → Prop) (Ix : Code → World → Prop) (i : Nat) (W : World) : Exit → Act → World → Prop
  | .normal, _, W' => KeepsOthers W W' ∧ I (i + 1) W'
  | .ret, _, W' => KeepsOthers W W' ∧ Ix .ret W'
  | .exit id, _, W' => KeepsOthers W W' ∧ Ix (.exit id) W'
  | .goto t, _, W' => KeepsOthers W W' ∧ Ix (.goto t) W'
  | .panic _, _, _ => False
  | .outgrown, _, _ => False

/-- AN ITERATOR: N rounds, numbered; round i is handed args of which 'G i args' holds; what the caller keeps between two rounds (J) abides new blocks and draws. -/
def Iter (n : Nat) (P : Program) (gf : Nat) (lb : Array Value) (N : Nat) (G : Nat → Array Value → World → Prop) (I : Nat → World → Prop) : Prop :=
  ∀ (l : Nat) (J : Nat → World → Prop) (Jx : World → Prop) (W : World), (∀ i W, J i W → I i W) → (∀ i W W', J i W → Pure W W' → J i W') →
    (∀ i args W1, i < N → J i W1 → G i args W1 → YieldAt Fence.wide n P l args W1 fun e W' => (e = .returned (.bool true) ∧ J (i + 1) W') ∨ (e = .returned (.bool false) ∧ Jx W')) →
    J 0 W → CallsIn Fence.wide (n + 1) P gf (#[.func (.yield l) #[] #[]] ++ lb) W fun e W' => (∃ v, e = .returned v) ∧ (J N W' ∨ Jx W')

/-- THE STATEMENT 'for .. := range g { .. }' over such an iterator, in the plain walk. -/
theorem wp_range {P : Program} {g : Operand} {ps : Array Tmp} {assign body : Code} {Q : Exit → Act → World → Prop} {a : Act} {w : World} {gf : Nat} {lb : Array Value} (n : Nat)
    (hg : a.eval g = .func (.func gf) #[] lb) (eg : ∀ args w, (callFunc gf args).run P w = .ok (.enter gf args) w)
    (N : Nat) (G : Nat → Array Value → World → Prop) (I : Nat → World → Prop) (Ix : Code → World → Prop)
    (hI : ∀ i W W', I i W → KeptB w.heap.size W W' → I i W') (hIx : ∀ c W W', Ix c W → KeptB w.heap.size W W' → Ix c W') (hG : ∀ i args W W', G i args W → KeptB w.heap.size W W' → G i args W')
    (hps : ∀ i args W, G i args W → args.size = ps.size) (hiter : Iter n P gf lb N G I) (h0 : I 0 w)
    (hround : ∀ (l i : Nat) (args : Array Value) (W : World) (K : Act → World → Prop), i < N → I i W → G i args W →
      (∀ a₁ : Act, (∀ W2, I i W2 → G i args W2 → body.wpIn (Fence.wide.inRound l) n P (postB I Ix i W2) a₁ W2) → K a₁ W) →
      assign.wpIn (Fence.wide.inRound l) n P (Exit.then K (fun _ _ _ => False)) { tmps := (ps.zip args).foldl (fun t (p, v) => t.setIfInBounds p v) a.tmps, defers := [] } W)
    (hdone : ∀ (D : Nat) (W : World), w.heap.size ≤ D → I N W → W.heap[D]? = some (.deferred (some [])) → Q .normal { a with defers := { target := .collected D, args := #[] } :: a.defers } W)
    (hstop : ∀ (D : Nat) (c : Code) (W : World), w.heap.size ≤ D → Ix c W → W.heap[D]? = some (.deferred (some [])) → c.wp P Q { a with defers := { target := .collected D, args := #[] } :: a.defers } W) :
    (Code.rangeFunc g ps assign body).wp P Q a w := by
  refine (wpIn_wide (n := n + 2)).1 (wpIn_rangeFunc ?_)
  intro fn hfn
  obtain ⟨rec, hrec⟩ : ∃ rec : LoopState → Option Code → Loop, rec = fun st pe => { state := st, pending := pe, fn, tmps := a.tmps, params := ps, assign, body, defers := w.heap.size } := ⟨_, rfl⟩
  obtain ⟨W1, hW1⟩ : ∃ W1, (w.alloc (.deferred (some []))).alloc (.loop (rec .ready none)) = W1 := ⟨_, rfl⟩
  have hL1 : W1.heap[w.heap.size + 1]? = some (.loop (rec .ready none)) := by
    rw [← hW1]; have := World.alloc_heap_new (w.alloc (.deferred (some []))) (.loop (rec .ready none)); rwa [World.size_alloc] at this
  have hK1 : W1.heap[w.heap.size]? = some (.deferred (some [])) := by
    rw [← hW1]; exact (Below.heap_alloc _ _ _ (by simp)).trans (World.alloc_heap_new w _)
  have hI1 : I 0 W1 := hI 0 w W1 h0 (KeptB.of_pure (by rw [← hW1]; exact ((Only.refl _ w).alloc _).alloc _))
  refine ⟨w.heap.size + 1, [{ target := .collected w.heap.size, args := #[] }], W1, { target := .fn (.func gf) lb, args := #[.func (.yield (w.heap.size + 1)) #[] #[]] }, W1, gf,
    #[.func (.yield (w.heap.size + 1)) #[] #[]] ++ lb, W1, ?_, ?_, ?_, ?_, fun h => by simp [Fence.wide] at h, ?_⟩
  · rw [← hW1, hrec]; exact run_enterLoop_outer _ _ _ _ _
  · simp only [resolve, hg]
    simp [go_sem]
  · intro f' _; trivial
  · simp [invoke, go_sem, eg]
  · refine (hiter (w.heap.size + 1)
      (fun i W => I i W ∧ W.heap[w.heap.size + 1]? = some (.loop (rec .ready none)) ∧ W.heap[w.heap.size]? = some (.deferred (some [])))
      (fun W => ∃ c, Ix c W ∧ W.heap[w.heap.size + 1]? = some (.loop (rec .done (some c))) ∧ W.heap[w.heap.size]? = some (.deferred (some [])))
      W1 (fun i W h => h.1)
      (fun i W W' h hp => ⟨hI i W W' h.1 (KeptB.of_pure hp), (hp.block _ (Array.getElem?_eq_some_iff.1 h.2.1).1 (fun x => x)).trans h.2.1, (hp.block _ (Array.getElem?_eq_some_iff.1 h.2.2).1 (fun x => x)).trans h.2.2⟩)
      ?_ ⟨hI1, hL1, hK1⟩).mono ?_
    · -- one round
      rintro i args W hiN ⟨hi, hl, hk⟩ hgi
      have hlt : w.heap.size + 1 < W.heap.size := (Array.getElem?_eq_some_iff.1 hl).1
      have hy := run_yield (P := P) (args := args) hl (by rw [hrec]; exact hps i args W hgi)
      rw [hrec] at hy
      refine ⟨fn, _, assign, body, hy, roundIn_of_wpIn hfn (hround _ i args W _ hiN hi hgi fun a₁ hbody => ⟨_, run_beginRound hl (by rw [hrec]), ?_⟩)⟩
      have hl2 : (W.putObj (w.heap.size + 1) (.loop { rec .ready none with state := .busy })).heap[w.heap.size + 1]? = some (.loop { rec .ready none with state := .busy }) := World.putObj_heap_same hlt
      have hk2 : (W.putObj (w.heap.size + 1) (.loop { rec .ready none with state := .busy })).heap[w.heap.size]? = some (.deferred (some [])) := (World.putObj_heap_other (by omega)).trans hk
      have kb : KeptB w.heap.size W (W.putObj (w.heap.size + 1) (.loop { rec .ready none with state := .busy })) := KeptB.putObj _ (by omega) hl rfl
      refine wpIn_mono (hbody _ (hI i _ _ hi kb) (hG i args _ _ hgi kb)) ?_
      have fin : ∀ (jump : Option Code) (W3 : World), KeepsOthers (W.putObj (w.heap.size + 1) (.loop { rec .ready none with state := .busy })) W3 →
          (Instr.endRound (w.heap.size + 1) jump).run P W3 = .ok (.bool jump.isNone) (W3.putObj (w.heap.size + 1) (.loop (rec (if jump.isNone then .ready else .done) jump))) ∧
          KeptB w.heap.size W3 (W3.putObj (w.heap.size + 1) (.loop (rec (if jump.isNone then .ready else .done) jump))) ∧
          (W3.putObj (w.heap.size + 1) (.loop (rec (if jump.isNone then .ready else .done) jump))).heap[w.heap.size + 1]? = some (.loop (rec (if jump.isNone then .ready else .done) jump)) ∧
          (W3.putObj (w.heap.size + 1) (.loop (rec (if jump.isNone then .ready else .done) jump))).heap[w.heap.size]? = some (.deferred (some [])) := fun jump W3 hk3 => by
        have hl3 := hk3.same _ _ hl2 rfl
        have := run_endRound (P := P) jump hl3
        rw [hrec] at this ⊢
        exact ⟨this, KeptB.putObj _ (by omega) hl3 rfl, World.putObj_heap_same (Array.getElem?_eq_some_iff.1 hl3).1, (World.putObj_heap_other (by omega)).trans (hk3.same _ _ hk2 rfl)⟩
      rintro e a3 W3 hp
      cases e with
      | normal =>
        obtain ⟨hr, kb3, hl4, hk4⟩ := fin none W3 hp.1
        exact ⟨_, _, hr, .inl ⟨rfl, hI _ _ _ hp.2 kb3, hl4, hk4⟩⟩
      | ret =>
        obtain ⟨hr, kb3, hl4, hk4⟩ := fin (some .ret) W3 hp.1
        exact ⟨_, _, hr, .inr ⟨rfl, .ret, hIx _ _ _ hp.2 kb3, hl4, hk4⟩⟩
      | exit id =>
        obtain ⟨hr, kb3, hl4, hk4⟩ := fin (some (.exit id)) W3 hp.1
        exact ⟨_, _, hr, .inr ⟨rfl, .exit id, hIx _ _ _ hp.2 kb3, hl4, hk4⟩⟩
      | goto t =>
        obtain ⟨hr, kb3, hl4, hk4⟩ := fin (some (.goto t)) W3 hp.1
        exact ⟨_, _, hr, .inr ⟨rfl, .goto t, hIx _ _ _ hp.2 kb3, hl4, hk4⟩⟩
      | panic ch => exact hp.elim
      | outgrown => exact hp.elim
    · -- behind the iterator
      rintro e W2 ⟨⟨v, rfl⟩, (⟨hi, hl, hk⟩ | ⟨c, hi, hl, hk⟩)⟩
      · exact ⟨none, _, by have := run_endLoop (P := P) hl (by rw [hrec]; simp); rw [hrec] at this; exact this, hdone _ _ (Nat.le_refl _) (hI _ _ _ hi (KeptB.putObj _ (by omega) hl rfl)) ((World.putObj_heap_other (by omega)).trans hk)⟩
      · exact ⟨some c, _, by have := run_endLoop (P := P) hl (by rw [hrec]; simp); rw [hrec] at this; exact this, wpIn_wide.2 (hstop _ c _ (Nat.le_refl _) (hIx _ _ _ hi (KeptB.putObj _ (by omega) hl rfl)) ((World.putObj_heap_other (by omega)).trans hk))⟩

/-- A function whose body holds such a statement, entered in the plain walk. -/
theorem calls_of_wp_marks {P : Program} {f : FuncId} {fn : Func} {c : Code} {args : Array Value} {w : World} {R : Ending → World → Prop}
    (hf : P.funcs[f]? = some fn) (hb : fn.body = some c)
    (h : c.wp P (bodyPostM Fence.wide 0 P fn R) { tmps := args ++ Array.replicate (fn.ntmps - args.size) undef, defers := [] } w) : Calls P f args w R :=
  callsIn_wide.1 (callsIn_of_wp_marks (F := Fence.wide) (n := 0) hf hb trivial (wpIn_wide.2 h) rfl)

theorem KeptB.trans {B : Nat} {a b c : World} (h : KeptB B a b) (k : KeptB B b c) : KeptB B a c :=
  ⟨k.os.trans h.os, k.tape.trans h.tape, k.output.trans h.output, Nat.le_trans h.size k.size, fun i hi hi' => (k.low i hi (Nat.lt_of_lt_of_le hi' h.size)).trans (h.low i hi hi'), fun i cs t fr hi => k.cells i cs t fr (h.cells i cs t fr hi)⟩
theorem KeptB.refl (B : Nat) (a : World) : KeptB B a a := ⟨rfl, rfl, rfl, Nat.le_refl _, fun _ _ _ => rfl, fun _ _ _ _ h => h⟩

/-- The marks that the statements have left on the activation: blocks from B on, each with no deferred call. -/
def marks (Ds : List Nat) : List Deferred := Ds.map fun D => { target := .collected D, args := #[] }
def Marks (B : Nat) (W : World) (Ds : List Nat) : Prop := Ds.Nodup ∧ ∀ D ∈ Ds, B ≤ D ∧ W.heap[D]? = some (.deferred (some []))
theorem Marks.nil (B : Nat) (W : World) : Marks B W [] := ⟨List.nodup_nil, fun _ h => by simp at h⟩
theorem Marks.cons {B B' D : Nat} {W : World} {Ds : List Nat} (h : Marks B W Ds) (hlt : ∀ D' ∈ Ds, D' < B') (hD : B' ≤ D) (hB : B ≤ B') (hk : W.heap[D]? = some (.deferred (some []))) : Marks B W (D :: Ds) :=
  ⟨List.nodup_cons.2 ⟨fun hm => by have := hlt D hm; omega, h.1⟩, fun D' hm => by
    rcases List.mem_cons.1 hm with rfl | hm
    · exact ⟨by omega, hk⟩
    · exact h.2 D' hm⟩
theorem Marks.keeps {B : Nat} {W W' : World} {Ds : List Nat} (h : Marks B W Ds) (k : KeepsOthers W W') : Marks B W' Ds := ⟨h.1, fun D hD => ⟨(h.2 D hD).1, k.same D _ (h.2 D hD).2 rfl⟩⟩
theorem Marks.lt {B : Nat} {W : World} {Ds : List Nat} (h : Marks B W Ds) : ∀ D ∈ Ds, D < W.heap.size := fun D hD => (Array.getElem?_eq_some_iff.1 (h.2 D hD).2).1
theorem Marks.low {B B' : Nat} {W W' : World} {Ds : List Nat} (h : Marks B W Ds) (k : KeptB B' W W') (hlt : ∀ D ∈ Ds, D < B') : Marks B W' Ds :=
  ⟨h.1, fun D hD => ⟨(h.2 D hD).1, (k.low D (hlt D hD) (h.lt D hD)).trans (h.2 D hD).2⟩⟩

/-- The way out past the marks. -/
theorem leave_marks {P : Program} {fn : Func} {tmps : Array Value} {R : Ending → World → Prop} {B : Nat} : ∀ (Ds : List Nat) (W : World), Marks B W Ds →
    (∀ W', KeptB B W W' → ∃ v, (results fn tmps).run P W' = .ok v W' ∧ R (.returned v) W') → LeavesInM Fence.wide 0 P fn tmps R (marks Ds) .returning W
  | [], W, _, hR => hR W (KeptB.refl _ _)
  | D :: Ds, W, hm, hR => by
    obtain ⟨hB, hK⟩ := hm.2 D (List.mem_cons_self ..)
    have kb : KeptB B W (W.putObj D (.deferred none)) := KeptB.putObj _ hB hK rfl
    refine ⟨by simp, .inl ⟨D, _, rfl, run_takeDeferred hK, leave_marks Ds _ ⟨(List.nodup_cons.1 hm.1).2, fun D' hD' => ⟨(hm.2 D' (List.mem_cons_of_mem _ hD')).1, ?_⟩⟩ fun W' k => hR W' (kb.trans k)⟩⟩
    have hne : D' ≠ D := by rintro rfl; exact (List.nodup_cons.1 hm.1).1 hD'
    rw [World.putObj_heap_other hne]
    exact (hm.2 D' (List.mem_cons_of_mem _ hD')).2

end Go.Proofs.Ytinlpmgchcbjpaa
