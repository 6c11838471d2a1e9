/- The kill ring in memory, and what 'push' does to it. -/
import Derived.Test.YtinlpmgchcbjpaaT5
namespace Go.Proofs.Ytinlpmgchcbjpaa
open Go Go.RowKit
set_option maxHeartbeats 400000
set_option maxRecDepth 100000

/-- Block g is just the cells cs of element type t, none frozen. -/
def Blk (w : World) (g : Nat) (t : TypeId) (cs : Array Value) : Prop := w.heap[g]? = some (.cells cs t (0, 0))
section
variable {w w' : World} {g : Nat} {t : TypeId} {cs : Array Value}
theorem Blk.lt (h : Blk w g t cs) : g < w.heap.size := by
  rcases Nat.lt_or_ge g w.heap.size with hlt | hge
  · exact hlt
  · unfold Blk at h; rw [Array.getElem?_eq_none hge] at h; cases h
theorem Blk.cell (h : Blk w g t cs) (i : Nat) : w.cell? ⟨g, i, none⟩ = cs[i]? := cell_of_row w g i cs t (0, 0) h
theorem Blk.frozen (h : Blk w g t cs) (i : Nat) : w.frozen? ⟨g, i, none⟩ = false := by unfold Blk at h; simp [World.frozen?, h]
theorem Blk.new (w : World) (t : TypeId) (cs : Array Value) : Blk (w.alloc (.cells cs t)) w.heap.size t cs := heap_alloc_new w _
theorem Blk.drewN (h : Blk w g t cs) (n : Nat) : Blk (w.drewN n) g t cs := h
theorem Blk.drew (h : Blk w g t cs) : Blk w.drew g t cs := h
theorem Blk.alloc (h : Blk w g t cs) (o : Obj) : Blk (w.alloc o) g t cs := (Below.heap_alloc w o g h.lt).trans h
theorem Blk.set_ (h : Blk w g t cs) (i : Nat) (u : Value) : Blk (w.setCell ⟨g, i, none⟩ u) g t (cs.setIfInBounds i u) := by
  unfold Blk at h ⊢
  simp [World.setCell, Array.getElem?_modify, h]
theorem Blk.far (h : Blk w g t cs) {p : Addr} (hp : g ≠ p.block) (u : Value) : Blk (w.setCell p u) g t cs := (Below.heap_setCell w p u g hp).trans h
theorem Blk.only {T : Nat → Prop} (h : Blk w g t cs) (ho : Only T w w') (hg : ¬ T g) : Blk w' g t cs := (ho.block g h.lt hg).trans h
theorem Blk.pure_ (h : Blk w g t cs) (ho : Pure w w') : Blk w' g t cs := h.only ho fun x => x
end

/-- Sixty-four cells, each of one cell. -/
def Ones (cs : Array Value) : Prop := cs.size = 64 ∧ ∀ (i : Nat) (u : Value), cs[i]? = some u → u.oneCell' = true
theorem Ones.set {cs : Array Value} (h : Ones cs) (i : Nat) {u : Value} (hu : u.oneCell' = true) : Ones (cs.setIfInBounds i u) := by
  refine ⟨by simp [h.1], fun j v hv => ?_⟩
  rw [Array.getElem?_setIfInBounds] at hv
  split at hv
  · split at hv
    · injection hv with hv; rw [← hv]; exact hu
    · cases hv
  · exact h.2 j v hv

/-- The cells of a ring: whose newest entry lies in slot 'head'. -/
def RingCells (w : World) (S : Nat → Prop) (cs : Array Value) (head : Nat) (es : List (List Int)) (place : Nat) : Prop :=
  Ones cs ∧ cs[0]? = some (.bool true) ∧ cs[61]? = some (.int .i64 (head : Int)) ∧ cs[62]? = some (.int .i64 (es.length : Int)) ∧ cs[63]? = some (.int .i64 (place : Int)) ∧
  head < 60 ∧ es.length ≤ 60 ∧ (place < es.length ∨ place = 0) ∧ (∀ i, i < es.length → ∃ a m d, cs[1 + (head + i) % 60]? = some (.slice a m d) ∧ RdI w S a m d (es[i]?.getD []) ∧ m ≤ 1024)

/-- The ring of entries es lies in block g; the entries' runes lie in blocks of S. -/
def Ring (w : World) (S : Nat → Prop) (g : Nat) (es : List (List Int)) (place : Nat) : Prop :=
  ¬ S g ∧ ∃ cs head, Blk w g 38 cs ∧ RingCells w S cs head es place

section
variable {w w' : World} {S S' T : Nat → Prop} {g place head : Nat} {cs : Array Value} {es : List (List Int)}
theorem RingCells.frame (h : RingCells w S cs head es place) (hk : ∀ b, S b → b < w.heap.size → w'.heap[b]? = w.heap[b]?) (hs : w.heap.size ≤ w'.heap.size) : RingCells w' S cs head es place := by
  obtain ⟨h1, h2, h3, h4, h5, h6, h7, h8, h9⟩ := h
  refine ⟨h1, h2, h3, h4, h5, h6, h7, h8, fun i hi => ?_⟩
  obtain ⟨a, m, d, hc, hr, hm⟩ := h9 i hi
  exact ⟨a, m, d, hc, hr.frame hk hs, hm⟩
theorem RingCells.mono (h : RingCells w S cs head es place) (hS : ∀ b, b < w.heap.size → S b → S' b) : RingCells w S' cs head es place := by
  obtain ⟨h1, h2, h3, h4, h5, h6, h7, h8, h9⟩ := h
  refine ⟨h1, h2, h3, h4, h5, h6, h7, h8, fun i hi => ?_⟩
  obtain ⟨a, m, d, hc, hr, hm⟩ := h9 i hi
  exact ⟨a, m, d, hc, hr.mono hS, hm⟩
theorem Ring.only (h : Ring w S g es place) (ho : Only T w w') (hT : ∀ b, S b → b < w.heap.size → ¬ T b) (hg : ¬ T g) : Ring w' S g es place := by
  obtain ⟨hn, cs, head, hb, hr⟩ := h
  exact ⟨hn, cs, head, hb.only ho hg, hr.frame (fun b hS hb => ho.block b hb (hT b hS hb)) ho.size⟩
theorem Ring.pure_ (h : Ring w S g es place) (ho : Pure w w') : Ring w' S g es place := h.only ho (fun _ _ _ x => x) (fun x => x)
theorem Ring.mono (h : Ring w S g es place) (hS : ∀ b, b < w.heap.size → S b → S' b) (hg : ¬ S' g) : Ring w S' g es place := by
  obtain ⟨hn, cs, head, hb, hr⟩ := h
  exact ⟨hg, cs, head, hb, hr.mono hS⟩
theorem Ring.lt (h : Ring w S g es place) : g < w.heap.size := by obtain ⟨_, cs, head, hb, _⟩ := h; exact hb.lt
end

theorem Only.set {g : Nat} {a w : World} (h : Only (fun b => b = g) a w) (i : Nat) (u : Value) : Only (fun b => b = g) a (w.setCell ⟨g, i, none⟩ u) := h.setCell (p := ⟨g, i, none⟩) (fun _ => rfl) u

theorem Ring.c0 {w : World} {S : Nat → Prop} {g place : Nat} {es : List (List Int)} (h : Ring w S g es place) : w.cell? ⟨g, 0, none⟩ = some (.bool true) := by
  obtain ⟨_, cs, head, hB, k1, k2, _⟩ := h; exact (hB.cell 0).trans k2
theorem Ring.c62 {w : World} {S : Nat → Prop} {g place : Nat} {es : List (List Int)} (h : Ring w S g es place) : w.cell? ⟨g, 62, none⟩ = some (.int .i64 (es.length : Int)) := by
  obtain ⟨_, cs, head, hB, k1, k2, k3, k4, _⟩ := h; exact (hB.cell 62).trans k4
theorem Ring.c63 {w : World} {S : Nat → Prop} {g place : Nat} {es : List (List Int)} (h : Ring w S g es place) : w.cell? ⟨g, 63, none⟩ = some (.int .i64 (place : Int)) := by
  obtain ⟨_, cs, head, hB, k1, k2, k3, k4, k5, _⟩ := h; exact (hB.cell 63).trans k5
theorem Ring.fz {w : World} {S : Nat → Prop} {g place : Nat} {es : List (List Int)} (h : Ring w S g es place) (i : Nat) : w.frozen? ⟨g, i, none⟩ = false := by
  obtain ⟨_, cs, head, hB, _⟩ := h; exact hB.frozen i
theorem Ring.le60 {w : World} {S : Nat → Prop} {g place : Nat} {es : List (List Int)} (h : Ring w S g es place) : es.length ≤ 60 := by
  obtain ⟨_, cs, head, hB, k1, k2, k3, k4, k5, k6, k7, _⟩ := h; exact k7
theorem Ring.pl {w : World} {S : Nat → Prop} {g place : Nat} {es : List (List Int)} (h : Ring w S g es place) : place < es.length ∨ place = 0 := by
  obtain ⟨_, cs, head, hB, k1, k2, k3, k4, k5, k6, k7, k8, _⟩ := h; exact k8
theorem Ring.setPlace {w : World} {S : Nat → Prop} {g place : Nat} {es : List (List Int)} (h : Ring w S g es place) (p : Nat) (hp : p < es.length ∨ p = 0) : Ring (w.setCell ⟨g, 63, none⟩ (.int .i64 (p : Int))) S g es p := by
  obtain ⟨hn, cs, head, hB, hC⟩ := h
  have hf := hC.frame (w' := w.setCell ⟨g, 63, none⟩ (.int .i64 (p : Int))) (fun b hS hb => ((Only.refl (fun b => b = g) w).setCell (p := ⟨g, 63, none⟩) (fun _ => rfl) _).block b hb (fun e => hn (e ▸ hS))) (by simp [World.setCell])
  obtain ⟨k1, k2, k3, k4, k5, k6, k7, k8, k9⟩ := hf
  refine ⟨hn, _, head, hB.set_ 63 _, k1.set _ rfl, ?_, ?_, ?_, ?_, k6, k7, hp, fun i hi => ?_⟩
  · simp only [Array.getElem?_setIfInBounds]; simp [k2]
  · simp only [Array.getElem?_setIfInBounds]; simp [k3]
  · simp only [Array.getElem?_setIfInBounds]; simp [k4]
  · simp only [Array.getElem?_setIfInBounds]; simp [k1.1]
  · obtain ⟨a, m, d, hc, hr, hm⟩ := k9 i hi
    exact ⟨a, m, d, by rw [Array.getElem?_setIfInBounds, if_neg (by omega)]; exact hc, hr, hm⟩

def Plus (S : Nat → Prop) (n : Nat) : Nat → Prop := fun b => S b ∨ n ≤ b

def pushE (l : List Int) (es : List (List Int)) : List (List Int) := (l :: es).take 60

/-- A new entry ahead of the others. -/
theorem RingCells.push {w : World} {S : Nat → Prop} {cs : Array Value} {head : Nat} {es : List (List Int)} {place : Nat} (h : RingCells w S cs head es place) {a : Option Addr} {m d : Nat} {l : List Int} (hl : RdI w S a m d l) (hm : m ≤ 1024) :
    RingCells w S ((((cs.setIfInBounds 61 (.int .i64 (((head + 59) % 60 : Nat) : Int))).setIfInBounds (1 + (head + 59) % 60) (.slice a m d)).setIfInBounds 62 (.int .i64 ((min (es.length + 1) 60 : Nat) : Int))).setIfInBounds 63 (.int .i64 ((0 : Nat) : Int))) ((head + 59) % 60) (pushE l es) 0 := by
  unfold pushE
  obtain ⟨h0s, h2, h3, h4, h5, h6, h7, h8, h9⟩ := h
  have h1 := h0s.1
  have hsz : ∀ (cs : Array Value) i v, (cs.setIfInBounds i v).size = cs.size := by simp
  have hlen : ((l :: es).take 60).length = min (es.length + 1) 60 := by simp [List.length_take]; omega
  refine ⟨(((h0s.set _ rfl).set _ rfl).set _ rfl).set _ rfl, ?_, ?_, ?_, ?_, by omega, by omega, .inr rfl, fun i hi => ?_⟩
  · simp only [Array.getElem?_setIfInBounds, hsz, h1]; simp [h2]
  · simp only [Array.getElem?_setIfInBounds, hsz, h1]; simp; omega
  · simp only [Array.getElem?_setIfInBounds, hsz, h1]; rw [if_neg (by decide), if_pos trivial, if_pos (by decide), hlen]
  · simp only [Array.getElem?_setIfInBounds, hsz, h1]; simp
  · rw [hlen] at hi
    have hlt : (((head + 59) % 60 + i) % 60) < 60 := by omega
    rcases Nat.eq_zero_or_pos i with h0 | h0
    · subst h0
      refine ⟨a, m, d, ?_, by simpa using hl, hm⟩
      simp only [Array.getElem?_setIfInBounds, hsz, h1]
      rw [if_neg (by omega), if_neg (by omega), if_pos (by omega), if_pos (by omega)]
    · obtain ⟨a', m', d', hc, hr, hm'⟩ := h9 (i - 1) (by omega)
      refine ⟨a', m', d', ?_, ?_, hm'⟩
      · simp only [Array.getElem?_setIfInBounds, hsz, h1]
        rw [if_neg (by omega), if_neg (by omega), if_neg (by omega), if_neg (by omega), ← hc]
        congr 2
        omega
      · have : ((l :: es).take 60)[i]? = es[i - 1]? := by
          rw [List.getElem?_take, if_pos (by omega)]
          obtain ⟨j, rfl⟩ : ∃ j, i = j + 1 := ⟨i - 1, by omega⟩
          simp
        rw [this]; exact hr


def Did (w : World) (S : Nat → Prop) (g : Nat) (es : List (List Int)) (place : Nat) (v : Value) (e : Ending) (w' : World) : Prop :=
  e = .returned v ∧ Ring w' (Plus S w.heap.size) g es place ∧ Only (fun b => b = g) w w'

theorem cell_other {w : World} {g i j : Nat} {u v : Value} (hn : ¬ i = j) (h : w.cell? ⟨g, j, none⟩ = some u) : (w.setCell ⟨g, i, none⟩ v).cell? ⟨g, j, none⟩ = some u := by
  rw [World.cell?_setCell_other]
  · exact h
  · intro e; injection e with _ e; exact hn e

theorem Ring.pushed {w W : World} {S : Nat → Prop} {cs : Array Value} {head g hd : Nat} {es : List (List Int)} {place : Nat} {a : Option Addr} {m d : Nat} {l : List Int} {x : Int} (h : RingCells w S cs head es place) (hSg : ¬ S g) (hg : g < w.heap.size)
    (ho : Only (fun b => b = g) w W) (hl : RdI W (Plus S w.heap.size) a m d l) (hm : m ≤ 1024) (hd' : hd = (head + 59) % 60) (hx : x = ((min (es.length + 1) 60 : Nat) : Int))
    (hB : Blk W g 38 ((((cs.setIfInBounds 61 (.int .i64 (hd : Int))).setIfInBounds (1 + hd) (.slice a m d)).setIfInBounds 62 (.int .i64 x)).setIfInBounds 63 (.int .i64 0))) :
    Ring W (Plus S w.heap.size) g (pushE l es) 0 := by
  subst hd' hx
  refine ⟨?_, _, _, hB, RingCells.push ((h.frame (fun b hS hb => ho.block b hb (fun e => hSg (e ▸ hS))) ho.size).mono fun b _ hS => .inl hS) hl hm⟩
  rintro (h1 | h1)
  · exact hSg h1
  · omega

theorem push_any (g : Nat) (S S' : Nat → Prop) (es : List (List Int)) (place : Nat) (A : Option Addr) (n c : Nat) (l : List Int) (w : World) (hR : Ring w S g es place) (hr : RdI w S' A n c l) (hS' : ¬ S' g) (hm : n ≤ 1024) :
    Calls Try.prog 68 #[.pointer (some ⟨g, 0, none⟩), .slice A n c] w (Did w S g (pushE l es) 0 (.tuple #[])) := by
  obtain ⟨hSg, cs, head, hB, hC⟩ := hR
  have hC0 := hC
  obtain ⟨k1, k2, k3, k4, k5, k6, k7, k8, k9⟩ := hC
  have c61 := (hB.cell 61).trans k3
  have c62 := (hB.cell 62).trans k4
  have c63 := (hB.cell 63).trans k5
  obtain ⟨hd, hhd⟩ : ∃ hd, hd = (head + 59) % 60 := ⟨_, rfl⟩
  have hd60 : hd < 60 := by omega
  obtain ⟨v0, hv0⟩ : ∃ v0, cs[1 + hd]? = some v0 := ⟨_, Array.getElem?_eq_getElem (by have := k1.1; omega)⟩
  have cv := (hB.cell (1 + hd)).trans hv0
  have f61 := hB.frozen 61
  have f62 := hB.frozen 62
  have f63 := hB.frozen 63
  have fv := hB.frozen (1 + hd)
  have hlt := hB.lt
  have e61 : ((head : Int) + 60 - 1) % 60 = (hd : Int) := by omega
  have HH := hid hhd
  have hdI0 : (0 : Int) ≤ (hd : Int) := by omega
  have hdI : (hd : Int) < 60 := by omega
  have hn60 : ¬ 1 + hd = 61 := by omega
  have hn62 : ¬ 1 + hd = 62 := by omega
  have hn63 : ¬ 1 + hd = 63 := by omega
  have HE := hid e61
  have hcs : 61 < cs.size := by have := k1.1; omega
  clear k1 k2 k3 k4 k5 k8 k9 hv0 hhd e61
  go_enter Try.func68, Try.ntmps68
  go_wp2_with fail
  rw [HE.out]
  obtain ⟨w1, hw1⟩ : ∃ w1, w1 = w.setCell ⟨g, 61, none⟩ (.int .i64 (hd : Int)) := ⟨_, rfl⟩
  rw [← hw1]
  have hb1 : Blk w1 g 38 (cs.setIfInBounds 61 (.int .i64 (hd : Int))) := by rw [hw1]; exact hB.set_ _ _
  have d61 : w1.cell? ⟨g, 61, none⟩ = some (.int .i64 (hd : Int)) := by rw [hb1.cell]; simp [hcs]
  have dv : w1.cell? ⟨g, 1 + hd, none⟩ = some v0 := by rw [hw1, World.cell?_setCell_other _ _ _ _ (by simp <;> omega)]; exact cv
  have d62 : w1.cell? ⟨g, 62, none⟩ = some (.int .i64 (es.length : Int)) := by rw [hw1]; exact cell_other (by decide) c62
  have d63 : w1.cell? ⟨g, 63, none⟩ = some (.int .i64 (place : Int)) := by rw [hw1]; exact cell_other (by decide) c63
  have gv : w1.frozen? ⟨g, 1 + hd, none⟩ = false := hb1.frozen _
  have hr1 : RdI w1 S' A n c l := by rw [hw1]; exact hr.only ((Only.refl (fun b => b = g) w).setCell (fun _ => rfl) _) (fun b hb _ e => hS' (e ▸ hb))
  have hlt1 : g < w1.heap.size := hb1.lt
  have hs1 : w1.heap.size = w.heap.size := by rw [hw1]; simp [World.setCell]
  have HS1 := hid hs1
  have hsm : small n := by unfold small; omega
  have HW := hid hw1
  clear hw1 hs1 c61 c62 c63 cv f61 f62 f63 fv hr hB
  go_region_held3 (fun W => W.cell? ⟨g, 61, none⟩ = some (.int .i64 (hd : Int)))
    (first | go_keep | exact (hp2.cell hlt1 (fun x => x)).trans d61 | exact cell_other hn60 ((hp2.cell hlt1 (fun x => x)).trans d61))
    (first | (go_at_call 70; refine (clone_any A n c l S' w1.drew hr1 hsm).mono ?_; rintro e w2 ⟨A1, n1, c1, rfl, hR2, hp2⟩; have ev := (hp2.cell (p := ⟨g, 1 + hd, none⟩) hlt1 (fun x => x)).trans dv; have fv2 := (hp2.frozen (p := ⟨g, 1 + hd, none⟩) hlt1 (fun x => x)).trans gv))
  have e62 := (hp2.cell (p := ⟨g, 62, none⟩) hlt1 (fun x => x)).trans d62
  have e63 := (hp2.cell (p := ⟨g, 63, none⟩) hlt1 (fun x => x)).trans d63
  have hb2 : Blk w2 g 38 (cs.setIfInBounds 61 (.int .i64 (hd : Int))) := (hb1.drew).pure_ hp2
  have hb3 := hb2.set_ (1 + hd) (.slice A1 n1 c1)
  have e62' := cell_other (v := .slice A1 n1 c1) hn62 e62
  have e63' := cell_other (v := .slice A1 n1 c1) hn63 e63
  have f62 := hb3.frozen 62
  have f63 := hb3.frozen 63
  obtain ⟨w3, hw3⟩ : ∃ w3, w3 = w2.setCell ⟨g, 1 + hd, none⟩ (.slice A1 n1 c1) := ⟨_, rfl⟩
  rw [← hw3] at e62' e63' f62 f63 hb3 ⊢
  have HW3 := hid hw3
  clear hw3 e62 e63 hb2 d61 d62 d63 dv gv fv2 ev
  have hl60 : (es.length : Int) ≤ 60 := by omega
  have ho1 : Only (fun b => b = g) w w1 := by rw [HW.out]; exact (Only.refl _ w).set 61 _
  have ho3 : Only (fun b => b = g) w w3 := by rw [HW3.out]; exact ((ho1.drew).trans (Only.of_pure hp2)).set _ _
  have hR3 : RdI w3 (Plus S w.heap.size) A1 n1 c1 l := by
    rw [HW3.out]
    refine RdI.mono (hR2.only ((Only.refl (fun b => b = g) w2).set _ _) fun b hb _ e => ?_) fun b _ hb => .inr (by have := HS1.out; simp at hb; omega)
    simp at hb; omega
  have hR4 : ∀ u u' : Value, RdI ((w3.setCell ⟨g, 62, none⟩ u).setCell ⟨g, 63, none⟩ u') (Plus S w.heap.size) A1 n1 c1 l := fun u u' =>
    hR3.only (((Only.refl (fun b => b = g) w3).set _ _).set _ _) fun b hb _ e => by subst e; rcases hb with h | h; exact hSg h; omega
  have ho4 : ∀ u u' : Value, Only (fun b => b = g) w ((w3.setCell ⟨g, 62, none⟩ u).setCell ⟨g, 63, none⟩ u') := fun u u' => ((ho3.set _ _).set _ _)
  have hn1 : n1 ≤ 1024 := by have := hR3.len; have := hr1.len; omega
  go_wp2
  all_goals go_end0
  · exact ⟨rfl, Ring.pushed hC0 hSg hlt (ho4 _ _) (hR4 _ _) hn1 HH.out (by omega) ((hb3.set_ 62 _).set_ 63 _), ho4 _ _⟩
  · exact ⟨rfl, Ring.pushed hC0 hSg hlt (ho4 _ _) (hR4 _ _) hn1 HH.out (by omega) ((hb3.set_ 62 _).set_ 63 _), ho4 _ _⟩

end Go.Proofs.Ytinlpmgchcbjpaa
