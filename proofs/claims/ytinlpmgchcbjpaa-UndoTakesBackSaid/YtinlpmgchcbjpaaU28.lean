/- What each Undo and Revert give back: the plain law of P8.5, and what stands while the law UndoTakesBack goes on. No walk. -/
import Derived.Test.YtinlpmgchcbjpaaU27
import Derived.Test.YtinlpmgchcbjpaaU26
namespace Go.Proofs.Ytinlpmgchcbjpaa
open Go Go.RowKit
set_option maxRecDepth 100000

theorem doneL_append (a : List Int) (x y : List Ed) : doneL a (x ++ y) = (doneL a x).bind fun b => doneL b y := by
  induction x generalizing a with
  | nil => rfl
  | cons e es ih =>
    show (if appCode a e = 0 then doneL (appRun a e) (es ++ y) else none) = (if appCode a e = 0 then doneL (appRun a e) es else none).bind fun b => doneL b y
    split
    · exact ih _
    · rfl

theorem doneL_len {a b : List Int} {x : List Ed} (ha : a.length ≤ 1024) (h : doneL a x = some b) : b.length ≤ 1024 := by
  induction x generalizing a with
  | nil => unfold doneL at h; injection h with h; rw [← h]; exact ha
  | cons e es ih =>
    unfold doneL at h
    split at h
    · rename_i hc; exact ih (appCode_zero.1 hc).2 h
    · cases h

theorem invs_cons (e : Ed) (es : List Ed) : invs (e :: es) = invs es ++ [e.inv] := by unfold invs; simp

theorem doneL_inv {a b : List Int} {x : List Ed} (ha : a.length ≤ 1024) (h : doneL a x = some b) : doneL b (invs x) = some a := by
  induction x generalizing a with
  | nil => unfold doneL at h; injection h with h; subst h; rfl
  | cons e es ih =>
    unfold doneL at h
    split at h
    · rename_i hc
      obtain ⟨hok, hl⟩ := appCode_zero.1 hc
      obtain ⟨h1, h2⟩ := app_inv hok
      rw [invs_cons, doneL_append, ih hl h]
      show doneL (appRun a e) [e.inv] = some a
      unfold doneL
      rw [if_pos (appCode_zero.2 ⟨h1, by rw [h2]; exact ha⟩), h2]
      rfl
    · cases h

/-- The groups G lead from the line through the lines W (each ahead of its group) to the line b. -/
inductive Hist (line : List Int) : List (List Ed) → List (List Int) → List Int → Prop
  | nil : Hist line [] [] line
  | snoc {G : List (List Ed)} {W : List (List Int)} {a b : List Int} {x : List Ed} : Hist line G W a → doneL a x = some b → Hist line (G ++ [x]) (W ++ [a]) b

theorem Hist.len {line b : List Int} {G : List (List Ed)} {W : List (List Int)} (h : Hist line G W b) : G.length = W.length := by
  induction h with
  | nil => rfl
  | snoc _ _ ih => simp [ih]
theorem Hist.short {line b : List Int} {G : List (List Ed)} {W : List (List Int)} (h : Hist line G W b) (hl : line.length ≤ 1024) : b.length ≤ 1024 := by
  induction h with
  | nil => exact hl
  | snoc _ hd ih => exact doneL_len ih hd
theorem Hist.all {line b : List Int} {G : List (List Ed)} {W : List (List Int)} (h : Hist line G W b) : doneL line G.flatten = some b := by
  induction h with
  | nil => rfl
  | snoc _ hd ih => rw [List.flatten_append, doneL_append, ih]; simpa using hd
theorem Hist.last {line b : List Int} {G : List (List Ed)} {W : List (List Int)} {x : List Ed} (h : Hist line (G ++ [x]) W b) : ∃ W' a, W = W' ++ [a] ∧ Hist line G W' a ∧ doneL a x = some b := by
  generalize hG : G ++ [x] = G' at h
  cases h with
  | nil => simp at hG
  | snoc h1 h2 =>
    obtain ⟨rfl, hx⟩ := List.append_inj' hG rfl
    obtain rfl : x = _ := by simpa using hx
    exact ⟨_, _, rfl, h1, h2⟩
theorem Hist.more {line b : List Int} {G : List (List Ed)} {W : List (List Int)} {x : List Ed} {e : Ed} (h : Hist line (G ++ [x]) W b) (hc : appCode b e = 0) : Hist line (G ++ [x ++ [e]]) W (appRun b e) := by
  obtain ⟨W', a, rfl, h1, h2⟩ := h.last
  refine .snoc h1 ?_
  rw [doneL_append, h2]
  show doneL b [e] = some (appRun b e)
  unfold doneL
  rw [if_pos hc]; rfl
theorem Hist.next {line b : List Int} {G : List (List Ed)} {W : List (List Int)} {e : Ed} (h : Hist line G W b) (hc : appCode b e = 0) : Hist line (G ++ [[e]]) (W ++ [b]) (appRun b e) := by
  refine .snoc h ?_
  unfold doneL
  rw [if_pos hc]; rfl

/-- What an Add does to the groups, closed. -/
theorem close_add (gs : List (List Ed)) (now : List Ed) (opn : Bool) (e : Ed) (ho : opn = false → now = []) :
    (now = [] ∧ closeG (addG gs (if opn then 1 else 0) e) (addN now (if opn then 1 else 0) e) = closeG gs now ++ [[e]]) ∨
    (now ≠ [] ∧ opn = true ∧ closeG gs now = gs ++ [now] ∧ closeG (addG gs (if opn then 1 else 0) e) (addN now (if opn then 1 else 0) e) = gs ++ [now ++ [e]]) := by
  cases opn with
  | false => left; rw [ho rfl]; exact ⟨rfl, by simp [closeG, addG, addN]⟩
  | true =>
    by_cases hn : now = []
    · left; rw [hn]; exact ⟨rfl, by simp [closeG, addG, addN]⟩
    · right; exact ⟨hn, rfl, by simp [closeG, hn], by simp [closeG, addG, addN]⟩
theorem close_len (gs : List (List Ed)) (now : List Ed) : (closeG gs now).length = gs.length + min 1 now.length := by
  unfold closeG
  split
  · rename_i h; rw [h]; simp
  · rename_i h; have := List.length_pos_iff.2 h; simp; omega

/-- A line in a row of lines. -/
def lineKind : Kind (List Int) where
  rd w S cs x := ∃ a m d, cs = [.slice a m d] ∧ RdI w S a m d x
  frame := by rintro w w' S cs x ⟨a, m, d, e, h1⟩ hk hs; exact ⟨a, m, d, e, h1.frame hk hs⟩
  mono := by rintro w S S' cs x ⟨a, m, d, e, h1⟩ hS; exact ⟨a, m, d, e, h1.mono hS⟩

theorem OwnK.line_at {base : Nat} {w : World} {A : Option Addr} {n c : Nat} {ls : List (List Int)} {M : Nat → Prop} (h : OwnK lineKind 22 1 [] base w A n c ls M) {k : Nat} (hk : k < n) : ∃ b a m d, A = some ⟨b, 0, none⟩ ∧ w.cell? ⟨b, k, none⟩ = some (.slice a m d) ∧ RdI w M a m d (ls[k]?.getD []) := by
  obtain ⟨h1, vs, h2, h3, _⟩ := h
  obtain ⟨a, m, d, e, hr⟩ := h3 k hk
  rcases h2.2 with ⟨hv, hn⟩ | ⟨g, cap, cur, hv, _⟩
  · omega
  · injection hv with hA hn hc
    subst hA
    have := h2.cells (g := g) rfl (k * 1 + 0) _ (row_get (j := 0) e rfl)
    rw [addr_add] at this
    exact ⟨g, a, m, d, rfl, by simpa using this, hr⟩

/-- What stands in memory while the law goes on: the list, the line as it is, the lines that were. -/
def TMs (w : World) (g : Nat) (gs : List (List Ed)) (nw : List Ed) (op : Int) (An : Option Addr) (nn cn : Nat) (now : List Int) (Aw : Option Addr) (mw cw : Nat) (was : List (List Int)) (S M : Nat → Prop) (X : World) : Prop :=
  UL X S g gs nw op ∧ RdI X M An nn cn now ∧ OwnK lineKind 22 1 [] w.heap.size X Aw mw cw was M ∧
    (∀ b, S b → w.heap.size ≤ b ∧ b < X.heap.size ∧ ¬ M b ∧ (Value.slice Aw mw cw).ownBlock ≠ some b) ∧ ¬ M g ∧ (Value.slice Aw mw cw).ownBlock ≠ some g ∧ w.heap.size ≤ g ∧ Pure w X
def TM (w : World) (g : Nat) (gs : List (List Ed)) (nw : List Ed) (op : Int) (An : Option Addr) (nn cn : Nat) (now : List Int) (Aw : Option Addr) (mw cw : Nat) (was : List (List Int)) (X : World) : Prop :=
  ∃ S M, TMs w g gs nw op An nn cn now Aw mw cw was S M X

section
variable {w X Y : World} {g : Nat} {gs : List (List Ed)} {nw : List Ed} {op : Int} {An : Option Addr} {nn cn : Nat} {now : List Int} {Aw : Option Addr} {mw cw : Nat} {was : List (List Int)} {S M : Nat → Prop}

theorem TMs.pure_ (h : TMs w g gs nw op An nn cn now Aw mw cw was S M X) (hp : Pure X Y) : TMs w g gs nw op An nn cn now Aw mw cw was S M Y := by
  obtain ⟨h1, h2, h3, h4, h5, h6, h7, h8⟩ := h
  have hs := hp.size
  exact ⟨h1.pure_ hp, h2.pure_ hp, h3.pure_ hp, fun b hb => ⟨(h4 b hb).1, Nat.lt_of_lt_of_le (h4 b hb).2.1 hs, (h4 b hb).2.2⟩, h5, h6, h7, h8.trans hp⟩
theorem TM.pure_ (h : TM w g gs nw op An nn cn now Aw mw cw was X) (hp : Pure X Y) : TM w g gs nw op An nn cn now Aw mw cw was Y := by
  obtain ⟨S, M, h⟩ := h
  exact ⟨S, M, h.pure_ hp⟩
/-- What is written lies behind all that is there. -/
theorem TMs.far {T : Nat → Prop} (h : TMs w g gs nw op An nn cn now Aw mw cw was S M X) (ho : Only T X Y) (hT : ∀ b, b < X.heap.size → ¬ T b) : TMs w g gs nw op An nn cn now Aw mw cw was S M Y :=
  h.pure_ (ho.mono fun k hk ht => hT k hk ht)
/-- A call of the list. -/
theorem TMs.turn {gs' : List (List Ed)} {nw' : List Ed} {op' : Int} (h : TMs w g gs nw op An nn cn now Aw mw cw was S M X)
    (hU : UL Y (Plus S X.heap.size) g gs' nw' op') (ho : Only (fun b => S b ∨ b = g) X Y) : TMs w g gs' nw' op' An nn cn now Aw mw cw was (fun b => Plus S X.heap.size b ∧ b < Y.heap.size) M Y := by
  obtain ⟨_, hR, hW, hd, hMg, hWg, hg, hp⟩ := h
  have h1 := hW.2.choose_spec.2.2.2
  have h2 := hW.lt
  have h3 := hp.size
  refine ⟨hU.tight, hR.only ho fun b hb _ e => ?_, hW.only ho (fun b hb e => ?_) (fun b hb e => ?_), fun b hb => ?_, hMg, hWg, hg, hp.then_ ho fun i hi e => ?_⟩
  · rcases e with e | e
    · exact (hd b e).2.2.1 hb
    · exact hMg (e ▸ hb)
  · rcases e with e | e
    · exact (hd b e).2.2.1 hb
    · exact hMg (e ▸ hb)
  · rcases e with e | e
    · exact (hd b e).2.2.2 hb
    · exact hWg (e ▸ hb)
  · rcases hb.1 with hb1 | hb1
    · exact ⟨(hd b hb1).1, hb.2, (hd b hb1).2.2⟩
    · exact ⟨by omega, hb.2, fun h => by have := h1 b h; omega, fun h => by have := h2 b h; omega⟩
  · rcases e with e | e
    · have := (hd i e).1; omega
    · omega
/-- The line goes on in other memory. -/
theorem TMs.line {M' : Nat → Prop} {An' : Option Addr} {nn' cn' : Nat} {now' : List Int} (h : TMs w g gs nw op An nn cn now Aw mw cw was S M X) (hR : RdI X M' An' nn' cn' now') (hM : ∀ b, M b → M' b) (hM' : ∀ b, M' b → b < X.heap.size)
    (hS : ∀ b, S b → ¬ M' b) (hg : ¬ M' g) (hA : ∀ b, M' b → (Value.slice Aw mw cw).ownBlock ≠ some b) : TMs w g gs nw op An' nn' cn' now' Aw mw cw was S M' X := by
  obtain ⟨h1, h2, ⟨k1, vs, k2, k3, k4, k5⟩, h4, h5, h6, h7, h8⟩ := h
  exact ⟨h1, hR, ⟨k1, vs, k2, fun j hj => lineKind.mono (k3 j hj) fun b _ hb => hM b hb, hA, hM'⟩, fun b hb => ⟨(h4 b hb).1, (h4 b hb).2.1, hS b hb, (h4 b hb).2.2.2⟩, hg, h6, h7, h8⟩
end

end Go.Proofs.Ytinlpmgchcbjpaa
