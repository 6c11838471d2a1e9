/- From the form's own reading of an argument to the words of these walks: a slice of runes, a slice of slices, slices of structs. No program is named. -/
import Derived.Test.YtinlpmgchcbjpaaBase2
import Derived.Deep.Slices
import Derived.SizedLaws
namespace Go.Proofs.Ytinlpmgchcbjpaa
open Go Go.RowKit Go.ChangeShapes Go.WideShapes

def Old (w : World) : Nat → Prop := fun b => b < w.heap.size

theorem weights_mem_all {H : Type} {P : Program} {e : TypeId} : ∀ {l : List (DataW H)} {d : DataW H}, d ∈ l → ∀ z ∈ d.weights P e, z ∈ DataW.weightsAll P e l
  | a :: l, d, hd, z, hz => by
    simp only [DataW.weightsAll, List.mem_append]
    rcases List.mem_cons.1 hd with rfl | hd
    · exact .inl hz
    · exact .inr (weights_mem_all hd z hz)
  | [], _, hd, _, _ => by simp at hd

section
variable {H : Type} {enc : TypeId × Value → H} {P : Program} {w : World} {base : Nat} {held : Bool}

/-- ANY SLICE OF AN ARGUMENT: its cells, each element's own reading, and what the form's reach says of it. -/
theorem open_rd {t e : TypeId} {k fuel : Nat} {v : Value} {x : DataW H × List MemPlace} (ht : P.underlying t = some (.slice e)) (hc : P.cellsOf e = k) (hk : 0 < k)
    (h : DataW.trod enc P w base (fun _ => true) held fuel t [v] = some x) :
    ∃ A n c vs, v = .slice A n c ∧ Rd w (Old w) k A n c vs ∧ (0 < n → c * P.bytesOf e ∈ x.1.weights P t) ∧
      ∀ i, i < n → ∃ m y, DataW.trod enc P w base (fun _ => true) held m e ((vs.drop (i * k)).take k) = some y ∧ ∀ z ∈ y.1.weights P e, z ∈ x.1.weights P t := by
  rcases Go.Deep.open_slice ht h with ⟨hcs, hx⟩ | ⟨a, len, cap, m, fu, D, Pl, hcs, _, hl, hm, hmm, hx, hi⟩
  · obtain rfl : v = .slice none 0 0 := by simpa using hcs
    exact ⟨none, 0, 0, [], rfl, Rd.nil _ _ _ _ _ (Nat.zero_le _), fun h => absurd h (by omega), fun i hi => absurd hi (by omega)⟩
  · obtain rfl : v = .slice (some a) len cap := by simpa using hcs
    simp only [if_true] at hmm
    subst hmm
    rw [hc] at hi
    -- the cells, one by one
    have hcell : ∀ j, j < m * k → ∃ u, w.cell? (a.add j) = some u := by
      intro j hj
      obtain ⟨cs', h1, _⟩ := hi (j / k) (by rw [Nat.div_lt_iff_lt_mul hk]; exact hj)
      obtain ⟨_, h2, h3⟩ := World.cells?_some h1
      have h4 := h3 (j % k) (Nat.mod_lt _ hk)
      rw [Go.Deep.add_add, Nat.mul_comm, Nat.div_add_mod] at h4
      rw [List.getElem?_eq_getElem (by rw [h2]; exact Nat.mod_lt _ hk)] at h4
      exact ⟨_, h4⟩
    obtain ⟨V, hV⟩ := Go.Deep.choose_lt (α := Value) (p := fun j u => w.cell? (a.add j) = some u) hcell
    have hsub : ∀ i, i < m → ∃ y, DataW.trod enc P w base (fun _ => true) held fu e ((List.range k).map fun j => V (i * k + j)) = some y ∧ y = (D i, Pl i) := by
      intro i hi'
      obtain ⟨cs', h1, h2⟩ := hi i hi'
      obtain ⟨_, h3, h4⟩ := World.cells?_some h1
      refine ⟨_, ?_, rfl⟩
      rw [← h2]
      congr 1
      apply List.ext_getElem?
      intro j
      by_cases hj : j < k
      · rw [← h4 j hj, Go.Deep.add_add, hV (i * k + j) (by
          have : (i + 1) * k ≤ m * k := Nat.mul_le_mul_right _ (by omega)
          rw [Nat.add_mul] at this; omega)]
        simp [hj]
      · rw [List.getElem?_eq_none (by simp; omega), List.getElem?_eq_none (by omega)]
    refine ⟨some a, len, m, (List.range (len * k)).map V, rfl, ⟨by simp, hl, hm, fun hn => ?_⟩, fun hn => ?_, fun i hi' => ?_⟩
    · obtain ⟨b, off, spot⟩ := a
      have h0 := hV 0 (by
        have : 1 * k ≤ m * k := Nat.mul_le_mul_right _ (by omega)
        omega)
      have hspot : spot = none := by simpa [Addr.add] using World.cell?_spot h0
      subst hspot
      have hlt : b < w.heap.size := by
        have := World.block_lt_of_cell? w _ h0
        simpa [addr_add] using this
      refine ⟨b, off, rfl, hlt, hlt, fun j u hu => ?_⟩
      rw [List.getElem?_map] at hu
      by_cases hj : j < len * k
      · rw [List.getElem?_range hj] at hu
        simp at hu
        have h1 := hV j (by
          have : len * k ≤ m * k := Nat.mul_le_mul_right _ hl
          omega)
        rw [addr_add] at h1
        rw [h1, hu]
      · rw [List.getElem?_eq_none (by simp; omega)] at hu
        simp at hu
    · rw [hx]
      simp only [DataW.weights, ht]
      refine List.mem_cons.2 (.inl ?_)
      simp only [List.length_map, List.length_range]
      congr 1
      omega
    · obtain ⟨y, h1, h2⟩ := hsub i (by omega)
      refine ⟨fu, y, ?_, fun z hz => ?_⟩
      · rw [← h1]
        congr 1
        apply List.ext_getElem?
        intro j
        by_cases hj : j < k
        · have : i * k + j < len * k := by
            have : (i + 1) * k ≤ len * k := Nat.mul_le_mul_right _ (by omega)
            rw [Nat.add_mul] at this; omega
          simp [hj, this]
        · rw [List.getElem?_eq_none (by simp; omega), List.getElem?_eq_none (by simp; omega)]
      · rw [hx]
        simp only [DataW.weights, ht]
        refine List.mem_cons.2 (.inr (List.mem_append.2 (.inl ?_)))
        refine weights_mem_all (d := D i) (List.mem_map.2 ⟨i, by simpa using hi', rfl⟩) z ?_
        rw [h2] at hz
        exact hz

/-- The reach, as the walks ask for it. -/
def Reached (P : Program) (t : TypeId) (x : DataW H) : Prop := ∀ z ∈ x.weights P t, z ≤ reachBytes

/-- A SLICE OF RUNES. -/
theorem open_runes {t e : TypeId} {fuel : Nat} {v : Value} {x : DataW H × List MemPlace} (ht : P.underlying t = some (.slice e)) (he : P.underlying e = some (.int .i32)) (hc : P.cellsOf e = 1) (hb : P.bytesOf e = 4)
    (h : DataW.trod enc P w base (fun _ => true) held fuel t [v] = some x) (hz : Reached P t x.1) :
    ∃ A n c xs, v = .slice A n c ∧ RdI w (Old w) A n c xs ∧ n * 4 ≤ 140737488351232 := by
  obtain ⟨A, n, c, vs, rfl, hr, hw, hi⟩ := open_rd ht hc (by omega) h
  have hint : ∀ i, i < n → ∃ z : Int, vs[i]? = some (.int .i32 z) := by
    intro i hin
    obtain ⟨m, y, h1, _⟩ := hi i hin
    have hl : i < vs.length := by have := hr.1; omega
    have h2 : (vs.drop (i * 1)).take 1 = [vs[i]] := by
      rw [Nat.mul_one]
      apply List.ext_getElem?
      intro j
      match j with
      | 0 => simp [List.getElem?_eq_getElem hl]
      | j + 1 => rw [List.getElem?_eq_none (by simp; omega)]; simp
    rw [h2] at h1
    obtain ⟨z, hz1, _, _⟩ := DataW.trod_int he h1
    exact ⟨z, by rw [List.getElem?_eq_getElem hl]; congr 1; simpa using hz1⟩
  obtain ⟨Z, hZ⟩ := Go.Deep.choose_lt hint
  refine ⟨A, n, c, (List.range n).map Z, rfl, ?_, ?_⟩
  · have : vs = ((List.range n).map Z).map (Value.int .i32) := by
      apply List.ext_getElem?
      intro i
      by_cases hin : i < n
      · rw [hZ i hin]; simp [hin]
      · rw [List.getElem?_eq_none (by have := hr.1; omega), List.getElem?_eq_none (by simp; omega)]
    rw [this] at hr
    exact hr
  · rcases Nat.eq_zero_or_pos n with h0 | h0
    · omega
    · have h1 := hz _ (hw h0)
      have h2 := hr.2.1
      rw [hb] at h1
      unfold reachBytes at h1
      omega
theorem one_cell {vs : List Value} {i n : Nat} (h1 : vs.length = n * 1) (hin : i < n) : ∃ u, vs[i]? = some u ∧ (vs.drop (i * 1)).take 1 = [u] := by
  have hl : i < vs.length := by omega
  refine ⟨vs[i], List.getElem?_eq_getElem hl, ?_⟩
  rw [Nat.mul_one]
  apply List.ext_getElem?
  intro j
  match j with
  | 0 => simp [List.getElem?_eq_getElem hl]
  | j + 1 => rw [List.getElem?_eq_none (by simp; omega)]; simp

/-- A SLICE OF SLICES OF RUNES. -/
theorem open_lists {t2 t e : TypeId} {fuel : Nat} {v : Value} {x : DataW H × List MemPlace} (ht2 : P.underlying t2 = some (.slice t)) (ht : P.underlying t = some (.slice e)) (he : P.underlying e = some (.int .i32)) (hc2 : P.cellsOf t = 1) (hc : P.cellsOf e = 1) (hb2 : P.bytesOf t = 24) (hb : P.bytesOf e = 4)
    (h : DataW.trod enc P w base (fun _ => true) held fuel t2 [v] = some x) (hz : Reached P t2 x.1) :
    ∃ A n c ls, v = .slice A n c ∧ RdL w (Old w) A n c ls ∧ n * 24 ≤ 140737488351232 ∧ ∀ k : Nat, (ls[k]?.getD []).length * 4 ≤ 140737488351232 := by
  obtain ⟨A, n, c, vs, rfl, hr, hw, hi⟩ := open_rd ht2 hc2 (by omega) h
  have hrow : ∀ i, i < n → ∃ y : List Int, ∃ a m d, vs[i]? = some (.slice a m d) ∧ RdI w (Old w) a m d y ∧ m * 4 ≤ 140737488351232 := by
    intro i hin
    obtain ⟨mf, y, h1, h3⟩ := hi i hin
    obtain ⟨u, hu, h2⟩ := one_cell hr.1 hin
    rw [h2] at h1
    obtain ⟨a, m, d, xs, rfl, hx, hm⟩ := open_runes ht he hc hb h1 (fun z hz' => hz z (h3 z hz'))
    exact ⟨xs, a, m, d, hu, hx, hm⟩
  obtain ⟨Y, hY⟩ := Go.Deep.choose_lt hrow
  refine ⟨A, n, c, (List.range n).map Y, rfl, ⟨by simp, vs, hr, fun k hk => ?_⟩, ?_, fun k => ?_⟩
  · obtain ⟨a, m, d, h1, h2, _⟩ := hY k hk
    exact ⟨a, m, d, h1, by simpa [hk] using h2⟩
  · rcases Nat.eq_zero_or_pos n with h0 | h0
    · omega
    · have h1 := hz _ (hw h0)
      have h2 := hr.2.1
      rw [hb2] at h1
      unfold reachBytes at h1
      omega
  · by_cases hk : k < n
    · obtain ⟨a, m, d, h1, h2, h3⟩ := hY k hk
      simp only [List.getElem?_map, List.getElem?_range hk, Option.map_some, Option.getD_some]
      rw [h2.len]; exact h3
    · rw [List.getElem?_eq_none (by simp; omega)]; simp
theorem reached_of {ts : List TypeId} {ds : List (DataW H)} (h : (DataW.weightsEach P ts ds).all (· ≤ reachBytes) = true) {j : Nat} {t : TypeId} {d : DataW H} (ht : ts[j]? = some t) (hd : ds[j]? = some d) : Reached P t d := fun z hz => by
  have := List.all_eq_true.1 h _ (DataW.weights_mem_each ht hd z hz)
  simpa using this
end

end Go.Proofs.Ytinlpmgchcbjpaa
