/- The plain law of edits: an edit and its inverse leave a line as it was; two edits joined do what both do. No walk. -/
import Derived.Test.YtinlpmgchcbjpaaU18
import Derived.Test.YtinlpmgchcbjpaaU5
import Derived.Test.YtinlpmgchcbjpaaU4
namespace Go.Proofs.Ytinlpmgchcbjpaa
open Go Go.RowKit

theorem appOk_iff {line : List Int} {a : Ed} : appOk line a ↔ ∃ p s, line = p ++ (a.del ++ s) ∧ a.at_ = (p.length : Nat) := by
  constructor
  · rintro ⟨h1, h2, h3⟩
    refine ⟨line.take a.at_.toNat, line.drop (a.at_.toNat + a.del.length), ?_, ?_⟩
    · rw [← List.drop_drop]
      conv => lhs; rw [← List.take_append_drop a.at_.toNat line]
      congr 1
      conv => lhs; rw [← List.take_append_drop a.del.length (line.drop a.at_.toNat)]
      rw [h3]
    · rw [List.length_take]; omega
  · rintro ⟨p, s, rfl, h2⟩
    refine ⟨by omega, by rw [h2]; simp; omega, ?_⟩
    rw [h2]; simp

theorem appRun_eq {p s : List Int} {a : Ed} (h : a.at_ = (p.length : Nat)) : appRun (p ++ (a.del ++ s)) a = p ++ (a.ins ++ s) := by
  unfold appRun
  rw [h]
  simp only [Int.toNat_natCast, List.take_left']
  rw [← List.append_assoc p a.del s, List.drop_left' (by simp)]
  simp

theorem appRun_len {line : List Int} {a : Ed} (h : appOk line a) : ((appRun line a).length : Int) = (line.length : Int) - a.del.length + a.ins.length := by
  obtain ⟨p, s, rfl, h2⟩ := appOk_iff.1 h
  rw [appRun_eq h2]
  simp; omega

theorem appCode_zero {line : List Int} {a : Ed} : appCode line a = 0 ↔ appOk line a ∧ (appRun line a).length ≤ 1024 := by
  unfold appCode
  constructor
  · intro h
    split at h
    · omega
    · rename_i h1
      have h1 : appOk line a := Decidable.not_not.1 h1
      have := appRun_len h1
      split at h
      · omega
      · exact ⟨h1, by omega⟩
  · rintro ⟨h1, h2⟩
    have := appRun_len h1
    rw [if_neg (fun x => x h1), if_neg (by omega)]

theorem appCode_ok {line : List Int} {a : Ed} (h : appOk line a) : appCode line a = 0 ∨ appCode line a = 3 := by
  unfold appCode
  rw [if_neg (fun x => x h)]
  split
  · exact .inr rfl
  · exact .inl rfl

theorem app_inv {line : List Int} {a : Ed} (h : appOk line a) : appOk (appRun line a) a.inv ∧ appRun (appRun line a) a.inv = line := by
  obtain ⟨p, s, rfl, h2⟩ := appOk_iff.1 h
  rw [appRun_eq h2]
  have h3 : a.inv.at_ = (p.length : Nat) := h2
  exact ⟨appOk_iff.2 ⟨p, s, rfl, h3⟩, appRun_eq (a := a.inv) h3⟩

theorem app_join {line : List Int} {a b : Ed} (ha : appOk line a) (hb : appOk (appRun line a) b) (hj : joinIs a b = true) :
    appOk line (joinE a b) ∧ appRun line (joinE a b) = appRun (appRun line a) b := by
  obtain ⟨p, s, rfl, h2⟩ := appOk_iff.1 ha
  rw [appRun_eq h2] at hb ⊢
  obtain ⟨p', s', h3, h4⟩ := appOk_iff.1 hb
  rw [h3, appRun_eq h4]
  unfold joinE
  by_cases hA : joinA a b
  · rw [if_pos hA]
    obtain ⟨e1, e2⟩ := hA
    rw [e1, List.nil_append, ← List.append_assoc] at h3
    have hl : (p ++ a.ins).length = p'.length := by simp; omega
    obtain ⟨rfl, rfl⟩ := List.append_inj h3 hl
    exact ⟨appOk_iff.2 ⟨p, s, rfl, h2⟩, by rw [appRun_eq (a := ⟨a.at_, a.del, a.ins ++ b.ins⟩) h2]; simp⟩
  · rw [if_neg hA]
    have hB : joinB a b := by unfold joinIs at hj; simpa [hA] using hj
    rw [if_pos hB]
    obtain ⟨e1, e2, e3⟩ := hB
    rw [e1, List.nil_append, ← List.append_assoc] at h3
    have hl : p.length = (p' ++ b.del).length := by simp; omega
    obtain ⟨rfl, rfl⟩ := List.append_inj h3 hl
    have h5 : p' ++ b.del ++ (a.del ++ s) = p' ++ ((b.del ++ a.del) ++ s) := by simp
    rw [h5]
    exact ⟨appOk_iff.2 ⟨p', s, rfl, h4⟩, by rw [appRun_eq (a := ⟨b.at_, b.del ++ a.del, []⟩) h4, e2]⟩

theorem step_ok (at0 many : Int) (line ins : List Int) : appOk line (stepEd at0 many line ins) := by
  have h1 := stepMany_le many at0 line.length
  unfold stepEd
  refine ⟨by simp only; omega, ?_, ?_⟩
  · simp only [List.length_take, List.length_drop]; omega
  · simp only [Int.toNat_natCast, List.length_take, List.length_drop]
    congr 1; omega
theorem step_del_le (at0 many : Int) (line ins : List Int) : (stepEd at0 many line ins).del.length ≤ line.length := by
  unfold stepEd; simp; omega
theorem step_at_le (at0 many : Int) (line ins : List Int) : (stepEd at0 many line ins).at_ = (stepAt at0 line.length : Nat) ∧ stepAt at0 line.length ≤ line.length := ⟨rfl, stepAt_le _ _⟩

theorem same_refl (e : Ed) : sameE e e = true := by unfold sameE eqL; simp
theorem inv_inv (e : Ed) : e.inv.inv = e := rfl

end Go.Proofs.Ytinlpmgchcbjpaa
