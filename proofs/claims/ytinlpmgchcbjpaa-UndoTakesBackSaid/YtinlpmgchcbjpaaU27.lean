/- 'done': a line behind edits. -/
import Derived.Test.YtinlpmgchcbjpaaU13
import Derived.Test.YtinlpmgchcbjpaaU19
namespace Go.Proofs.Ytinlpmgchcbjpaa
open Go Go.RowKit
set_option maxHeartbeats 1000000
set_option maxRecDepth 100000

def doneL : List Int → List Ed → Option (List Int)
  | line, [] => some line
  | line, e :: es => if appCode line e = 0 then doneL (appRun line e) es else none

theorem doneL_drop {line l : List Int} {es : List Ed} {k : Nat} (hk : k < es.length) (h : doneL line (es.drop k) = some l) : appCode line (es[k]?.getD Ed.none) = 0 ∧ doneL (appRun line (es[k]?.getD Ed.none)) (es.drop (k + 1)) = some l := by
  have e : es.drop k = es[k]?.getD Ed.none :: es.drop (k + 1) := by
    rw [List.getElem?_eq_getElem hk]; exact List.drop_eq_getElem_cons hk
  rw [e] at h
  unfold doneL at h
  split at h
  · rename_i h1; exact ⟨h1, h⟩
  · cases h

theorem done_ok (AL : Option Addr) (N C : Nat) (line : List Int) (SL : Nat → Prop) (A : Option Addr) (n c : Nat) (es : List Ed) (S : Nat → Prop) (l : List Int) (w : World)
    (hL : RdI w SL AL N C line) (hE : RdE w S A n c es) (hN : small N) (hn : n ≤ 16384) (hf : ∀ e ∈ es, e.fit) (hd : doneL line es = some l) :
    Calls Try.prog 52 #[.slice AL N C, .slice A n c] w fun e w' => ∃ A' n' c', e = .returned (.tuple #[.slice A' n' c', .bool true]) ∧ RdI w' (fun b => SL b ∨ w.heap.size ≤ b) A' n' c' l ∧ Pure w w' := by
  have hnI : (n : Int) ≤ 16384 := by omega
  have hlen : es.length = n := hE.1
  have HL := hid hlen
  clear hlen
  go_enter Try.func52, Try.ntmps52
  go_wp2
  go_loopw [0, 12] (fun v i wr => ∃ (k : Nat) (A2 : Option Addr) (n2 c2 : Nat) (l2 : List Int), k ≤ n ∧ i = .int .i64 k ∧ v = .slice A2 n2 c2 ∧ RdI wr (fun b => SL b ∨ w.heap.size ≤ b) A2 n2 c2 l2 ∧ small n2 ∧ doneL l2 (es.drop k) = some l ∧ Pure w wr) (fun _ i _ => n - (intOf i).toNat)
  case atStart => exact ⟨0, AL, N, C, line, Nat.zero_le _, rfl, rfl, hL.mono fun b _ hb => .inl hb, hN, by simpa using hd, Only.refl _ _⟩
  case round =>
    obtain ⟨k, A2, n2, c2, l2, hk, rfl, rfl, hR, hs2, hd2, hp⟩ := hrel
    by_cases hlt : k < n
    · obtain ⟨gx, ox, a, m, d, a', m', d', rfl, hgx, _, hc0, hc1, hc2, hx, hy⟩ := RdE.at_ (RdK'.pure_ hE hp) hlt
      have hkI : (k : Int) < n := by omega
      obtain ⟨hcode, hd3⟩ := doneL_drop (by rw [HL.out]; exact hlt) hd2
      have hmem : (es[k]?.getD Ed.none).fit := by
        rw [List.getElem?_eq_getElem (by rw [HL.out]; exact hlt)]
        exact hf _ (List.getElem_mem _)
      obtain ⟨x, hxe⟩ : ∃ x, x = es[k]?.getD Ed.none := ⟨_, rfl⟩
      rw [← hxe] at hcode hd3 hx hy hc0 hmem
      have hm : small m := by rw [← hx.len]; exact hmem.1
      have hm' : small m' := by rw [← hy.len]; exact hmem.2
      have hout : appOut l2 x = appRun l2 x := by unfold appOut; rw [if_pos hcode]
      have hshort := (appCode_zero.1 hcode).2
      have HC := hid hcode
      have HO := hid hout
      have HD3 := hid hd3
      have HSH := hid hshort
      clear hxe hmem hcode hout hd3 hshort hd2
      have hpa : Pure wr (wr.alloc (.cells #[.int .i64 x.at_, .slice a m d, .slice a' m' d'] 60)) := (Only.refl _ wr).alloc _
      go_wp2_with (go_at_call 30; refine (apply_any A2 n2 c2 l2 _ x.at_ a m d x.del S a' m' d' x.ins S _ (hR.pure_ hpa) (hx.pure_ hpa) (hy.pure_ hpa) hs2 hm hm').mono ?_; rintro e w3 ⟨A3, n3, c3, rfl, hR3, hp3⟩; rw [show (⟨x.at_, x.del, x.ins⟩ : Ed) = x from rfl, HC.out]; rw [show (⟨x.at_, x.del, x.ins⟩ : Ed) = x from rfl, HO.out] at hR3)
      have hws := hp.size
      have hwa := hpa.size
      have hp' : Pure w w3 := (hp.trans hpa).trans hp3
      have hR3' : RdI w3 (fun b => SL b ∨ w.heap.size ≤ b) A3 n3 c3 (appRun l2 x) := RdI.mono hR3 fun b _ hb => .inr (by have hb2 : (wr.alloc (.cells #[.int .i64 x.at_, .slice a m d, .slice a' m' d'] 60)).heap.size ≤ b := hb; omega)
      have hn3 : small n3 := by have h1 := hR3.len; have h2 := HSH.out; unfold small; omega
      clear hR3 hx hy hR
      go_roundw
      case rel => exact ⟨k + 1, A3, n3, c3, _, by omega, by go_num, rfl, hR3', hn3, HD3.out, hp'⟩
      case measure => simp [intOf]; omega
    · obtain rfl : k = n := by omega
      rw [List.drop_of_length_le (by rw [HL.out]; exact Nat.le_refl _)] at hd2
      obtain rfl : l2 = l := by unfold doneL at hd2; exact Option.some.inj hd2
      go_wp2
      go_ret2
      exact ⟨A2, n2, c2, rfl, hR, hp⟩

end Go.Proofs.Ytinlpmgchcbjpaa
