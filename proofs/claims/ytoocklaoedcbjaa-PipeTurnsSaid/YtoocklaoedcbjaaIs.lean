/-
  Contract of Is: a pipe holds just these. And how two items are held against each other. Conditions: both lists can be read, and are short.
-/
import Derived.Test.YtoocklaoedcbjaaRef
namespace Go.Proofs.Ytoocklaoedcbjaa
open Go.RowKit

theorem sendL_keep (l : List Item) (y : Item) (n : Nat) (hl : l.length = n) (hn : n ≤ 64) : keepIf l (fun k _ => decide (n < 64) || decide (0 < k)) n ++ [y] = sendL l y := by
  by_cases h : n < 64
  · rw [keepIf_all l n _ (fun j x => by simp [h]), sendL_short l y (by omega), ← hl, List.take_length]
  · have h64 : n = 64 := by omega
    rw [keepIf_erase l 0 n _ (fun j x => by
      rw [show decide (n < 64) = false by simp [h]]
      by_cases hj : j = 0
      · simp [hj]
      · simp [hj]; omega), sendL_full l y (by omega), ← hl, List.take_length]
    cases l with
    | nil => simp at hl; omega
    | cons a r => simp

set_option maxRecDepth 100000 in
set_option maxHeartbeats 1000000 in
theorem is_any (A : Option Addr) (n c : Nat) (V : Option Addr) (vc : Nat) (l : List Item) (w : World) (hr : Rd w 2 A n c (itemCells l)) (hv : Rd w 2 V n vc (itemCells l)) (hn : n ≤ 65536) :
    Calls Try.prog 16 #[pv A n c, .slice V n vc] w fun e w' => e = .returned (.bool true) ∧ Below w.heap.size w w' := by
  have hl := hr.itemLen
  have Hr := hide (hr.alloc (.cells #[.slice A n c] 26))
  have Hv := hide (hv.alloc (.cells #[.slice A n c] 26))
  have Hl := hide hl
  clear hr hv hl
  go_enter Try.func16, Try.ntmps16
  go_wp2_with fail
  refine (all_any A n c l _ Hr.out hn).mono ?_
  rintro e w1 ⟨A1, c1, rfl, ho1, hb1⟩
  have c0 := cell_later (a := ⟨w.heap.size, 0, none⟩) (v := .slice A n c) hb1 (by go_simp)
  have Hr1 := hide (Rd.of_own ho1)
  have Hv1 := hide (Hv.out.below hb1)
  have Hb1 := hide (((Below.refl w.heap.size w).alloc (Nat.le_refl _) _).trans (hb1.mono (by simp)))
  clear ho1 hb1 Hr Hv
  go_wp2_with fail
  refine (len_any _ _ _ _).mono ?_
  rintro e w2 ⟨rfl, hb2⟩
  have Hr2 := hide (Hr1.out.below hb2)
  have Hv2 := hide (Hv1.out.below hb2)
  have Hb2 := hide (Hb1.out.trans (hb2.mono Hb1.out.size))
  clear hb2 Hr1 Hv1 Hb1 c0
  go_wp2_with fail
  go_loopw [23] (fun i wr => ∃ k q : Nat, k ≤ n ∧ i = .int .i64 k ∧ wr = w2.drewN q) (fun i _ => n - (intOf i).toNat)
  case atStart => exact ⟨0, 0, Nat.zero_le _, rfl, rfl⟩
  case round =>
    obtain ⟨k, q, hk, rfl, rfl⟩ := hrel
    by_cases hlt : k < n
    · obtain ⟨⟨ab, ao, asp⟩, rfl⟩ := Hr2.out.isSome (by omega)
      obtain ⟨⟨vb, vo, vsp⟩, rfl⟩ := Hv2.out.isSome (by omega)
      have hkl : k < l.length := by rw [Hl.out]; exact hlt
      obtain ⟨x, hx⟩ : ∃ x, l[k]? = some x := ⟨l[k], by simp [hkl]⟩
      obtain ⟨rfl, x0, x1⟩ := Hr2.out.items k x hx
      obtain ⟨rfl, y0, y1⟩ := Hv2.out.items k x hx
      obtain ⟨a, s⟩ := x
      simp only at x0 x1 y0 y1
      clear hx hkl
      go_wp2_with fail
      go_quiet (fail)
      go_wp2_with fail
      go_roundw
      case rel => exact ⟨k + 1, q + nq, by omega, by go_num, rfl⟩
      case measure => simp [intOf]; omega
    · go_wp2_with fail
      go_ret
      exact ⟨rfl, Hb2.out.trans (below_drewN _ _ _)⟩
end Go.Proofs.Ytoocklaoedcbjaa
