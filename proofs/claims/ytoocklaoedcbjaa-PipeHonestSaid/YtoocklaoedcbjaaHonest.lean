/-
  PipeHonest: what is delivered was sent, to whom it was; there are never more than 64: the walk. Conditions: the turns can be read.
-/
import Derived.Test.YtoocklaoedcbjaaIs
namespace Go.Proofs.Ytoocklaoedcbjaa
open Go.RowKit

/-- Two items alike. -/
abbrev same (x y : Item) : Bool := (x.1 == y.1) && (x.2.data.toList == y.2.data.toList)

set_option maxRecDepth 100000 in
set_option maxHeartbeats 1000000 in
theorem index_yes (A : Option Addr) (n c : Nat) (l : List Item) (x : Item) (w : World) (hr : Rd w 2 A n c (itemCells l)) (hx : x ∈ l) (hn : n ≤ 65536) :
    Calls Try.prog 24 #[.slice A n c, itemV x] w fun e w' => (∃ k : Nat, e = .returned (.int .i64 k)) ∧ Below w.heap.size w w' := by
  have hl := hr.itemLen
  have Hl := hide hl
  have Hx := hide hx
  obtain ⟨xt, xs⟩ := x
  have Hr := hide (hr.alloc (.cells #[.int .u64 xt, .string xs] 32))
  clear hr hl hx
  go_enter Try.func24, Try.ntmps24
  go_wp2_with fail
  have c0 : (w.alloc (.cells #[.int .u64 xt, .string xs] 32)).cell? ⟨w.heap.size, 0, none⟩ = some (.int .u64 xt) := by go_simp
  have c1 : (w.alloc (.cells #[.int .u64 xt, .string xs] 32)).cell? ⟨w.heap.size, 1, none⟩ = some (.string xs) := by go_simp
  have Hb := hide (show Below w.heap.size w (w.alloc (.cells #[.int .u64 xt, .string xs] 32)) from (Below.refl _ _).alloc (Nat.le_refl _) _)
  generalize hW : w.alloc (.cells #[.int .u64 xt, .string xs] 32) = W at *
  clear hW
  go_loopw [8] (fun i wr => ∃ k q : Nat, k ≤ n ∧ i = .int .i64 k ∧ wr = W.drewN q ∧ ∀ (j : Nat) (y : Item), j < k → l[j]? = some y → y ≠ (xt, xs)) (fun i _ => n - (intOf i).toNat)
  case atStart => exact ⟨0, 0, Nat.zero_le _, rfl, rfl, fun j y h => absurd h (Nat.not_lt_zero _)⟩
  case round =>
    obtain ⟨k, q, hk, rfl, rfl, hno⟩ := hrel
    have Hno := hide hno
    clear hno
    by_cases hlt : k < n
    · obtain ⟨⟨ab, ao, asp⟩, rfl⟩ := Hr.out.isSome (by omega)
      have hkl : k < l.length := by rw [Hl.out]; exact hlt
      obtain ⟨y, hy⟩ : ∃ y, l[k]? = some y := ⟨l[k], by simp [hkl]⟩
      obtain ⟨rfl, y0, y1⟩ := Hr.out.items k y hy
      obtain ⟨yt, ys⟩ := y
      simp only at y0 y1
      have Hy := hide hy
      clear hy hkl
      cases he : (xt == yt) with
      | false =>
        have Hne : Hid ((yt, ys) ≠ (xt, xs)) := hide (fun h => by injection h with h1 h2; subst h1; simp at he)
        go_wp2_with fail
        go_quiet (fail)
        go_wp2_with fail
        go_roundw
        case rel => exact ⟨k + 1, q + nq, by omega, by go_num, by simp, fun j y hj hy => by
          rcases Nat.lt_or_ge j k with h | h
          · exact Hno.out j y h hy
          · obtain rfl : j = k := by omega
            rw [Hy.out] at hy
            injection hy with hy
            rw [← hy]
            exact Hne.out⟩
        case measure => simp [intOf]; omega
      | true =>
        cases hs : (xs.toList == ys.toList) with
        | false =>
          have Hne : Hid ((yt, ys) ≠ (xt, xs)) := hide (fun h => by injection h with h1 h2; subst h2; simp at hs)
          go_wp2_with fail
          go_quiet (fail)
          go_wp2_with fail
          go_roundw
          case rel => exact ⟨k + 1, q + nq, by omega, by go_num, by simp, fun j y hj hy => by
            rcases Nat.lt_or_ge j k with h | h
            · exact Hno.out j y h hy
            · obtain rfl : j = k := by omega
              rw [Hy.out] at hy
              injection hy with hy
              rw [← hy]
              exact Hne.out⟩
          case measure => simp [intOf]; omega
        | true =>
          go_wp2_with fail
          go_quiet (fail)
          go_wp2_with fail
          go_ret
          exact ⟨⟨k, rfl⟩, (Hb.out.trans (below_drewN _ _ _)).trans (below_drewN _ _ _)⟩
    · exfalso
      obtain ⟨j, hj, e⟩ := List.getElem_of_mem Hx.out
      exact Hno.out j (xt, xs) (by have := Hl.out; omega) (by simp [hj, e]) rfl

theorem contains_yes (A : Option Addr) (n c : Nat) (l : List Item) (x : Item) (w : World) (hr : Rd w 2 A n c (itemCells l)) (hx : x ∈ l) (hn : n ≤ 65536) :
    Calls Try.prog 17 #[.slice A n c, itemV x] w fun e w' => e = .returned (.bool true) ∧ Below w.heap.size w w' := by
  obtain ⟨xt, xs⟩ := x
  have Hx := hide hx
  have Hr := hide (hr.alloc (.cells #[.int .u64 xt, .string xs] 32))
  clear hr hx
  go_enter Try.func17, Try.ntmps17
  go_wp2_with fail
  refine (index_yes A n c l (xt, xs) _ Hr.out Hx.out hn).mono ?_
  rintro e w1 ⟨⟨k, rfl⟩, hb1⟩
  have hk : (0 : Int) ≤ (k : Int) := by omega
  go_wp2_with fail
  go_ret
  exact ⟨rfl, ((Below.refl _ _).alloc (Nat.le_refl _) _).trans (hb1.mono (by simp))⟩

theorem sendL_mem {l : List Item} {x y : Item} (h : y ∈ sendL l x) : y ∈ l ∨ y = x := by
  unfold sendL at h
  have h1 := List.mem_of_mem_drop h
  rcases List.mem_append.1 h1 with h2 | h2
  · exact .inl h2
  · exact .inr (List.mem_singleton.1 h2)
end Go.Proofs.Ytoocklaoedcbjaa
