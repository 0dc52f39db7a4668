/-
  Contracts of a label's small functions. Conditions: none.
-/
import Derived.Test.YtdjpcdimcjjemaaDoorChecked
import Derived.Test.YtdjpcdimcjjemaaDoorMath
import Derived.Test.YtdjpcdimcjjemaaDoorOwn
import Derived.Outline
import Derived.Lib.Strings
namespace Go.Proofs.YtdjpcdimcjjemaaDoor
open Go.RowKit

/-- A text of the bytes l. -/
abbrev tx (l : Bs) : ByteArray := ⟨l.toArray⟩
theorem tx_data (s : ByteArray) : tx s.data.toList = s := rfl
theorem tx_size (l : Bs) : (tx l).size = l.length := by simp [ByteArray.size]
theorem tx_inj {a b : Bs} (h : tx a = tx b) : a = b := by
  injection h with h
  simpa using congrArg Array.toList h
/-- The byte at a place. -/
def bt (l : Bs) (k : Nat) : UInt8 := l.getD k 0
@[go_sem] theorem tx_get (l : Bs) (k : Nat) (h : k < (tx l).size) : (tx l)[k] = bt l k := by
  unfold bt
  have : k < l.length := by simpa [ByteArray.size] using h
  simp [ByteArray.getElem_eq_getElem_data, List.getD, this]

set_option maxHeartbeats 1000000 in
theorem letter_any (c : UInt8) (w : World) : Calls Tryd.prog 22 #[.int .u8 c.toNat] w fun e w' => e = .returned (.bool (decide (letC c))) ∧ w = w' := by
  go_enter Tryd.func22, Tryd.ntmps22
  go_wp2
  all_goals
    go_ret
    refine ⟨ret_bool ?_, rfl⟩
    rw [Bool.eq_iff_iff]
    simp only [decide_eq_true_iff, Bool.and_eq_true, Bool.false_eq_true, false_iff, letC] at *
    omega

set_option maxHeartbeats 1000000 in
theorem plain_any (c : UInt8) (w : World) : Calls Tryd.prog 23 #[.int .u8 c.toNat] w fun e w' => e = .returned (.bool (decide (plaC c))) ∧ w = w' := by
  go_enter Tryd.func23, Tryd.ntmps23
  go_wp2_with fail
  refine (letter_any c w).mono ?_
  rintro e w1 ⟨rfl, rfl⟩
  by_cases hl : letC c
  · have hd : decide (letC c) = true := decide_eq_true hl
    go_wp2_with fail
    go_ret
    exact ⟨ret_bool (by rw [eq_comm, decide_eq_true_iff]; exact .inl hl), rfl⟩
  · have hd : decide (letC c) = false := decide_eq_false hl
    go_wp2_with fail
    all_goals
      go_ret
      refine ⟨ret_bool ?_, rfl⟩
      rw [Bool.eq_iff_iff]
      simp only [decide_eq_true_iff, Bool.and_eq_true, Bool.or_eq_true, Bool.false_eq_true, false_iff, plaC, letC] at *
      omega

theorem tx_list (l : Bs) : (tx l).toList = l := by
  rw [Lib.toList_data]

set_option maxHeartbeats 2000000 in
theorem name_any (l : Bs) (w : World) (hl : l.length ≤ 9223372036854775807) : Calls Tryd.prog 9 #[.string (tx l)] w fun e w' => e = .returned (.bool (decide (NameP l))) ∧ w = w' := by
  rcases Nat.eq_zero_or_pos l.length with h0 | h0
  · obtain rfl := List.length_eq_zero_iff.1 h0
    go_enter Tryd.func9, Tryd.ntmps9
    go_wp2_with fail
    go_ret
    exact ⟨ret_bool (by decide), rfl⟩
  have hem : l.isEmpty = false := by cases l with | nil => simp at h0 | cons => rfl
  by_cases h1 : 32 < l.length
  · have hd : decide ((32 : Int) < (l.length : Int)) = true := by rw [decide_eq_true_iff]; omega
    go_enter Tryd.func9, Tryd.ntmps9
    go_wp2_with fail
    go_ret
    exact ⟨ret_bool (by rw [eq_comm, decide_eq_false_iff_not]; intro h; have := h.2.1; omega), rfl⟩
  have hd : decide ((32 : Int) < (l.length : Int)) = false := by rw [decide_eq_false_iff_not]; omega
  obtain ⟨c, hc⟩ : ∃ c, bt l 0 = c := ⟨_, rfl⟩
  have Hc := hide hc
  by_cases hlt : letC c
  · have hld : decide (letC c) = true := decide_eq_true hlt
    have HLT := hide hlt
    clear hlt
    go_enter Tryd.func9, Tryd.ntmps9
    go_wp2_with fail
    refine (letter_any c w).mono ?_
    rintro e w1 ⟨rfl, rfl⟩
    clear hc
    go_wp2_with fail
    go_loopw [19] (fun i wr => ∃ k : Nat, k ≤ l.length ∧ i = .int .i64 k ∧ (∀ j, j < k → plaC (bt l j) ∨ (bt l j).toNat = 45 ∨ (bt l j).toNat = 95) ∧ wr = w) (fun i _ => l.length - (intOf i).toNat)
    case atStart => exact ⟨0, Nat.zero_le _, rfl, by omega, rfl⟩
    case round =>
      obtain ⟨k, hk, rfl, hall, rfl⟩ := hrel
      have Hall := hide hall
      clear hall
      by_cases hkl : k < l.length
      · obtain ⟨x, hx⟩ : ∃ x, bt l k = x := ⟨_, rfl⟩
        have Hx := hide hx
        go_wp2_with fail
        refine (plain_any x wr).mono ?_
        rintro e w1 ⟨rfl, rfl⟩
        by_cases hp : plaC x
        · have hpd : decide (plaC x) = true := decide_eq_true hp
          have Hp := hide hp
          clear hp
          go_wp2_with fail
          go_roundw
          case rel =>
            refine ⟨k + 1, by omega, by go_num, fun j hj => ?_, by first | rfl | trivial⟩
            by_cases e : j = k
            · rw [e, Hx.out]; exact .inl Hp.out
            · exact Hall.out j (by omega)
          case measure => simp [intOf]; omega
        · have hpd : decide (plaC x) = false := decide_eq_false hp
          have Hp := hide hp
          clear hp
          by_cases h45 : x.toNat = 45
          · have H45 := hide h45
            go_wp2_with fail
            go_roundw
            case rel =>
              refine ⟨k + 1, by omega, by go_num, fun j hj => ?_, by first | rfl | trivial⟩
              by_cases e : j = k
              · rw [e, Hx.out]; exact .inr (.inl H45.out)
              · exact Hall.out j (by omega)
            case measure => simp [intOf]; omega
          · by_cases h95 : x.toNat = 95
            · have H95 := hide h95
              go_wp2_with fail
              go_roundw
              case rel =>
                refine ⟨k + 1, by omega, by go_num, fun j hj => ?_, by first | rfl | trivial⟩
                by_cases e : j = k
                · rw [e, Hx.out]; exact .inr (.inr H95.out)
                · exact Hall.out j (by omega)
              case measure => simp [intOf]; omega
            · have Hno := hide (And.intro h45 h95)
              have q45 : ¬ (x.toNat : Int) = 45 := by omega
              have q95 : ¬ (x.toNat : Int) = 95 := by omega
              have p45 : ((x.toNat : Int) != 45) = true := by simpa using q45
              have p95 : ((x.toNat : Int) != 95) = true := by simpa using q95
              clear h45 h95
              go_wp2_with fail
              go_ret
              refine ⟨ret_bool ?_, rfl⟩
              rw [eq_comm, decide_eq_false_iff_not]
              intro h
              have := h.2.2.2 k hkl
              rw [show l.getD k 0 = x from Hx.out] at this
              rcases this with h | h | h
              · exact Hp.out h
              · exact Hno.out.1 h
              · exact Hno.out.2 h
      · obtain rfl : k = l.length := by omega
        go_wp2_with fail
        go_ret
        refine ⟨ret_bool ?_, rfl⟩
        rw [eq_comm, decide_eq_true_iff]
        exact ⟨h0, by omega, by have := HLT.out; rw [← Hc.out] at this; exact this, Hall.out⟩
  · have hld : decide (letC c) = false := decide_eq_false hlt
    have HLT := hide hlt
    clear hlt
    go_enter Tryd.func9, Tryd.ntmps9
    go_wp2_with fail
    refine (letter_any c w).mono ?_
    rintro e w1 ⟨rfl, rfl⟩
    clear hc
    go_wp2_with fail
    go_ret
    refine ⟨ret_bool ?_, rfl⟩
    rw [eq_comm, decide_eq_false_iff_not]
    intro h
    have := h.2.2.1
    rw [show l.getD 0 0 = c from Hc.out] at this
    exact HLT.out this
end Go.Proofs.YtdjpcdimcjjemaaDoor
