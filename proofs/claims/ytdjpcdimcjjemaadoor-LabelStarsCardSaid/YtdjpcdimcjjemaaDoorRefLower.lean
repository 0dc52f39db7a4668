/-
  Contract of the document's Lower. Conditions: none.
-/
import Derived.Test.YtdjpcdimcjjemaaDoorLower
import Derived.Laws.Concat
namespace Go.Proofs.YtdjpcdimcjjemaaDoor
open Go.RowKit

theorem low_take (l : Bs) (k : Nat) (h : k < l.length) : lower (l.take (k + 1)) = lower (l.take k) ++ [low (bt l k)] := by
  rw [List.take_succ_eq_append_getElem h, lower_append]
  simp [lower, bt, List.getD, h]
theorem tx_add (a b : Bs) (w : World) (h : a.length + b.length ≤ 9223372036854775807) : (Op.stringOp .add (tx a) (tx b)).run Tryd.prog w = .ok (.string (tx (a ++ b))) w := by
  rw [run_string_add_sum w (tx a) (tx b) (by rw [tx_size, tx_size]; exact h)]
  congr 2
  try (rw [← ByteArray.data_inj]; simp)
theorem cell_byte (w : World) (c : UInt8) (z : Int) (hz : z = (c.toNat : Int)) (g : Nat) (hg : g = w.heap.size) :
    (convert 33 9 (.slice (some ⟨g, 0, none⟩) 1 1)).run Tryd.prog (w.alloc (.cells #[.int .u8 z] 5)) = .ok (.string (tx [c])) (w.alloc (.cells #[.int .u8 z] 5)) := by
  subst hg hz
  exact run_convert_bytes_back (P := Tryd.prog) _ 33 9 5 ⟨w.heap.size, 0, none⟩ 1 [c] Tryd.underlying33 Tryd.underlying5 Tryd.underlying9 (fun j hj => by
    obtain rfl : j = 0 := by simpa using hj
    go_simp
    try simp [Addr.add])

set_option maxHeartbeats 4000000 in
theorem refLower_any (l : Bs) (w : World) (hl : l.length ≤ 9223372036854775807) : Calls Tryd.prog 19 #[.string (tx l)] w fun e w' => e = .returned (.string (tx (lower l))) ∧ Below w.heap.size w w' := by
  go_enter Tryd.func19, Tryd.ntmps19
  go_wp2_with fail
  go_loopw [3, 4] (fun o i wr => ∃ k : Nat, k ≤ l.length ∧ i = .int .i64 k ∧ o = .string (tx (lower (l.take k))) ∧ Below w.heap.size w wr) (fun _ i _ => l.length - (intOf i).toNat)
  case atStart => exact ⟨0, Nat.zero_le _, rfl, rfl, Below.refl _ _⟩
  case round =>
    obtain ⟨k, hk, rfl, rfl, hb⟩ := hrel
    have Hb := hide hb
    clear hb
    by_cases hlt : k < l.length
    · obtain ⟨x, hx⟩ : ∃ x, bt l k = x := ⟨_, rfl⟩
      have Hx := hide hx
      have hadd := fun w => tx_add (lower (l.take k)) [low x] w (by rw [lower_len, List.length_take]; simp; omega)
      rw [← hx, ← low_take l k hlt, hx] at hadd
      have hlb : Below w.heap.size w (wr.alloc (.cells #[.int .u8 ((low x).toNat : Int)] 5)) := Hb.out.alloc Hb.out.size _
      have Hlb := hide hlb
      clear hlb
      by_cases hu : 65 ≤ x.toNat ∧ x.toNat ≤ 90
      · have h1 : decide ((65 : Int) ≤ (x.toNat : Int)) = true := by rw [decide_eq_true_iff]; omega
        have h2 : decide ((x.toNat : Int) ≤ 90) = true := by rw [decide_eq_true_iff]; omega
        have hlow := low_up hu.1 hu.2
        have hz : (x.toNat : Int) + 32 = ((low x).toNat : Int) := by omega
        have hcv := cell_byte wr (low x) _ hz wr.heap.size rfl
        rw [← hz] at Hlb
        have hu1 : (65 : Int) ≤ (x.toNat : Int) := by omega
        have hu2 : (x.toNat : Int) ≤ 90 := by omega
        clear hu hz hlow
        go_wp2_with fail
        go_roundw
        case rel => exact ⟨k + 1, by omega, by go_num, rfl, Hlb.out⟩
        case measure => simp [intOf] <;> omega
      · have hlow := low_other hu
        have hcv := cell_byte wr (low x) (x.toNat : Int) (by rw [hlow]) wr.heap.size rfl
        rw [show ((low x).toNat : Int) = (x.toNat : Int) by rw [hlow]] at Hlb
        clear hlow
        by_cases h1 : 65 ≤ x.toNat
        · have h2 : ¬ (x.toNat : Int) ≤ 90 := by omega
          have h3 : decide ((x.toNat : Int) ≤ 90) = false := decide_eq_false h2
          have h4 : decide ((65 : Int) ≤ (x.toNat : Int)) = true := by rw [decide_eq_true_iff]; omega
          clear hu
          go_wp2_with fail
          go_roundw
          case rel => exact ⟨k + 1, by omega, by go_num, rfl, Hlb.out⟩
          case measure => simp [intOf] <;> omega
        · have h4 : decide ((65 : Int) ≤ (x.toNat : Int)) = false := by rw [decide_eq_false_iff_not]; omega
          clear hu
          go_wp2_with fail
          go_roundw
          case rel => exact ⟨k + 1, by omega, by go_num, rfl, Hlb.out⟩
          case measure => simp [intOf] <;> omega
    · obtain rfl : k = l.length := by omega
      go_wp2_with fail
      go_ret
      exact ⟨by first | rfl | simp, Hb.out⟩
end Go.Proofs.YtdjpcdimcjjemaaDoor
