/-
  Contracts of Lower, the program's and the document's. Conditions: none.
-/
import Derived.Test.YtdjpcdimcjjemaaDoorLabel1
import Derived.Laws.IdiomStrings
namespace Go.Proofs.YtdjpcdimcjjemaaDoor
open Go.RowKit

theorem bytesRow_at (l : Bs) (cap j : Nat) (h : j < l.length) : (bytesRow (tx l) cap)[j]? = some (.int .u8 (bt l j).toNat) := by
  unfold bytesRow bt
  rw [Array.getElem?_append_left (by simpa using h)]
  simp [List.getD, h]
theorem bytesRow_size (l : Bs) (cap : Nat) : l.length ≤ (bytesRow (tx l) cap).size := by
  unfold bytesRow
  simp

/-- The first k bytes are small. -/
def lowTo (l : Bs) (k j : Nat) : UInt8 := if j < k then low (bt l j) else bt l j

set_option maxHeartbeats 4000000 in
theorem lower_any (l : Bs) (w : World) (hl : l.length ≤ 9223372036854775807) : Calls Tryd.prog 8 #[.string (tx l)] w fun e w' => e = .returned (.string (tx (lower l))) ∧ Below w.heap.size w w' := by
  have hcv := run_bytes_of_string w 9 33 5 (tx l) Tryd.underlying9 Tryd.underlying33 Tryd.underlying5
  obtain ⟨cap, hcap⟩ : ∃ cap, grownCap w (tx l).size 0 5 = cap := ⟨_, rfl⟩
  rw [hcap, tx_size] at hcv
  clear hcap
  have c0 : ∀ j, j < l.length → (w.drew.alloc (.cells (bytesRow (tx l) cap) 5 ((bytesRow (tx l) cap).size, (bytesRow (tx l) cap).size + 1))).cell? ⟨w.heap.size, j, none⟩ = some (.int .u8 (lowTo l 0 j).toNat) := fun j hj => by
    have h1 : (w.drew.alloc (.cells (bytesRow (tx l) cap) 5 ((bytesRow (tx l) cap).size, (bytesRow (tx l) cap).size + 1))).cell? ⟨w.drew.heap.size, j, none⟩ = _ := World.cell?_alloc_mark w.drew (bytesRow (tx l) cap) 5 _ j
    rw [bytesRow_at l cap j hj] at h1
    rw [show lowTo l 0 j = bt l j by simp [lowTo]]
    exact h1
  have f0 : ∀ j, j < l.length → (w.drew.alloc (.cells (bytesRow (tx l) cap) 5 ((bytesRow (tx l) cap).size, (bytesRow (tx l) cap).size + 1))).frozen? ⟨w.heap.size, j, none⟩ = false := fun j hj => by
    have := bytesRow_size l cap
    have h1 : (w.drew.alloc (.cells (bytesRow (tx l) cap) 5 ((bytesRow (tx l) cap).size, (bytesRow (tx l) cap).size + 1))).heap[w.heap.size]? = some (.cells (bytesRow (tx l) cap) 5 ((bytesRow (tx l) cap).size, (bytesRow (tx l) cap).size + 1)) := by
      show (w.heap.push _)[w.heap.size]? = _
      simp
    simp only [World.frozen?, h1]
    simp
    omega
  have b0 : Below w.heap.size w (w.drew.alloc (.cells (bytesRow (tx l) cap) 5 ((bytesRow (tx l) cap).size, (bytesRow (tx l) cap).size + 1))) := ((Below.refl _ _).drew).alloc (Nat.le_refl _) _
  have H0 := hide (show (∀ j, j < l.length → ((w.alloc (.cells (bytesRow (tx l) cap) 5 ((bytesRow (tx l) cap).size, (bytesRow (tx l) cap).size + 1))).drew).cell? ⟨w.heap.size, j, none⟩ = some (.int .u8 (lowTo l 0 j).toNat)) ∧
    (∀ j, j < l.length → ((w.alloc (.cells (bytesRow (tx l) cap) 5 ((bytesRow (tx l) cap).size, (bytesRow (tx l) cap).size + 1))).drew).frozen? ⟨w.heap.size, j, none⟩ = false) ∧ Below w.heap.size w ((w.alloc (.cells (bytesRow (tx l) cap) 5 ((bytesRow (tx l) cap).size, (bytesRow (tx l) cap).size + 1))).drew) from ⟨c0, f0, b0⟩)
  clear c0 f0 b0
  go_enter Tryd.func8, Tryd.ntmps8
  go_wp2_with fail
  generalize hW1 : (w.alloc (.cells (bytesRow (tx l) cap) 5 ((bytesRow (tx l) cap).size, (bytesRow (tx l) cap).size + 1))).drew = W1 at *
  clear hW1 hcv
  go_loopw [10] (fun i wr => ∃ k : Nat, k ≤ l.length ∧ i = .int .i64 k ∧ (∀ j, j < l.length → wr.cell? ⟨w.heap.size, j, none⟩ = some (.int .u8 (lowTo l k j).toNat)) ∧ (∀ j, j < l.length → wr.frozen? ⟨w.heap.size, j, none⟩ = false) ∧ Below w.heap.size w wr) (fun i _ => l.length - (intOf i).toNat)
  case atStart => exact ⟨0, Nat.zero_le _, rfl, H0.out.1, H0.out.2.1, H0.out.2.2⟩
  case round =>
    clear H0
    obtain ⟨k, hk, rfl, hc, hf, hb⟩ := hrel
    have Hc := hide hc
    have Hf := hide hf
    have Hb := hide hb
    clear hc hf hb
    by_cases hlt : k < l.length
    · have x0 := Hc.out k hlt
      have fr := Hf.out k hlt
      rw [show lowTo l k k = bt l k by simp [lowTo]] at x0
      obtain ⟨x, hx⟩ : ∃ x, bt l k = x := ⟨_, rfl⟩
      rw [hx] at x0
      have Hx := hide hx
      clear hx
      by_cases hu : 65 ≤ x.toNat ∧ x.toNat ≤ 90
      · have h1 : decide ((65 : Int) ≤ (x.toNat : Int)) = true := by rw [decide_eq_true_iff]; omega
        have h2 : decide ((x.toNat : Int) ≤ 90) = true := by rw [decide_eq_true_iff]; omega
        have hlow := low_up hu.1 hu.2
        have hz : ((low x).toNat : Int) = (x.toNat : Int) + 32 := by omega
        have Hz := hide hz
        clear hz hlow
        have hu1 : (65 : Int) ≤ (x.toNat : Int) := by omega
        have hu2 : (x.toNat : Int) ≤ 90 := by omega
        clear hu
        go_wp2_with fail
        go_roundw
        case rel =>
          refine ⟨k + 1, by omega, by go_num, fun j hj => ?_, fun j hj => ?_, ?_⟩
          · by_cases e : j = k
            · subst e
              rw [show lowTo l (j + 1) j = low x by simp [lowTo, Hx.out]]
              rw [Hz.out]
              go_simp
            · rw [World.cell?_setCell_other _ _ _ _ (by intro e2; injection e2 with _ e3; exact e e3.symm), Hc.out j hj]
              simp only [lowTo]
              congr 4
              by_cases h : j < k
              · rw [if_pos h, if_pos (by omega)]
              · rw [if_neg h, if_neg (by omega)]
          · have := Hf.out j hj
            simp [go_sem, this]
          · exact Hb.out.setCell (p := ⟨w.heap.size, k, none⟩) (Nat.le_refl _) _
        case measure => simp [intOf] <;> omega
      · have Hu := hide hu
        have hkeep : ∀ j, j < l.length → lowTo l (k + 1) j = lowTo l k j := fun j hj => by
          simp only [lowTo]
          by_cases h : j < k
          · rw [if_pos h, if_pos (by omega)]
          · by_cases e : j = k
            · subst e
              rw [if_pos (by omega), if_neg h, Hx.out, low_other hu]
            · rw [if_neg h, if_neg (by omega)]
        have Hkeep := hide hkeep
        clear hu hkeep
        by_cases h1 : 65 ≤ x.toNat
        · have h2 : ¬ (x.toNat : Int) ≤ 90 := by have := Hu.out; omega
          have h3 : decide ((x.toNat : Int) ≤ 90) = false := decide_eq_false h2
          have h4 : decide ((65 : Int) ≤ (x.toNat : Int)) = true := by rw [decide_eq_true_iff]; omega
          go_wp2_with fail
          go_roundw
          case rel => exact ⟨k + 1, by omega, by go_num, fun j hj => by rw [Hkeep.out j hj]; exact Hc.out j hj, Hf.out, Hb.out⟩
          case measure => simp [intOf] <;> omega
        · have h4 : decide ((65 : Int) ≤ (x.toNat : Int)) = false := by rw [decide_eq_false_iff_not]; omega
          go_wp2_with fail
          go_roundw
          case rel => exact ⟨k + 1, by omega, by go_num, fun j hj => by rw [Hkeep.out j hj]; exact Hc.out j hj, Hf.out, Hb.out⟩
          case measure => simp [intOf] <;> omega
    · obtain rfl : k = l.length := by omega
      have hback := run_convert_bytes_back (P := Tryd.prog) wr 33 9 5 ⟨w.heap.size, 0, none⟩ cap (lower l) Tryd.underlying33 Tryd.underlying5 Tryd.underlying9 (fun j hj => by
        have hj2 : j < l.length := by rwa [lower_len] at hj
        have := Hc.out j hj2
        rw [show (⟨w.heap.size, 0, none⟩ : Addr).add j = ⟨w.heap.size, j, none⟩ by simp only [Addr.add_lit, Nat.zero_add], this]
        congr 4
        rw [lowTo, if_pos hj2]
        simp [lower, bt, List.getD, hj2])
      rw [lower_len] at hback
      go_wp2_with fail
      go_ret
      exact ⟨rfl, Hb.out⟩
end Go.Proofs.YtdjpcdimcjjemaaDoor
