/-
  Contracts of the program's Path and the document's. Conditions: the text is short; the variable MaxLen holds a number.
-/
import Derived.Test.YtdjpcdimcjjemaaDoorHost
namespace Go.Proofs.YtdjpcdimcjjemaaDoor
open Go.RowKit

/-- A path that may be, if it has room. -/
def PathP (l : Bs) : Prop := 0 < l.length ∧ (bt l 0).toNat = 47 ∧ ∀ i, i < l.length → 33 ≤ (bt l i).toNat ∧ (bt l i).toNat ≤ 126 ∧ ¬ (0 < i ∧ (bt l i).toNat = 47 ∧ (bt l (i - 1)).toNat = 47)
instance (l : Bs) : Decidable (PathP l) := by unfold PathP; infer_instance
def pathN (l : Bs) : Int := if PathP l then (if 128 < l.length then 5 else 0) else 4

theorem hasP_slash (l : Bs) : Lib.hasPrefix l [47] = true ↔ 0 < l.length ∧ (bt l 0).toNat = 47 := by
  unfold Lib.hasPrefix bt
  cases l with
  | nil => simp
  | cons c r =>
    simp only [List.isPrefixOf, List.length_cons, List.getD_cons_zero, Bool.and_true, beq_iff_eq]
    constructor
    · intro h
      subst h
      exact ⟨by omega, rfl⟩
    · intro h
      exact (UInt8.toNat_inj.1 (h.2.trans rfl)).symm

set_option maxHeartbeats 4000000 in
theorem path_any (l : Bs) (m : Int) (w : World) (hm : w.cell? ⟨0, 0, none⟩ = some (.int .i64 m)) (hl : l.length ≤ 1000) : Calls Tryd.prog 15 #[.string (tx l)] w fun e w' => e = .returned (.int .i64 (pathN l)) ∧ w = w' := by
  have hpre := hide (hasP_slash l)
  have hcon := hide (contains_two l)
  have HP := hide ((Tryd.strings_HasPrefix (tx l) ⟨#[47]⟩ w).mono (R' := fun e w' => e = .returned (.bool (Lib.hasPrefix l [47])) ∧ w' = w) fun e w' h => h)
  have HC := hide ((Tryd.strings_Contains (tx l) ⟨#[47, 47]⟩ m w (by rw [tx_size]; omega) hm).mono (R' := fun e w' => e = .returned (.bool (Lib.contains l [47, 47])) ∧ w' = w) fun e w' h => h)
  clear hm
  go_enter Tryd.func15, Tryd.ntmps15
  go_wp2_with fail
  refine (HP.out).mono ?_
  rintro e w1 ⟨rfl, rfl⟩
  cases hp : Lib.hasPrefix l [47] with
  | false =>
    have h4 : pathN l = 4 := by
      unfold pathN
      rw [if_neg]
      intro h
      rw [hpre.out.2 ⟨h.1, h.2.1⟩] at hp
      cases hp
    have H4 := hide h4
    clear h4 HP
    go_wp2_with fail
    go_ret
    exact ⟨ret_int H4.out.symm, rfl⟩
  | true =>
    have Hp1 := hide (hpre.out.1 hp)
    clear HP
    go_wp2_with fail
    refine (HC.out).mono ?_
    rintro e w2 ⟨rfl, rfl⟩
    clear HC
    cases hc : Lib.contains l [47, 47] with
    | true =>
      have h4 : pathN l = 4 := by
        unfold pathN
        rw [if_neg]
        intro h
        obtain ⟨i, h1, h2, h3⟩ := hcon.out.1 hc
        exact (h.2.2 (i + 1) h1).2.2 ⟨by omega, by rw [h3]; rfl, by rw [Nat.add_sub_cancel, h2]; rfl⟩
      have H4 := hide h4
      clear h4
      go_wp2_with fail
      go_ret
      exact ⟨ret_int H4.out.symm, rfl⟩
    | false =>
      have hnd : ∀ i, ¬ (0 < i ∧ i < l.length ∧ (bt l i).toNat = 47 ∧ (bt l (i - 1)).toNat = 47) := fun i h => by
        have : Lib.contains l [47, 47] = true := hcon.out.2 ⟨i - 1, by omega, UInt8.toNat_inj.1 (h.2.2.2.trans rfl), by rw [show i - 1 + 1 = i by omega]; exact UInt8.toNat_inj.1 (h.2.2.1.trans rfl)⟩
        rw [this] at hc
        cases hc
      have Hnd := hide hnd
      clear hnd hc hp hpre hcon
      go_wp2_with fail
      go_loopw [13] (fun i wr => ∃ k : Nat, k ≤ l.length ∧ i = .int .i64 k ∧ (∀ j, j < k → 33 ≤ (bt l j).toNat ∧ (bt l j).toNat ≤ 126) ∧ wr = w2) (fun i _ => l.length - (intOf i).toNat)
      case atStart => exact ⟨0, Nat.zero_le _, rfl, by omega, rfl⟩
      case round =>
        obtain ⟨k, hk, rfl, hall, rfl⟩ := hrel
        have Hall := hide hall
        clear hall
        by_cases hlt : k < l.length
        · obtain ⟨x, hx⟩ : ∃ x, bt l k = x := ⟨_, rfl⟩
          have Hx := hide hx
          by_cases hr : 33 ≤ x.toNat ∧ x.toNat ≤ 126
          · have Hr := hide hr
            have h1 : ¬ (x.toNat : Int) < 33 := by omega
            have h2 : ¬ (126 : Int) < (x.toNat : Int) := by omega
            have e1 : decide ((x.toNat : Int) < 33) = false := decide_eq_false h1
            have e2 : decide ((126 : Int) < (x.toNat : Int)) = false := decide_eq_false h2
            clear hr
            go_wp2_with fail
            go_roundw
            case rel =>
              refine ⟨k + 1, by omega, by go_num, fun j hj => ?_, by first | rfl | trivial⟩
              by_cases e : j = k
              · rw [e, Hx.out]; exact Hr.out
              · exact Hall.out j (by omega)
            case measure => simp [intOf] <;> omega
          · have h4 : pathN l = 4 := by
              unfold pathN
              rw [if_neg]
              intro h
              have := h.2.2 k hlt
              rw [hx] at this
              exact hr ⟨this.1, this.2.1⟩
            have H4 := hide h4
            clear h4
            go_wp2_with fail
            all_goals first
              | (exfalso
                 try simp only [Bool.not_eq_true', Bool.not_eq_false', decide_eq_false_iff_not, decide_eq_true_iff] at *
                 omega)
              | (go_ret
                 exact ⟨ret_int H4.out.symm, rfl⟩)
        · obtain rfl : k = l.length := by omega
          have hP : PathP l := ⟨Hp1.out.1, Hp1.out.2, fun i hi => ⟨(Hall.out i hi).1, (Hall.out i hi).2, fun h => Hnd.out i ⟨h.1, hi, h.2⟩⟩⟩
          have hv : pathN l = if 128 < l.length then 5 else 0 := by unfold pathN; rw [if_pos hP]
          have Hv := hide hv
          clear hv hP
          by_cases h128 : 128 < l.length
          · have h1 : (128 : Int) < (l.length : Int) := by omega
            go_wp2_with fail
            go_ret
            exact ⟨ret_int (by rw [Hv.out, if_pos h128]), rfl⟩
          · have h1 : ¬ (128 : Int) < (l.length : Int) := by omega
            go_wp2_with fail
            go_ret
            exact ⟨ret_int (by rw [Hv.out, if_neg h128]), rfl⟩

set_option maxHeartbeats 4000000 in
theorem refPath_any (l : Bs) (w : World) (hl : l.length ≤ 1000) : Calls Tryd.prog 16 #[.string (tx l)] w fun e w' => e = .returned (.int .i64 (pathN l)) ∧ w = w' := by
  rcases Nat.eq_zero_or_pos l.length with h0 | h0
  · obtain rfl := List.length_eq_zero_iff.1 h0
    go_enter Tryd.func16, Tryd.ntmps16
    go_wp2_with fail
    go_ret
    exact ⟨rfl, rfl⟩
  have hne : ¬ (l.length : Int) = 0 := by omega
  have hnb : ((l.length : Int) == 0) = false := by rw [beq_eq_false_iff_ne]; omega
  obtain ⟨c, hc⟩ : ∃ c, bt l 0 = c := ⟨_, rfl⟩
  have Hc := hide hc
  by_cases h47 : c.toNat = 47
  · have H47 := hide h47
    go_enter Tryd.func16, Tryd.ntmps16
    go_wp2_with fail
    clear hc h47
    go_loopw [3] (fun i wr => ∃ k : Nat, k ≤ l.length ∧ i = .int .i64 k ∧ (∀ i, i < k → 33 ≤ (bt l i).toNat ∧ (bt l i).toNat ≤ 126 ∧ ¬ (0 < i ∧ (bt l i).toNat = 47 ∧ (bt l (i - 1)).toNat = 47)) ∧ wr = w) (fun i _ => l.length - (intOf i).toNat)
    case atStart => exact ⟨0, Nat.zero_le _, rfl, by omega, rfl⟩
    case round =>
      obtain ⟨k, hk, rfl, hall, rfl⟩ := hrel
      have Hall := hide hall
      clear hall
      by_cases hlt : k < l.length
      · obtain ⟨x, hx⟩ : ∃ x, bt l k = x := ⟨_, rfl⟩
        have Hx := hide hx
        obtain ⟨y, hy⟩ : ∃ y, bt l (k - 1) = y := ⟨_, rfl⟩
        have Hy := hide hy
        have hno : PathP l → 33 ≤ x.toNat ∧ x.toNat ≤ 126 ∧ ¬ (0 < k ∧ x.toNat = 47 ∧ y.toNat = 47) := fun h => by
          have := h.2.2 k hlt
          rw [hx, hy] at this
          exact this
        have Hno := hide hno
        clear hno
        rcases Nat.eq_zero_or_pos k with rfl | hk0
        · go_wp2_with fail
          all_goals first
            | (go_ret
               refine ⟨ret_int ?_, rfl⟩
               rw [eq_comm]
               unfold pathN
               rw [if_neg]
               intro h
               have h9 := Hno.out h
               try simp only [beq_iff_eq, beq_eq_false_iff_ne, ne_eq, Bool.not_eq_true', Bool.not_eq_false', decide_eq_false_iff_not, decide_eq_true_iff] at *
               omega)
            | (exfalso
               try simp only [beq_iff_eq, beq_eq_false_iff_ne, ne_eq, Bool.not_eq_true', Bool.not_eq_false', decide_eq_false_iff_not, decide_eq_true_iff] at *
               omega)
            | (go_roundw
               case rel =>
                 refine ⟨1, by omega, by first | rfl | go_num, fun i hi => ?_, by first | rfl | trivial⟩
                 by_cases e : i = 0
                 · rw [e, Hx.out]
                   try rw [Hy.out]
                   try simp only [beq_iff_eq, beq_eq_false_iff_ne, ne_eq, Bool.not_eq_true', Bool.not_eq_false', decide_eq_false_iff_not, decide_eq_true_iff] at *
                   omega
                 · exact Hall.out i (by omega)
               case measure => simp [intOf] <;> omega)
        · obtain ⟨j, rfl⟩ : ∃ j, k = j + 1 := ⟨k - 1, by omega⟩
          rw [Nat.add_sub_cancel] at hy
          go_wp2_with fail
          all_goals first
            | (go_ret
               refine ⟨ret_int ?_, rfl⟩
               rw [eq_comm]
               unfold pathN
               rw [if_neg]
               intro h
               have h9 := Hno.out h
               try simp only [beq_iff_eq, beq_eq_false_iff_ne, ne_eq, Bool.not_eq_true', Bool.not_eq_false', decide_eq_false_iff_not, decide_eq_true_iff] at *
               omega)
            | (exfalso
               try simp only [beq_iff_eq, beq_eq_false_iff_ne, ne_eq, Bool.not_eq_true', Bool.not_eq_false', decide_eq_false_iff_not, decide_eq_true_iff] at *
               omega)
            | (go_roundw
               case rel =>
                 refine ⟨j + 1 + 1, by omega, by first | rfl | go_num, fun i hi => ?_, by first | rfl | trivial⟩
                 by_cases e : i = j + 1
                 · rw [e, Hx.out]
                   try rw [Hy.out]
                   try simp only [beq_iff_eq, beq_eq_false_iff_ne, ne_eq, Bool.not_eq_true', Bool.not_eq_false', decide_eq_false_iff_not, decide_eq_true_iff] at *
                   omega
                 · exact Hall.out i (by omega)
               case measure => simp [intOf] <;> omega)
      · obtain rfl : k = l.length := by omega
        have hP : PathP l := ⟨h0, by rw [Hc.out]; exact H47.out, Hall.out⟩
        have hv : pathN l = if 128 < l.length then 5 else 0 := by unfold pathN; rw [if_pos hP]
        have Hv := hide hv
        clear hv hP
        by_cases h128 : 128 < l.length
        · have h1 : (128 : Int) < (l.length : Int) := by omega
          go_wp2_with fail
          go_ret
          exact ⟨ret_int (by rw [Hv.out, if_pos h128]), rfl⟩
        · have h1 : ¬ (128 : Int) < (l.length : Int) := by omega
          go_wp2_with fail
          go_ret
          exact ⟨ret_int (by rw [Hv.out, if_neg h128]), rfl⟩
  · have q1 : ¬ (c.toNat : Int) = 47 := by omega
    have q2 : ((c.toNat : Int) != 47) = true := by simpa using q1
    have h4 : pathN l = 4 := by
      unfold pathN
      rw [if_neg]
      intro h
      have := h.2.1
      rw [hc] at this
      exact h47 this
    have H4 := hide h4
    clear h4 h47
    go_enter Tryd.func16, Tryd.ntmps16
    go_wp2_with fail
    go_ret
    exact ⟨ret_int H4.out.symm, rfl⟩
end Go.Proofs.YtdjpcdimcjjemaaDoor
