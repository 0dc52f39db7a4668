/-
  Contracts of the document's part and Host. Conditions: the text is short.
-/
import Derived.Test.YtdjpcdimcjjemaaDoorCut
namespace Go.Proofs.YtdjpcdimcjjemaaDoor
open Go.RowKit

set_option maxHeartbeats 4000000 in
theorem refPart_any (l : Bs) (w : World) (hl : l.length ≤ 1000) : Calls Tryd.prog 29 #[.string (tx l)] w fun e w' => e = .returned (.bool (decide (PartP l))) ∧ w = w' := by
  go_enter Tryd.func29, Tryd.ntmps29
  go_wp2_with fail
  go_loopw [3] (fun i wr => ∃ k : Nat, k ≤ l.length ∧ i = .int .i64 k ∧ (∀ j, j < k → okAt l j) ∧ wr = w) (fun i _ => l.length - (intOf i).toNat)
  case atStart => exact ⟨0, Nat.zero_le _, rfl, by omega, rfl⟩
  case round =>
    obtain ⟨k, hk, rfl, hall, rfl⟩ := hrel
    have Hall := hide hall
    clear hall
    by_cases hlt : k < l.length
    · obtain ⟨x, hx⟩ : ∃ x, bt l k = x := ⟨_, rfl⟩
      have Hx := hide hx
      have hok : okAt l k ↔ (plaC x ∨ (x.toNat = 45 ∧ 0 < k ∧ k + 1 < l.length)) := by rw [← hx]; exact Iff.rfl
      have Hok := hide hok
      clear hok
      go_wp2_with fail
      all_goals first
        | (go_ret
           refine ⟨ret_bool ?_, rfl⟩
           rw [eq_comm, decide_eq_false_iff_not]
           intro h
           have h0 := Hok.out.1 (h.1 k hlt)
           try simp only [Bool.not_eq_true', Bool.not_eq_false', decide_eq_false_iff_not, decide_eq_true_iff, plaC, letC] at *
           omega)
        | (go_roundw
           case rel =>
             refine ⟨k + 1, by omega, by go_num, fun j hj => ?_, by first | rfl | trivial⟩
             by_cases e : j = k
             · rw [e]
               refine Hok.out.2 ?_
               try simp only [Bool.not_eq_true', Bool.not_eq_false', decide_eq_false_iff_not, decide_eq_true_iff, plaC, letC] at *
               omega
             · exact Hall.out j (by omega)
           case measure => simp [intOf] <;> omega)
    · obtain rfl : k = l.length := by omega
      go_wp2_with fail
      all_goals
        go_ret
        refine ⟨ret_bool ?_, rfl⟩
        have hp : PartP l ↔ 0 < l.length ∧ l.length ≤ 32 := ⟨fun h => h.2, fun h => ⟨Hall.out, h⟩⟩
        rw [Bool.eq_iff_iff]
        simp only [decide_eq_true_iff, Bool.and_eq_true, Bool.false_eq_true, false_iff, hp]
        omega

theorem starL {p : Bs} : ((tx p).toList == ([42] : Bs)) = decide (p = [42]) := by
  rw [tx_list]
  by_cases h : p = [42]
  · simp [h]
  · simp [h]

set_option maxRecDepth 100000 in
set_option maxHeartbeats 4000000 in
theorem refHost_any (l : Bs) (w : World) (hl : l.length ≤ 9223372036854775807) : Calls Tryd.prog 14 #[.string (tx l)] w fun e w' => e = .returned (.int .i64 (hostN l)) ∧ Below w.heap.size w w' := by
  by_cases h0 : l.length = 0
  · obtain rfl := List.length_eq_zero_iff.1 h0
    go_enter Tryd.func14, Tryd.ntmps14
    go_wp2_with fail
    go_ret
    exact ⟨rfl, Below.refl _ _⟩
  by_cases h64 : 64 < l.length
  · have h1 : ((l.length : Int) == 0) = false := by rw [beq_eq_false_iff_ne]; omega
    have h2 : (64 : Int) < (l.length : Int) := by omega
    go_enter Tryd.func14, Tryd.ntmps14
    go_wp2_with fail
    go_ret
    exact ⟨ret_int (by rw [hostN, if_neg h0, if_pos h64]), Below.refl _ _⟩
  have h1 : ¬ (l.length : Int) = 0 := by omega
  have h2 : ¬ (64 : Int) < (l.length : Int) := by omega
  have hN : hostN l = if FormP (cut 46 l) then 0 else 4 := by rw [hostN, if_neg h0, if_neg h64]
  have HN := hide hN
  clear hN
  go_enter Tryd.func14, Tryd.ntmps14
  go_wp2_with fail
  refine (cut_any l 46 w (by omega)).mono ?_
  rintro e w1 ⟨v, rfl, ho, hb⟩
  obtain ⟨V, vc, rfl, hr⟩ := own_slice ho
  have Hr := hide hr
  have Hb := hide hb
  have Hpl := hide (cut_short 46 l)
  have hps := cut_count 46 l
  clear hr ho hb
  go_wp2_with fail
  generalize cut 46 l = ps at *
  go_loopw [16] (fun i wr => ∃ k : Nat, k ≤ ps.length ∧ i = .int .i64 k ∧ (∀ j, j < k → PartP (ps.getD j []) ∨ (ps.getD j [] = [42] ∧ j = 0 ∧ 1 < ps.length)) ∧ wr = w1) (fun i _ => ps.length - (intOf i).toNat)
  case atStart => exact ⟨0, Nat.zero_le _, rfl, by omega, rfl⟩
  case round =>
    obtain ⟨k, hk, rfl, hall, rfl⟩ := hrel
    have Hall := hide hall
    clear hall
    by_cases hlt : k < ps.length
    · obtain ⟨ad, rfl⟩ := Hr.out.isSome (by omega)
      have x0 := rd_str Hr.out k hlt
      have hpl := Hpl.out (ps.getD k []) (by simp [List.getD, hlt])
      obtain ⟨p, hp⟩ : ∃ p, ps.getD k [] = p := ⟨_, rfl⟩
      rw [hp] at x0 hpl
      have Hp := hide hp
      clear hp
      have hstep : PartP p ∨ (p = [42] ∧ k = 0 ∧ 1 < ps.length) → ∀ j, j < k + 1 → PartP (ps.getD j []) ∨ (ps.getD j [] = [42] ∧ j = 0 ∧ 1 < ps.length) := fun h j hj => by
        by_cases e : j = k
        · rw [e, Hp.out]; exact h
        · exact Hall.out j (by omega)
      have Hstep := hide hstep
      clear hstep
      go_wp2_with fail
      refine (refPart_any p wr (by omega)).mono ?_
      rintro e w2 ⟨rfl, rfl⟩
      by_cases hP : PartP p
      · have hd : decide (PartP p) = true := decide_eq_true hP
        have HS := hide (Hstep.out (.inl hP))
        clear hP
        go_wp2_with fail
        go_roundw
        case rel => exact ⟨k + 1, by omega, by go_num, HS.out, by first | rfl | trivial⟩
        case measure => simp [intOf] <;> omega
      · have hd : decide (PartP p) = false := decide_eq_false hP
        have HP := hide hP
        clear hP
        have hno : ¬ (p = [42] ∧ k = 0 ∧ 1 < ps.length) → hostN l = 4 := fun h => by
          rw [HN.out, if_neg]
          intro hF
          have h2 := hF k hlt
          rw [Hp.out] at h2
          exact h2.elim HP.out h
        have Hno := hide hno
        clear hno
        by_cases hs : p = [42]
        · subst hs
          by_cases hk0 : k = 0
          · go_wp2_with fail
            all_goals first
              | (go_ret
                 refine ⟨ret_int (Hno.out (fun h => ?_)).symm, Hb.out⟩
                 simp only [Bool.not_eq_true', decide_eq_false_iff_not] at *
                 omega)
              | (go_roundw
                 case rel =>
                   refine ⟨k + 1, by omega, by rw [hk0]; rfl, Hstep.out (.inr ⟨by first | rfl | trivial, hk0, ?_⟩), by first | rfl | trivial⟩
                   simp only [Bool.not_eq_false', decide_eq_true_iff] at *
                   omega
                 case measure => simp [intOf] <;> omega)
          · go_wp2_with fail
            go_ret
            exact ⟨ret_int (Hno.out (fun h => hk0 h.2.1)).symm, Hb.out⟩
        · have hs2 : ((tx p).toList == ([42] : Bs)) = false := by rw [starL]; simp [hs]
          go_wp2_with fail
          go_ret
          exact ⟨ret_int (Hno.out (fun h => hs h.1)).symm, Hb.out⟩
    · obtain rfl : k = ps.length := by omega
      have hF : FormP ps := Hall.out
      have hv := HN.out
      rw [if_pos hF] at hv
      go_wp2_with fail
      go_ret
      exact ⟨ret_int hv.symm, Hb.out⟩
end Go.Proofs.YtdjpcdimcjjemaaDoor
