/-
  Contract of the document's Under, Name. Conditions: the text is short.
-/
import Derived.Test.YtdjpcdimcjjemaaDoorParts
namespace Go.Proofs.YtdjpcdimcjjemaaDoor
open Go.RowKit

theorem prefix_at {xs ys : List Bs} : xs <+: ys ↔ xs.length ≤ ys.length ∧ ∀ j, j < xs.length → xs.getD j [] = ys.getD j [] := by
  constructor
  · intro h
    refine ⟨h.length_le, fun j hj => ?_⟩
    obtain ⟨t, rfl⟩ := h
    simp only [List.getD, List.getElem?_append_left hj]
  · rintro ⟨h1, h2⟩
    rw [List.prefix_iff_eq_take]
    refine List.ext_getElem (by rw [List.length_take]; omega) fun i hi1 hi2 => ?_
    have := h2 i hi1
    simp [List.getD, hi1, show i < ys.length by omega] at this
    rw [this, List.getElem_take]

set_option maxRecDepth 100000 in
set_option maxHeartbeats 4000000 in
theorem refUnder_any (a b : Bs) (w : World) (ha : a.length ≤ 1000) (hb : b.length ≤ 1000) :
    Calls Tryd.prog 21 #[.string (tx a), .string (tx b)] w fun e w' => e = .returned (.bool (und a b)) ∧ Below w.heap.size w w' := by
  go_enter Tryd.func21, Tryd.ntmps21
  go_wp2_with fail
  refine (refParts_any a w ha).mono ?_
  rintro e w1 ⟨V, vc, rfl, ho1, hb1⟩
  have HB1 := hide hb1
  have Hr1 := hide (Rd.of_own ho1)
  clear ho1 hb1
  go_wp2_with fail
  refine (refParts_any b w1 hb).mono ?_
  rintro e w2 ⟨U, uc, rfl, ho2, hb2⟩
  have HB2 := hide (HB1.out.trans (hb2.mono HB1.out.size))
  have Hr2 := hide (Hr1.out.below hb2)
  have Hs2 := hide (Rd.of_own ho2)
  clear ho2 hb2 HB1 Hr1
  have hv : und a b = true ↔ parts a <+: parts b := decide_eq_true_iff
  rw [prefix_at] at hv
  have Hv := hide hv
  clear hv
  have lpa := parts_len a
  have lpb := parts_len b
  generalize parts a = xs at *
  generalize parts b = ys at *
  by_cases hle : xs.length ≤ ys.length
  · have hd : decide ((ys.length : Int) < (xs.length : Int)) = false := by rw [decide_eq_false_iff_not]; omega
    go_wp2_with fail
    obtain ⟨wo, ewo⟩ : ∃ wo : World, wo = w2 := ⟨_, rfl⟩
    subst ewo
    go_loopw [19] (fun i wr => ∃ k q : Nat, k ≤ xs.length ∧ i = .int .i64 k ∧ (∀ j, j < k → xs.getD j [] = ys.getD j []) ∧ wr = wo.drewN q) (fun i _ => xs.length - (intOf i).toNat)
    case atStart => exact ⟨0, 0, by omega, rfl, by omega, rfl⟩
    case round =>
      obtain ⟨k, q, hk, rfl, hall, rfl⟩ := hrel
      have Hall := hide hall
      clear hall
      by_cases hlt : k < xs.length
      · obtain ⟨⟨b1, o1, s1⟩, rfl⟩ := Hr2.out.isSome (by omega)
        obtain ⟨⟨b2, o2, s2⟩, rfl⟩ := Hs2.out.isSome (by omega)
        obtain rfl : s1 = none := Hr2.out.spot (by intro e; have := congrArg List.length e; simp at this; rw [this] at hlt; simp at hlt)
        obtain rfl : s2 = none := Hs2.out.spot (by intro e; have := congrArg List.length e; simp at this; rw [this] at hle; simp at hle; rw [hle] at hlt; simp at hlt)
        have a0 := rd_str Hr2.out k hlt
        have b0 := rd_str Hs2.out k (by omega)
        simp only [Addr.add_lit] at a0 b0
        obtain ⟨x, hx⟩ : ∃ x, xs.getD k [] = x := ⟨_, rfl⟩
        obtain ⟨y, hy⟩ : ∃ y, ys.getD k [] = y := ⟨_, rfl⟩
        rw [hx] at a0
        rw [hy] at b0
        have Hx := hide hx
        have Hy := hide hy
        clear hx hy
        cases hxy : (x == y) with
        | true =>
          go_wp2_with fail
          go_quiet (fail)
          go_wp2_with fail
          go_roundw
          case rel =>
            refine ⟨k + 1, q + nq, by omega, by go_num, fun j hj => ?_, by first | rfl | exact World.drewN_drewN _ _ _ | simp⟩
            by_cases e : j = k
            · rw [e, Hx.out, Hy.out]; simpa using hxy
            · exact Hall.out j (by omega)
          case measure => simp [intOf] <;> omega
        | false =>
          have hv : und a b = false := by
            cases hc : und a b with
            | false => rfl
            | true =>
              have := (Hv.out.1 hc).2 k hlt
              rw [Hx.out, Hy.out] at this
              rw [this] at hxy
              simp at hxy
          have Hf := hide hv
          clear hv
          go_wp2_with fail
          go_quiet (fail)
          go_wp2_with fail
          go_ret
          exact ⟨ret_bool Hf.out.symm, (HB2.out.trans (below_drewN _ _ _)).trans (below_drewN _ _ _)⟩
      · obtain rfl : k = xs.length := by omega
        have hv : und a b = true := Hv.out.2 ⟨hle, Hall.out⟩
        have Hf := hide hv
        clear hv
        go_wp2_with fail
        go_ret
        exact ⟨ret_bool Hf.out.symm, HB2.out.trans (below_drewN _ _ _)⟩
  · have hd : decide ((ys.length : Int) < (xs.length : Int)) = true := by rw [decide_eq_true_iff]; omega
    have hv : und a b = false := by
      cases hc : und a b with
      | false => rfl
      | true => exact absurd (Hv.out.1 hc).1 hle
    have Hf := hide hv
    clear hv
    go_wp2_with fail
    go_ret
    exact ⟨ret_bool Hf.out.symm, HB2.out⟩

set_option maxHeartbeats 4000000 in
theorem refName_any (l : Bs) (w : World) (hl : l.length ≤ 1000) : Calls Tryd.prog 12 #[.string (tx l)] w fun e w' => e = .returned (.bool (decide (NameP l))) ∧ w = w' := by
  go_enter Tryd.func12, Tryd.ntmps12
  go_wp2_with fail
  go_loopw [3] (fun i wr => ∃ k : Nat, k ≤ l.length ∧ i = .int .i64 k ∧ (∀ j, j < k → letC (bt l j) ∨ (0 < j ∧ (plaC (bt l j) ∨ (bt l j).toNat = 45 ∨ (bt l j).toNat = 95))) ∧ wr = w) (fun i _ => l.length - (intOf i).toNat)
  case atStart => exact ⟨0, Nat.zero_le _, rfl, by omega, rfl⟩
  case round =>
    obtain ⟨k, hk, rfl, hall, rfl⟩ := hrel
    have Hall := hide hall
    clear hall
    by_cases hlt : k < l.length
    · obtain ⟨x, hx⟩ : ∃ x, bt l k = x := ⟨_, rfl⟩
      have Hx := hide hx
      have hno : NameP l → letC x ∨ (0 < k ∧ (plaC x ∨ x.toNat = 45 ∨ x.toNat = 95)) := fun h => by
        by_cases e : k = 0
        · left
          rw [← hx, e]
          exact h.2.2.1
        · right
          exact ⟨by omega, by rw [← hx]; exact h.2.2.2 k hlt⟩
      have Hno := hide hno
      clear hno
      go_wp2_with fail
      all_goals first
        | (go_ret
           refine ⟨ret_bool ?_, rfl⟩
           rw [eq_comm, decide_eq_false_iff_not]
           intro h
           have h0 := Hno.out h
           try simp only [Bool.not_eq_true', Bool.not_eq_false', decide_eq_false_iff_not, decide_eq_true_iff, beq_iff_eq, beq_eq_false_iff_ne, ne_eq, plaC, letC] at *
           omega)
        | (exfalso
           try simp only [Bool.not_eq_true', Bool.not_eq_false', decide_eq_false_iff_not, decide_eq_true_iff, beq_iff_eq, beq_eq_false_iff_ne, ne_eq, plaC, letC] at *
           omega)
        | (go_roundw
           case rel =>
             refine ⟨k + 1, by omega, by go_num, fun j hj => ?_, by first | rfl | trivial⟩
             by_cases e : j = k
             · rw [e, Hx.out]
               try simp only [Bool.not_eq_true', Bool.not_eq_false', decide_eq_false_iff_not, decide_eq_true_iff, beq_iff_eq, beq_eq_false_iff_ne, ne_eq, plaC, letC] at *
               omega
             · exact Hall.out j (by omega)
           case measure => simp [intOf] <;> omega)
    · obtain rfl : k = l.length := by omega
      have hp : NameP l ↔ 0 < l.length ∧ l.length ≤ 32 := ⟨fun h => ⟨h.1, h.2.1⟩, fun h => ⟨h.1, h.2, by
        have := Hall.out 0 h.1
        rcases this with h | h
        · exact h
        · omega, fun i hi => by
        have := Hall.out i hi
        rcases this with h | h
        · exact .inl (.inl h)
        · exact h.2⟩⟩
      have Hp := hide hp
      clear hp
      go_wp2_with fail
      all_goals
        go_ret
        refine ⟨ret_bool ?_, rfl⟩
        rw [Bool.eq_iff_iff]
        simp only [decide_eq_true_iff, Bool.and_eq_true, Bool.false_eq_true, false_iff, Hp.out]
        omega
end Go.Proofs.YtdjpcdimcjjemaaDoor
