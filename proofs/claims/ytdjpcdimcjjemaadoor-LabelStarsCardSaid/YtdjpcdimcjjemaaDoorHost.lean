/-
  Contracts of the program's part, Host. Conditions: the variable MaxLen holds a number.
-/
import Derived.Test.YtdjpcdimcjjemaaDoorRefUnder
import Derived.ScopeJumps
namespace Go.Proofs.YtdjpcdimcjjemaaDoor
open Go.RowKit

set_option maxHeartbeats 4000000 in
theorem part_any (l : Bs) (w : World) (hl : l.length ≤ 1000) : Calls Tryd.prog 27 #[.string (tx l)] w fun e w' => e = .returned (.bool (decide (PartP l))) ∧ w = w' := by
  rcases Nat.eq_zero_or_pos l.length with h0 | h0
  · obtain rfl := List.length_eq_zero_iff.1 h0
    go_enter Tryd.func27, Tryd.ntmps27
    go_wp2_with fail
    go_ret
    exact ⟨ret_bool (by decide), rfl⟩
  have hem : l.isEmpty = false := by cases l with | nil => simp at h0 | cons => rfl
  by_cases h1 : 32 < l.length
  · have hd : decide ((32 : Int) < (l.length : Int)) = true := by rw [decide_eq_true_iff]; omega
    go_enter Tryd.func27, Tryd.ntmps27
    go_wp2_with fail
    go_ret
    exact ⟨ret_bool (by rw [eq_comm, decide_eq_false_iff_not]; intro h; have := h.2.2; omega), rfl⟩
  have hd : decide ((32 : Int) < (l.length : Int)) = false := by rw [decide_eq_false_iff_not]; omega
  obtain ⟨n, hn⟩ : ∃ n, l.length = n + 1 := ⟨l.length - 1, by omega⟩
  obtain ⟨c, hc⟩ : ∃ c, bt l 0 = c := ⟨_, rfl⟩
  obtain ⟨z, hz⟩ : ∃ z, bt l n = z := ⟨_, rfl⟩
  have Hc := hide hc
  have Hz := hide hz
  by_cases hc45 : c.toNat = 45
  · go_enter Tryd.func27, Tryd.ntmps27
    go_wp2_with fail
    all_goals
      go_ret
      refine ⟨ret_bool ?_, rfl⟩
      rw [eq_comm, decide_eq_false_iff_not]
      intro h
      have := h.1 0 h0
      unfold okAt at this
      rw [show l.getD 0 0 = c from Hc.out] at this
      simp only [plaC, letC] at this
      omega
  have q1 : ¬ (c.toNat : Int) = 45 := by omega
  by_cases hz45 : z.toNat = 45
  · go_enter Tryd.func27, Tryd.ntmps27
    go_wp2_with fail
    all_goals
      go_ret
      refine ⟨ret_bool ?_, rfl⟩
      rw [eq_comm, decide_eq_false_iff_not]
      intro h
      have := h.1 n (by omega)
      unfold okAt at this
      rw [show l.getD n 0 = z from Hz.out] at this
      simp only [plaC, letC] at this
      omega
  have q2 : ¬ (z.toNat : Int) = 45 := by omega
  have Hq := hide (And.intro hc45 hz45)
  have e1 : ((c.toNat : Int) == 45) = false := by rw [beq_eq_false_iff_ne]; omega
  have e2 : ((z.toNat : Int) == 45) = false := by rw [beq_eq_false_iff_ne]; omega
  have e3 : decide ((32 : Int) < (n : Int) + 1) = false := by rw [decide_eq_false_iff_not]; omega
  go_enter Tryd.func27, Tryd.ntmps27
  go_wp2_with fail
  clear hc hz q1 q2 hc45 hz45
  go_loopw [26] (fun i wr => ∃ k : Nat, k ≤ l.length ∧ i = .int .i64 k ∧ (∀ j, j < k → plaC (bt l j) ∨ (bt l j).toNat = 45) ∧ wr = w) (fun i _ => l.length - (intOf i).toNat)
  case atStart => exact ⟨0, Nat.zero_le _, rfl, by omega, rfl⟩
  case round =>
    obtain ⟨k, hk, rfl, hall, rfl⟩ := hrel
    have Hall := hide hall
    clear hall
    by_cases hkl : k < l.length
    · obtain ⟨x, hx⟩ : ∃ x, bt l k = x := ⟨_, rfl⟩
      have Hx := hide hx
      go_wp2_with fail
      refine (plain_any x wr).mono ?_
      rintro e w1 ⟨rfl, rfl⟩
      by_cases hp : plaC x
      · have hpd : decide (plaC x) = true := decide_eq_true hp
        have Hp := hide hp
        clear hp
        go_wp2_with fail
        go_roundw
        case rel =>
          refine ⟨k + 1, by omega, by go_num, fun j hj => ?_, by first | rfl | trivial⟩
          by_cases e : j = k
          · rw [e, Hx.out]; exact .inl Hp.out
          · exact Hall.out j (by omega)
        case measure => simp [intOf] <;> omega
      · have hpd : decide (plaC x) = false := decide_eq_false hp
        have Hp := hide hp
        clear hp
        by_cases h45 : x.toNat = 45
        · have H45 := hide h45
          go_wp2_with fail
          go_roundw
          case rel =>
            refine ⟨k + 1, by omega, by go_num, fun j hj => ?_, by first | rfl | trivial⟩
            by_cases e : j = k
            · rw [e, Hx.out]; exact .inr H45.out
            · exact Hall.out j (by omega)
          case measure => simp [intOf] <;> omega
        · have Hno := hide h45
          have q45 : ¬ (x.toNat : Int) = 45 := by omega
          have p45 : ((x.toNat : Int) != 45) = true := by simpa using q45
          clear h45
          go_wp2_with fail
          go_ret
          refine ⟨ret_bool ?_, rfl⟩
          rw [eq_comm, decide_eq_false_iff_not]
          intro h
          have := h.1 k hkl
          unfold okAt at this
          rw [show l.getD k 0 = x from Hx.out] at this
          rcases this with h | h
          · exact Hp.out h
          · exact Hno.out h.1
    · obtain rfl : k = l.length := by omega
      have hP : PartP l := ⟨fun i hi => by
        rcases Hall.out i hi with h | h
        · exact .inl h
        · refine .inr ⟨h, ?_, ?_⟩
          · rcases Nat.eq_zero_or_pos i with e | e
            · exfalso
              rw [e, Hc.out] at h
              exact Hq.out.1 h
            · exact e
          · by_cases e : i = n
            · exfalso
              rw [e, Hz.out] at h
              exact Hq.out.2 h
            · omega, h0, by omega⟩
      have HP := hide hP
      clear hP
      go_wp2_with fail
      go_ret
      exact ⟨ret_bool (by rw [eq_comm, decide_eq_true_iff]; exact HP.out), rfl⟩

set_option maxRecDepth 100000 in
set_option maxHeartbeats 8000000 in
theorem host_any (l : Bs) (m : Int) (w : World) (hm : w.cell? ⟨0, 0, none⟩ = some (.int .i64 m)) (hl : l.length ≤ 9223372036854775807) : Calls Tryd.prog 13 #[.string (tx l)] w fun e w' => e = .returned (.int .i64 (hostN l)) ∧ Below w.heap.size w w' := by
  go_enter Tryd.func13, Tryd.ntmps13
  go_wp2_with fail
  refine wp_scope_jumps 0 (fun a' w' => ∃ (u0 u1 u2 u3 u4 u5 u6 u7 u8 u9 u10 u11 u12 u13 u14 u15 u16 u17 u18 u19 u20 u21 u22 u23 u24 u25 u26 u27 u28 u29 u30 u31 u32 u33 : Value), a' = { tmps := #[u0, u1, u2, u3, u4, u5, u6, u7, u8, u9, u10, u11, u12, u13, u14, u15, u16, u17, u18, u19, u20, u21, u22, u23, u24, u25, u26, u27, u28, u29, u30, u31, u32, u33], defers := [] } ∧ hostN l = 4 ∧ Below w.heap.size w w') (fun _ _ => 0) rfl ?_ ?_
  rotate_left
  · skip
    rintro a' w' ⟨u0, u1, u2, u3, u4, u5, u6, u7, u8, u9, u10, u11, u12, u13, u14, u15, u16, u17, u18, u19, u20, u21, u22, u23, u24, u25, u26, u27, u28, u29, u30, u31, u32, u33, rfl, h4, hb⟩
    go_wp2_with fail
    simp only [Exit.jump]
    show bodyPost Tryd.prog Tryd.f13 _ .ret _ _
    go_ret
    exact ⟨ret_int h4.symm, hb⟩
  · by_cases h0 : l.length = 0
    · obtain rfl := List.length_eq_zero_iff.1 h0
      go_wp2_with fail
      simp only [Exit.jump]
      show bodyPost Tryd.prog Tryd.f13 _ .ret _ _
      go_ret
      exact ⟨rfl, Below.refl _ _⟩
    have hem : l.isEmpty = false := by cases l with | nil => simp at h0 | cons => rfl
    by_cases h64 : 64 < l.length
    · have h2 : (64 : Int) < (l.length : Int) := by omega
      go_wp2_with fail
      simp only [Exit.jump]
      show bodyPost Tryd.prog Tryd.f13 _ .ret _ _
      go_ret
      exact ⟨ret_int (by rw [hostN, if_neg h0, if_pos h64]), Below.refl _ _⟩
    have h2 : ¬ (64 : Int) < (l.length : Int) := by omega
    have HN := hide (show hostN l = if FormP (cut 46 l) then 0 else 4 by rw [hostN, if_neg h0, if_neg h64])
    have hcn := cut_count 46 l
    have hcp := cut_pos 46 l
    have Hpl0 := hide (cut_short 46 l)
    have Ho := hide (own_split w (cut 46 l) (by omega))
    have HB := hide ((Below.refl w.heap.size w).alloc (Nat.le_refl _) (.cells (strs (cut 46 l)).toArray 9))
    go_wp2_with fail
    refine (split_any l 46 m w hm (by omega)).mono ?_
    rintro e w1 ⟨rfl, rfl⟩
    have Hr := hide (Rd.of_own Ho.out)
    generalize hW1 : w.alloc (.cells (strs (cut 46 l)).toArray 9) = W1 at *
    clear hW1 Ho hm
    generalize cut 46 l = ps at *
    have x0 := rd_str Hr.out 0 hcp
    simp only [Addr.add_lit, Nat.add_zero] at x0
    obtain ⟨p0, hp0⟩ : ∃ p, ps.getD 0 [] = p := ⟨_, rfl⟩
    rw [hp0] at x0
    have Hp0 := hide hp0
    clear hp0
    by_cases hs : p0 = [42] ∧ 1 < ps.length
    · obtain ⟨rfl, h1⟩ := hs
      obtain ⟨qs, hqs⟩ : ∃ qs, ps.drop 1 = qs := ⟨_, rfl⟩
      have hql : qs.length + 1 = ps.length := by rw [← hqs]; simp; omega
      have hqat : ∀ j, qs.getD j [] = ps.getD (j + 1) [] := fun j => by rw [← hqs]; simp [List.getD, Nat.add_comm]
      have hq := Hr.out.from_ (k := 1) (by omega)
      rw [if_neg (by omega), Nat.mul_one, show (strs ps).drop 1 = strs qs by rw [← hqs]; simp [strs, List.map_drop]] at hq
      have Hpl := hide (show ∀ p ∈ qs, p.length ≤ l.length from fun p hp => Hpl0.out p (by rw [← hqs] at hp; exact List.mem_of_mem_drop hp))
      have Hgood := hide (show (∀ j, j < qs.length → PartP (qs.getD j [])) → hostN l = 0 from fun h => by
        rw [HN.out, if_pos]
        intro i hi
        cases i with
        | zero => exact .inr ⟨Hp0.out, rfl, h1⟩
        | succ i => left; rw [← hqat]; exact h i (by omega))
      have Hbad := hide (show ∀ j, j < qs.length → ¬ PartP (qs.getD j []) → hostN l = 4 from fun j hj h => by
        rw [HN.out, if_neg]
        intro hF
        rcases hF (j + 1) (by omega) with h' | h'
        · rw [← hqat] at h'; exact h h'
        · omega)
      have hi1 : (1 : Int) < (ps.length : Int) := by omega
      have hne1 : ¬ ps.length = 1 := by omega
      have hsub : ps.length - 1 = qs.length := by omega
      rw [hsub, show Option.map (fun x : Addr => x.add 1) (some ⟨w.heap.size, 0, none⟩) = some ⟨w.heap.size, 1, none⟩ by simp only [Option.map_some, Addr.add_lit, Nat.zero_add]] at hq
      have Hq := hide hq
      clear hq hqat hqs
      go_wp2_with fail
      go_loopw [26] (fun i wr => ∃ k : Nat, k ≤ qs.length ∧ i = .int .i64 k ∧ (∀ j, j < k → PartP (qs.getD j [])) ∧ wr = W1) (fun i _ => qs.length - (intOf i).toNat)
      case atStart => exact ⟨0, Nat.zero_le _, rfl, by omega, rfl⟩
      case round =>
        obtain ⟨k, hk, rfl, hall, rfl⟩ := hrel
        have Hall := hide hall
        clear hall
        by_cases hlt : k < qs.length
        · have x0 := rd_str Hq.out k hlt
          simp only [Addr.add_lit, Nat.zero_add] at x0
          have hpl := Hpl.out (qs.getD k []) (by simp [List.getD, hlt])
          obtain ⟨p, hp⟩ : ∃ p, qs.getD k [] = p := ⟨_, rfl⟩
          rw [hp] at x0 hpl
          have Hp := hide hp
          clear hp
          go_wp2_with fail
          refine (part_any p wr (by omega)).mono ?_
          rintro e w2 ⟨rfl, rfl⟩
          by_cases hP : PartP p
          · have hd : decide (PartP p) = true := decide_eq_true hP
            have HP := hide hP
            clear hP
            go_wp2_with fail
            go_roundw
            case rel =>
              refine ⟨k + 1, by omega, by go_num, fun j hj => ?_, by first | rfl | trivial⟩
              by_cases e : j = k
              · rw [e, Hp.out]; exact HP.out
              · exact Hall.out j (by omega)
            case measure => simp [intOf] <;> omega
          · have hd : decide (PartP p) = false := decide_eq_false hP
            have h4 := Hbad.out k hlt (by rw [Hp.out]; exact hP)
            have H4 := hide h4
            clear hP h4
            go_wp2_with fail
            refine wp_goto ?_
            exact ⟨rfl, ⟨_, _, _, _, _, _, _, _, _, _, _, _, _, _, _, _, _, _, _, _, _, _, _, _, _, _, _, _, _, _, _, _, _, _, rfl, H4.out, HB.out⟩⟩
        · obtain rfl : k = qs.length := by omega
          have h0 := Hgood.out Hall.out
          have H0 := hide h0
          clear h0
          go_wp2_with fail
          simp only [Exit.jump]
          show bodyPost Tryd.prog Tryd.f13 _ .ret _ _
          go_ret
          exact ⟨ret_int H0.out.symm, HB.out⟩
    · have Hgood := hide (show (∀ j, j < ps.length → PartP (ps.getD j [])) → hostN l = 0 from fun h => by
        rw [HN.out, if_pos]
        intro i hi
        exact .inl (h i hi))
      have Hbad := hide (show ∀ j, j < ps.length → ¬ PartP (ps.getD j []) → hostN l = 4 from fun j hj h => by
        rw [HN.out, if_neg]
        intro hF
        rcases hF j hj with h' | h'
        · exact h h'
        · exact hs ⟨by rw [← Hp0.out, ← h'.2.1]; exact h'.1, h'.2.2⟩)
      have Hq := Hr
      have Hpl := Hpl0
      have Hs := hide hs
      by_cases hp42 : p0 = [42]
      · have h1 : ¬ (1 : Int) < (ps.length : Int) := by
          intro h
          exact hs ⟨hp42, by omega⟩
        subst hp42
        clear hs
        go_wp2_with fail
        generalize ps = qs at *
        go_loopw [26] (fun i wr => ∃ k : Nat, k ≤ qs.length ∧ i = .int .i64 k ∧ (∀ j, j < k → PartP (qs.getD j [])) ∧ wr = W1) (fun i _ => qs.length - (intOf i).toNat)
        case atStart => exact ⟨0, Nat.zero_le _, rfl, by omega, rfl⟩
        case round =>
          obtain ⟨k, hk, rfl, hall, rfl⟩ := hrel
          have Hall := hide hall
          clear hall
          by_cases hlt : k < qs.length
          · have x0 := rd_str Hq.out k hlt
            simp only [Addr.add_lit, Nat.zero_add] at x0
            have hpl := Hpl.out (qs.getD k []) (by simp [List.getD, hlt])
            obtain ⟨p, hp⟩ : ∃ p, qs.getD k [] = p := ⟨_, rfl⟩
            rw [hp] at x0 hpl
            have Hp := hide hp
            clear hp
            go_wp2_with fail
            refine (part_any p wr (by omega)).mono ?_
            rintro e w2 ⟨rfl, rfl⟩
            by_cases hP : PartP p
            · have hd : decide (PartP p) = true := decide_eq_true hP
              have HP := hide hP
              clear hP
              go_wp2_with fail
              go_roundw
              case rel =>
                refine ⟨k + 1, by omega, by go_num, fun j hj => ?_, by first | rfl | trivial⟩
                by_cases e : j = k
                · rw [e, Hp.out]; exact HP.out
                · exact Hall.out j (by omega)
              case measure => simp [intOf] <;> omega
            · have hd : decide (PartP p) = false := decide_eq_false hP
              have h4 := Hbad.out k hlt (by rw [Hp.out]; exact hP)
              have H4 := hide h4
              clear hP h4
              go_wp2_with fail
              refine wp_goto ?_
              exact ⟨rfl, ⟨_, _, _, _, _, _, _, _, _, _, _, _, _, _, _, _, _, _, _, _, _, _, _, _, _, _, _, _, _, _, _, _, _, _, rfl, H4.out, HB.out⟩⟩
          · obtain rfl : k = qs.length := by omega
            have h0 := Hgood.out Hall.out
            have H0 := hide h0
            clear h0
            go_wp2_with fail
            simp only [Exit.jump]
            show bodyPost Tryd.prog Tryd.f13 _ .ret _ _
            go_ret
            exact ⟨ret_int H0.out.symm, HB.out⟩
      · have hs2 : ((tx p0).toList == ([42] : Bs)) = false := by rw [starL]; simp [hp42]
        clear hs
        go_wp2_with fail
        generalize ps = qs at *
        go_loopw [26] (fun i wr => ∃ k : Nat, k ≤ qs.length ∧ i = .int .i64 k ∧ (∀ j, j < k → PartP (qs.getD j [])) ∧ wr = W1) (fun i _ => qs.length - (intOf i).toNat)
        case atStart => exact ⟨0, Nat.zero_le _, rfl, by omega, rfl⟩
        case round =>
          obtain ⟨k, hk, rfl, hall, rfl⟩ := hrel
          have Hall := hide hall
          clear hall
          by_cases hlt : k < qs.length
          · have x0 := rd_str Hq.out k hlt
            simp only [Addr.add_lit, Nat.zero_add] at x0
            have hpl := Hpl.out (qs.getD k []) (by simp [List.getD, hlt])
            obtain ⟨p, hp⟩ : ∃ p, qs.getD k [] = p := ⟨_, rfl⟩
            rw [hp] at x0 hpl
            have Hp := hide hp
            clear hp
            go_wp2_with fail
            refine (part_any p wr (by omega)).mono ?_
            rintro e w2 ⟨rfl, rfl⟩
            by_cases hP : PartP p
            · have hd : decide (PartP p) = true := decide_eq_true hP
              have HP := hide hP
              clear hP
              go_wp2_with fail
              go_roundw
              case rel =>
                refine ⟨k + 1, by omega, by go_num, fun j hj => ?_, by first | rfl | trivial⟩
                by_cases e : j = k
                · rw [e, Hp.out]; exact HP.out
                · exact Hall.out j (by omega)
              case measure => simp [intOf] <;> omega
            · have hd : decide (PartP p) = false := decide_eq_false hP
              have h4 := Hbad.out k hlt (by rw [Hp.out]; exact hP)
              have H4 := hide h4
              clear hP h4
              go_wp2_with fail
              refine wp_goto ?_
              exact ⟨rfl, ⟨_, _, _, _, _, _, _, _, _, _, _, _, _, _, _, _, _, _, _, _, _, _, _, _, _, _, _, _, _, _, _, _, _, _, rfl, H4.out, HB.out⟩⟩
          · obtain rfl : k = qs.length := by omega
            have h0 := Hgood.out Hall.out
            have H0 := hide h0
            clear h0
            go_wp2_with fail
            simp only [Exit.jump]
            show bodyPost Tryd.prog Tryd.f13 _ .ret _ _
            go_ret
            exact ⟨ret_int H0.out.symm, HB.out⟩
end Go.Proofs.YtdjpcdimcjjemaaDoor
