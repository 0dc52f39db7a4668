/-
  Contracts of slices.IndexFunc and slices.DeleteFunc over texts, with the test of Parts; Parts. Conditions: the slices can be read, and are short.
-/
import Derived.Test.YtdjpcdimcjjemaaDoorSplitD
namespace Go.Proofs.YtdjpcdimcjjemaaDoor
open Go.RowKit

/-- The test, as a value. -/
abbrev testV : Value := .func (.func 26) #[] #[]
theorem txEmp (p : Bs) : ((tx p).toList == ([] : Bs)) = p.isEmpty := by
  rw [tx_list]
  cases p <;> rfl

set_option maxHeartbeats 400000 in
theorem test_any (p : Bs) (w : World) (b : Bool) (hb : p.isEmpty = b) :
    Calls Tryd.prog 26 #[.string (tx p)] w fun e w' => e = .returned (.bool b) ∧ w = w' := by
  go_enter Tryd.func26, Tryd.ntmps26
  go_wp2
  go_ret
  exact ⟨by first | rfl | simp [hb], rfl⟩

/-- Where the first empty one is. -/
def IdxE (zs : List Bs) (i : Int) : Prop := (∃ k : Nat, i = k ∧ k < zs.length ∧ (zs.getD k []).isEmpty = true ∧ ∀ j, j < k → (zs.getD j []).isEmpty = false) ∨ (i = -1 ∧ ∀ j, j < zs.length → (zs.getD j []).isEmpty = false)

set_option maxHeartbeats 1000000 in
theorem indexFunc_any (A : Option Addr) (n c : Nat) (zs : List Bs) (i : Int) (w : World) (hr : Rd w 1 A n c (strs zs)) (hn : n ≤ 65536) (hi : IdxE zs i) :
    Calls Tryd.prog 34 #[.slice A n c, testV] w fun e w' => e = .returned (.int .i64 i) ∧ w = w' := by
  have hl := rd_strLen hr
  have Hr := hide hr; clear hr
  have Hl := hide hl; clear hl
  have Hi := hide hi; clear hi
  go_enter Tryd.func34, Tryd.ntmps34
  go_wp2_with fail
  go_loopw [8] (fun i wr => ∃ k : Nat, k ≤ n ∧ i = .int .i64 k ∧ (∀ j, j < k → (zs.getD j []).isEmpty = false) ∧ w = wr) (fun i _ => n - (intOf i).toNat)
  case atStart => exact ⟨0, Nat.zero_le _, rfl, by omega, rfl⟩
  case round =>
    obtain ⟨k, hk, rfl, hb, rfl⟩ := hrel
    have Hb := hide hb; clear hb
    by_cases hlt : k < n
    · obtain ⟨ad, rfl⟩ := Hr.out.isSome (by omega)
      have hkl : k < zs.length := by rw [Hl.out]; exact hlt
      have hcell := rd_str Hr.out k hkl
      obtain ⟨y, hy⟩ : ∃ y, zs.getD k [] = y := ⟨_, rfl⟩
      rw [hy] at hcell
      have Hy := hide hy
      have Hkl := hide hkl
      clear hy hkl
      cases he : y.isEmpty with
      | true =>
        have He := hide he
        clear he
        go_wp2_with fail
        refine (test_any y _ true He.out).mono ?_
        rintro e w1 ⟨rfl, rfl⟩
        go_wp2_with fail
        go_ret
        refine ⟨ret_int ?_, rfl⟩
        rcases Hi.out with ⟨q, rfl, h1, h2, h3⟩ | ⟨_, h3⟩
        · by_cases e1 : k < q
          · have := h3 k e1
            rw [Hy.out, He.out] at this
            cases this
          · by_cases e2 : q < k
            · have := Hb.out q e2
              rw [h2] at this
              cases this
            · omega
        · have := h3 k Hkl.out
          rw [Hy.out, He.out] at this
          cases this
      | false =>
        have He := hide he
        clear he
        go_wp2_with fail
        refine (test_any y _ false He.out).mono ?_
        rintro e w1 ⟨rfl, rfl⟩
        go_wp2_with fail
        go_roundw
        case rel =>
          refine ⟨k + 1, by omega, by go_num, fun j hj => ?_, by first | rfl | trivial⟩
          by_cases e : j = k
          · subst e
            rw [Hy.out]
            exact He.out
          · exact Hb.out j (by omega)
        case measure => simp [intOf] <;> omega
    · go_wp2_with fail
      go_ret
      refine ⟨ret_int ?_, rfl⟩
      rcases Hi.out with ⟨q, rfl, h1, h2, h3⟩ | ⟨h, _⟩
      · have := Hb.out q (by rw [Hl.out] at h1; omega)
        rw [h2] at this
        cases this
      · exact h.symm

/-- Those that are kept of the first j. -/
def keepS (zs : List Bs) (j : Nat) : List Bs := (zs.take j).filter (fun p => !p.isEmpty)
theorem keepS_succ (zs : List Bs) (j : Nat) (hj : j < zs.length) : keepS zs (j + 1) = keepS zs j ++ if (zs.getD j []).isEmpty = true then [] else [zs.getD j []] := by
  unfold keepS
  rw [List.take_succ_eq_append_getElem hj, List.filter_append]
  congr 1
  have e : zs.getD j [] = zs[j] := by simp [List.getD, hj]
  rw [e]
  cases h : zs[j].isEmpty <;> simp [List.filter, h]
theorem keepS_len (zs : List Bs) (j : Nat) : (keepS zs j).length ≤ j := by
  unfold keepS
  exact Nat.le_trans (List.length_filter_le _ _) (by rw [List.length_take]; exact Nat.min_le_left _ _)
/-- The row while it is being cut: what is kept, then what stood there. -/
def rowS (zs : List Bs) (j : Nat) : List Bs := keepS zs j ++ zs.drop (keepS zs j).length
theorem rowS_len (zs : List Bs) (j : Nat) (hj : j ≤ zs.length) : (rowS zs j).length = zs.length := by
  have := keepS_len zs j
  simp only [rowS, List.length_append, List.length_drop]
  omega
theorem rowS_at (zs : List Bs) (j : Nat) : (rowS zs j).getD j [] = zs.getD j [] := by
  have := keepS_len zs j
  simp only [rowS, List.getD]
  rw [List.getElem?_append_right this, List.getElem?_drop]
  rw [show (keepS zs j).length + (j - (keepS zs j).length) = j by omega]
theorem rowS_skip (zs : List Bs) (j : Nat) (hj : j < zs.length) (h : (zs.getD j []).isEmpty = true) : rowS zs (j + 1) = rowS zs j := by
  have := keepS_succ zs j hj
  rw [if_pos h, List.append_nil] at this
  simp only [rowS, this]
theorem rowS_take (zs : List Bs) (j : Nat) (hj : j < zs.length) (h : (zs.getD j []).isEmpty = false) : rowS zs (j + 1) = (rowS zs j).set (keepS zs j).length (zs.getD j []) := by
  have hk := keepS_succ zs j hj
  rw [if_neg (by rw [h]; simp)] at hk
  have hl := keepS_len zs j
  simp only [rowS, hk, List.length_append, List.length_singleton]
  rw [List.set_append_right _ _ (Nat.le_refl _), Nat.sub_self, List.append_assoc]
  congr 1
  have hd : zs.drop (keepS zs j).length = zs[(keepS zs j).length]'(by omega) :: zs.drop ((keepS zs j).length + 1) := List.drop_eq_getElem_cons (by omega)
  rw [hd, List.set_cons_zero]
  rfl
theorem strs_at (ps : List Bs) (k : Nat) (p : Bs) : strs (ps.set k p) = (strs ps).set k (.string (tx p)) := by simp [strs, List.map_set]

set_option maxRecDepth 100000 in
set_option maxHeartbeats 4000000 in
theorem deleteFunc_own (g n cap base i : Nat) (zs : List Bs) (w : World) (hn : n ≤ 65536) (ho : w.ownsRow base 9 1 (.slice (some ⟨g, 0, none⟩) n cap) n (strs zs)) (lf : List Bs) (hlf : zs.filter (fun p => !p.isEmpty) = lf)
    (hf : IdxE zs (i : Int)) (hi : i < n) (hfl : keepS zs (i + 1) = zs.take i) :
    Calls Tryd.prog 24 #[.slice (some ⟨g, 0, none⟩) n cap, testV] w fun e w' => e = .returned (.slice (some ⟨g, 0, none⟩) lf.length cap) ∧ w'.ownsRow base 9 1 (.slice (some ⟨g, 0, none⟩) lf.length cap) lf.length (strs lf) ∧ w.grownBy w' (some g) := by
  obtain ⟨i0, hi0, hz0, hz1, hz2⟩ := info_parts Tryd.info9
  have hr := Rd.of_own ho
  have hl := rd_strLen hr
  have hcap := hr.le
  have hm := hr.max
  unfold maxLen at hm
  have Hr := hide hr
  have Ho := hide ho
  have Hl := hide hl
  have Hlf := hide hlf
  have hone : ∀ u ∈ (Value.string ByteArray.empty).cells, u.oneCell' = true := by simp [Value.cells, Value.oneCell']
  have Hone := hide hone
  have Hf := hide (indexFunc_any _ _ _ zs (i : Int) w Hr.out hn hf)
  have hk1 : (keepS zs (i + 1)).length = i := by rw [hfl, List.length_take]; omega
  have hrow : rowS zs (i + 1) = zs := by
    simp only [rowS, hfl]
    rw [List.length_take, Nat.min_eq_left (by omega), List.take_append_drop]
  have Hk1 := hide hk1
  have Hrow := hide hrow
  have hne : ((i : Int) == -1) = false := by rw [beq_eq_false_iff_ne]; omega
  clear hr ho hl hlf hone hf hfl hk1 hrow
  go_enter Tryd.func24, Tryd.ntmps24
  go_wp2_with fail
  refine (Hf.out).mono ?_
  rintro e w1 ⟨rfl, rfl⟩
  clear Hf
  go_wp2_with fail
  go_loopw [5, 6] (fun a b wr => ∃ j : Nat, i + 1 ≤ j ∧ j ≤ n ∧ b = .int .i64 j ∧ a = .int .i64 (keepS zs j).length ∧ (keepS zs j).length + 1 ≤ j ∧
      wr.ownsRow base 9 1 (.slice (some ⟨g, 0, none⟩) n cap) n (strs (rowS zs j)) ∧ w.grownBy wr (some g)) (fun _ b _ => n - (intOf b).toNat)
  case atStart => exact ⟨i + 1, Nat.le_refl _, by omega, by go_num, by rw [Hk1.out], by rw [Hk1.out]; omega, by rw [Hrow.out]; exact Ho.out, World.grownBy.refl _ _⟩
  case round =>
    clear Ho Hk1 Hrow
    obtain ⟨j, hj1, hj, rfl, rfl, hkl, ho, hg⟩ := hrel
    have Ho := hide ho
    have Hg := hide hg
    clear ho hg
    obtain ⟨q, hq⟩ : ∃ q, (keepS zs j).length = q := ⟨_, rfl⟩
    rw [hq] at hkl
    rw [hq]
    have Hq := hide hq
    clear hq
    by_cases hlt : j < n
    · have hjl : j < zs.length := by rw [Hl.out]; exact hlt
      obtain ⟨y, hy⟩ : ∃ y, zs.getD j [] = y := ⟨_, rfl⟩
      have hrl := rowS_len zs j (by omega)
      have x0 : wr.cell? ((⟨g, 0, none⟩ : Addr).add j) = some (.string (tx y)) := by
        rw [← hy, ← rowS_at zs j]
        exact rd_str (Rd.of_own Ho.out) j (by rw [hrl]; exact hjl)
      have y0 := rd_str (Rd.of_own Ho.out) q (by rw [hrl]; omega)
      simp only [Addr.add_lit, Nat.zero_add] at x0 y0
      have z0 := Ho.out.frozenAt q
      have Hy := hide hy
      have Hjl := hide hjl
      clear hy hrl hjl
      cases he : y.isEmpty with
      | true =>
        have He := hide he
        clear he y0 z0
        go_wp2_with fail
        refine (test_any y _ true He.out).mono ?_
        rintro e w2 ⟨rfl, rfl⟩
        go_wp2_with fail
        go_roundw
        case rel =>
          have h := keepS_succ zs j Hjl.out
          have h9 := He.out
          rw [if_pos (by rw [Hy.out]; exact h9), List.append_nil] at h
          refine ⟨j + 1, by omega, by omega, by go_num, ?_, by rw [h, Hq.out]; omega, ?_, Hg.out⟩
          · rw [h, Hq.out]
          · rw [rowS_skip zs j Hjl.out (by rw [Hy.out]; exact He.out)]
            exact Ho.out
        case measure => simp [intOf]; omega
      | false =>
        have He := hide he
        clear he
        have hq0 : (0 : Int) ≤ (q : Int) := by omega
        have hq1 : (q : Int) < (n : Int) := by omega
        go_wp2_with fail
        refine (test_any y _ false He.out).mono ?_
        rintro e w2 ⟨rfl, rfl⟩
        go_wp2_with fail
        have h3 := Ho.out.stored q (.string (tx y))
        have Ho4 := hide h3.1
        have Hg4 := hide (Hg.out.trans h3.2)
        clear h3
        go_roundw
        case rel =>
          have h := keepS_succ zs j Hjl.out
          have h9 := He.out
          rw [if_neg (by rw [Hy.out, h9]; simp)] at h
          refine ⟨j + 1, by omega, by omega, by go_num, ?_, by rw [h, List.length_append, Hq.out, List.length_singleton]; omega, ?_, Hg4.out⟩
          · rw [h, List.length_append, Hq.out]
            go_num
          · rw [rowS_take zs j Hjl.out (by rw [Hy.out]; exact He.out), Hq.out, Hy.out]
            have h5 : strs ((rowS zs j).set q y) = (strs (rowS zs j)).set q (.string (tx y)) := by exact strs_at _ _ _
            rw [h5]
            exact Ho4.out
        case measure => simp [intOf]; omega
    · obtain rfl : j = n := by omega
      have hkf : keepS zs j = lf := by
        show (zs.take j).filter (fun p => !p.isEmpty) = lf
        rw [← Hl.out, List.take_length, Hlf.out]
      have hqf : lf.length = q := by rw [← hkf, Hq.out]
      have hrow : (strs (rowS zs j)).take (q * 1) = strs lf := by
        simp only [rowS, hkf, strs, Nat.mul_one]
        rw [← List.map_take, List.take_append_of_le_length (by omega), List.take_of_length_le (by omega)]
      have hsh := own_shorter Ho.out (k := q) (by omega)
      rw [hrow] at hsh
      have Hsh := hide hsh
      have Hqf := hide hqf
      clear hsh hrow hqf hkf hlt hj
      have hq0 : (0 : Int) ≤ (q : Int) := by omega
      have hq1 : (q : Int) ≤ (j : Int) := by omega
      have hq2 : (q : Int) ≤ (cap : Int) := by omega
      have hq3 : ¬ cap = q := by omega
      go_wp2_with ((refine wpList_clear_own _ rfl (.tmp 38) 25 rfl base 9 i0 _ 1 Tryd.underlying25 hi0 hz0 rfl (by decide) Hone.out g q cap _ Hsh.out _ (j - q) (cap - q) rfl ?hA (by omega) ?_; rotate_left; intro w3 hown3 hg3))
      · go_ret
        rw [Hqf.out]
        exact ⟨rfl, hown3, Hg.out.trans hg3⟩
      · exact .inr (by rw [Nat.mul_one])
end Go.Proofs.YtdjpcdimcjjemaaDoor
