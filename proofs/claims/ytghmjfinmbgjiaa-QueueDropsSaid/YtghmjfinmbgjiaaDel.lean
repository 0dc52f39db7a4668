/-
  Contracts of slices.IndexFunc and slices.DeleteFunc on a clone, with the test of QueueDrops. Conditions: the slices can be read, and are short.
-/
import Derived.Test.YtghmjfinmbgjiaaRef
import Derived.Test.YtghmjfinmbgjiaaOrder
import Derived.Test.YtghmjfinmbgjiaaOwn
namespace Go.Proofs.Ytghmjfinmbgjiaa
open Go.RowKit

/-- The test, as a value: it holds the variable in block pb. -/
abbrev testV (pb : Nat) : Value := .func (.func 21) #[] #[.pointer (some ⟨pb, 0, none⟩)]

set_option maxHeartbeats 400000 in
theorem test_any (a : Int) (pb : Nat) (x : Int) (w : World) (hp : w.cell? ⟨pb, 0, none⟩ = some (.int .u64 x)) (b : Bool) (hb : (a == x) = b) :
    Calls Try.prog 21 #[.int .u64 a, .pointer (some ⟨pb, 0, none⟩)] w fun e w' => e = .returned (.bool b) ∧ w = w' := by
  go_enter Try.func21, Try.ntmps21
  go_wp2
  go_ret
  exact ⟨rfl, rfl⟩

set_option maxHeartbeats 1000000 in
theorem indexFunc_any (A : Option Addr) (n c : Nat) (zs : List Int) (pb : Nat) (x : Int) (w : World) (hr : Rd w 1 A n c (u64s zs)) (hn : n ≤ 65536) (hp : w.cell? ⟨pb, 0, none⟩ = some (.int .u64 x)) :
    Calls Try.prog 27 #[.slice A n c, testV pb] w fun e w' => e = .returned (.int .i64 (idx zs x)) ∧ w = w' := by
  have hl := hr.intLen
  have Hr := hide hr; clear hr
  have Hl := hide hl; clear hl
  have Hp := hide hp; clear hp
  go_enter Try.func27, Try.ntmps27
  go_wp2_with fail
  go_loopw [8] (fun i wr => ∃ k : Nat, k ≤ n ∧ i = .int .i64 k ∧ (∀ j, j < k → (x == zs.getD j 0) = false) ∧ w = wr) (fun i _ => n - (intOf i).toNat)
  case atStart => exact ⟨0, Nat.zero_le _, rfl, by omega, rfl⟩
  case round =>
    obtain ⟨k, hk, rfl, hb, rfl⟩ := hrel
    have Hb := hide hb; clear hb
    by_cases hlt : k < n
    · obtain ⟨ad, rfl⟩ := Hr.out.isSome (by omega)
      have hkl : k < zs.length := by rw [Hl.out]; exact hlt
      obtain ⟨y, hy⟩ : ∃ y, zs.getD k 0 = y := ⟨_, rfl⟩
      have hcell : w.cell? (ad.add k) = some (.int .u64 y) := by rw [← hy]; exact Hr.out.ints k hlt
      have Hy := hide hy
      have Hkl := hide hkl
      clear hy hkl
      cases he : (y == x) with
      | true =>
        have He := hide he
        clear he
        go_wp2_with fail
        refine (test_any y pb x _ Hp.out true He.out).mono ?_
        rintro e w1 ⟨rfl, rfl⟩
        go_wp2_with fail
        go_ret
        refine ⟨ret_int (idx_at Hkl.out ?_ Hb.out).symm, rfl⟩
        have h1 := Hy.out
        have h2 := He.out
        simp [List.getD, Hkl.out] at h1
        rw [h1]
        simp at h2 ⊢
        exact h2.symm
      | false =>
        have He := hide he
        clear he
        go_wp2_with fail
        refine (test_any y pb x _ Hp.out false He.out).mono ?_
        rintro e w1 ⟨rfl, rfl⟩
        go_wp2_with fail
        go_roundw
        case rel =>
          refine ⟨k + 1, by omega, by go_num, fun j hj => ?_, trivial⟩
          by_cases e : j = k
          · subst e
            rw [Hy.out]
            have := He.out
            simp at this ⊢
            exact fun e => this e.symm
          · exact Hb.out j (by omega)
        case measure => simp [intOf]; omega
    · go_wp2_with fail
      go_ret
      exact ⟨ret_int (idx_none (fun j hj => Hb.out j (by rw [Hl.out] at hj; omega))).symm, rfl⟩

/-- The row while it is being cut: what is kept, then what stood there. -/
abbrev rowAt (zs : List Int) (x : Int) (j : Nat) : List Int := keepTo zs x j ++ zs.drop (keepTo zs x j).length
theorem rowAt_len (zs : List Int) (x : Int) (j : Nat) (hj : j ≤ zs.length) : (rowAt zs x j).length = zs.length := by
  have := keepTo_len zs x j
  simp only [rowAt, List.length_append, List.length_drop]
  omega
theorem rowAt_at (zs : List Int) (x : Int) (j : Nat) : (rowAt zs x j).getD j 0 = zs.getD j 0 := by
  have := keepTo_len zs x j
  simp only [rowAt, List.getD]
  rw [List.getElem?_append_right this, List.getElem?_drop]
  rw [show (keepTo zs x j).length + (j - (keepTo zs x j).length) = j by omega]
theorem rowAt_skip (zs : List Int) (x : Int) (j : Nat) (hj : j < zs.length) (h : (zs.getD j 0 == x) = true) : rowAt zs x (j + 1) = rowAt zs x j := by
  have := keepTo_succ zs x j hj
  rw [if_neg (by simp at h ⊢; exact h), List.append_nil] at this
  simp only [rowAt, this]
theorem rowAt_take (zs : List Int) (x : Int) (j : Nat) (hj : j < zs.length) (h : (zs.getD j 0 == x) = false) : rowAt zs x (j + 1) = (rowAt zs x j).set (keepTo zs x j).length (zs.getD j 0) := by
  have hk := keepTo_succ zs x j hj
  rw [if_pos (by simp at h ⊢; exact h)] at hk
  have hl := keepTo_len zs x j
  simp only [rowAt, hk, List.length_append, List.length_singleton]
  rw [List.set_append_right _ _ (Nat.le_refl _), Nat.sub_self, List.append_assoc]
  congr 1
  have hd : zs.drop (keepTo zs x j).length = zs[(keepTo zs x j).length]'(by omega) :: zs.drop ((keepTo zs x j).length + 1) := List.drop_eq_getElem_cons (by omega)
  rw [hd, List.set_cons_zero]
  rfl

set_option maxRecDepth 100000 in
set_option maxHeartbeats 4000000 in
theorem deleteFunc_own (g n cap base i : Nat) (zs : List Int) (pb : Nat) (x : Int) (w : World) (hn : n ≤ 65536) (ho : w.ownsRow base 29 1 (.slice (some ⟨g, 0, none⟩) n cap) n (u64s zs)) (hp : w.cell? ⟨pb, 0, none⟩ = some (.int .u64 x)) (hpg : pb ≠ g) (lf : List Int) (hlf : zs.filter (· != x) = lf)
    (hf : idx zs x = (i : Int)) (hi : i < n) (hfl : keepTo zs x (i + 1) = zs.take i) :
    Calls Try.prog 19 #[.slice (some ⟨g, 0, none⟩) n cap, testV pb] w fun e w' => e = .returned (.slice (some ⟨g, 0, none⟩) lf.length cap) ∧ w'.ownsRow base 29 1 (.slice (some ⟨g, 0, none⟩) lf.length cap) lf.length (u64s lf) ∧ w.grownBy w' (some g) := by
  obtain ⟨i0, hi0, hz0, hz1, hz2⟩ := info_parts Try.info29
  have hr := Rd.of_own ho
  have hl := hr.intLen
  have hcap := hr.le
  have hm := hr.max
  unfold maxLen at hm
  have Hr := hide hr
  have Ho := hide ho
  have Hl := hide hl
  have Hp := hide hp
  have Hlf := hide hlf
  have Hpg := hide hpg
  have hone : ∀ u ∈ (Value.int .u64 0).cells, u.oneCell' = true := by simp [Value.cells, Value.oneCell']
  have Hone := hide hone
  have Hf := hide (hf ▸ indexFunc_any _ _ _ zs pb x w Hr.out hn Hp.out)
  have hk1 : (keepTo zs x (i + 1)).length = i := by rw [hfl, List.length_take]; omega
  have hrow : rowAt zs x (i + 1) = zs := by
    simp only [rowAt, hfl]
    rw [List.length_take, Nat.min_eq_left (by omega), List.take_append_drop]
  have Hk1 := hide hk1
  have Hrow := hide hrow
  have hne : ((i : Int) == -1) = false := by rw [beq_eq_false_iff_ne]; omega
  clear hr ho hl hp hlf hpg hone hf hfl hk1 hrow
  go_enter Try.func19, Try.ntmps19
  go_wp2_with fail
  refine (Hf.out).mono ?_
  rintro e w1 ⟨rfl, rfl⟩
  clear Hf
  go_wp2_with fail
  go_loopw [5, 6] (fun a b wr => ∃ j : Nat, i + 1 ≤ j ∧ j ≤ n ∧ b = .int .i64 j ∧ a = .int .i64 (keepTo zs x j).length ∧ (keepTo zs x j).length + 1 ≤ j ∧
      wr.ownsRow base 29 1 (.slice (some ⟨g, 0, none⟩) n cap) n (u64s (rowAt zs x j)) ∧ w.grownBy wr (some g)) (fun _ b _ => n - (intOf b).toNat)
  case atStart => exact ⟨i + 1, Nat.le_refl _, by omega, by go_num, by rw [Hk1.out], by rw [Hk1.out]; omega, by rw [Hrow.out]; exact Ho.out, World.grownBy.refl _ _⟩
  case round =>
    clear Ho Hk1 Hrow
    obtain ⟨j, hj1, hj, rfl, rfl, hkl, ho, hg⟩ := hrel
    have Ho := hide ho
    have Hg := hide hg
    clear ho hg
    obtain ⟨q, hq⟩ : ∃ q, (keepTo zs x j).length = q := ⟨_, rfl⟩
    rw [hq] at hkl
    rw [hq]
    have Hq := hide hq
    clear hq
    by_cases hlt : j < n
    · have hjl : j < zs.length := by rw [Hl.out]; exact hlt
      obtain ⟨y, hy⟩ : ∃ y, zs.getD j 0 = y := ⟨_, rfl⟩
      have hrl := rowAt_len zs x j (by omega)
      have x0 : wr.cell? ((⟨g, 0, none⟩ : Addr).add j) = some (.int .u64 y) := by
        rw [← hy, ← rowAt_at zs x j]
        exact (Rd.of_own Ho.out).ints j hlt
      have y0 := (Rd.of_own Ho.out).ints q (by omega)
      simp only [Addr.add_lit, Nat.zero_add] at x0 y0
      have z0 := Ho.out.frozenAt q
      have Hp1 := hide (Hg.out.cell Hp.out (by intro e; injection e with e; exact Hpg.out e))
      have Hy := hide hy
      have Hjl := hide hjl
      clear hy hrl hjl
      cases he : (y == x) with
      | true =>
        have He := hide he
        clear he y0 z0
        go_wp2_with fail
        refine (test_any y pb x _ Hp1.out true He.out).mono ?_
        rintro e w2 ⟨rfl, rfl⟩
        go_wp2_with fail
        go_roundw
        case rel =>
          have h := keepTo_succ zs x j Hjl.out
          have h9 := He.out
          rw [if_neg (by rw [Hy.out]; simp at h9 ⊢; exact h9), List.append_nil] at h
          refine ⟨j + 1, by omega, by omega, by go_num, ?_, by rw [h, Hq.out]; omega, ?_, Hg.out⟩
          · rw [h, Hq.out]
          · rw [rowAt_skip zs x j Hjl.out (by rw [Hy.out]; exact He.out)]
            exact Ho.out
        case measure => simp [intOf]; omega
      | false =>
        have He := hide he
        clear he
        have hq0 : (0 : Int) ≤ (q : Int) := by omega
        have hq1 : (q : Int) < (n : Int) := by omega
        go_wp2_with fail
        refine (test_any y pb x _ Hp1.out false He.out).mono ?_
        rintro e w2 ⟨rfl, rfl⟩
        go_wp2_with fail
        have h3 := Ho.out.stored q (.int .u64 y)
        have Ho4 := hide h3.1
        have Hg4 := hide (Hg.out.trans h3.2)
        clear h3
        go_roundw
        case rel =>
          have h := keepTo_succ zs x j Hjl.out
          have h9 := He.out
          rw [if_pos (by rw [Hy.out]; simp at h9 ⊢; exact h9)] at h
          refine ⟨j + 1, by omega, by omega, by go_num, ?_, by rw [h, List.length_append, Hq.out, List.length_singleton]; omega, ?_, Hg4.out⟩
          · rw [h, List.length_append, Hq.out]
            go_num
          · rw [rowAt_take zs x j Hjl.out (by rw [Hy.out]; exact He.out), Hq.out, Hy.out]
            have h5 : u64s ((rowAt zs x j).set q y) = (u64s (rowAt zs x j)).set q (.int .u64 y) := by simp [u64s, List.map_set]
            rw [h5]
            exact Ho4.out
        case measure => simp [intOf]; omega
    · obtain rfl : j = n := by omega
      have hkf : keepTo zs x j = lf := by
        show (zs.take j).filter (· != x) = lf
        rw [← Hl.out, List.take_length, Hlf.out]
      have hqf : lf.length = q := by rw [← hkf, Hq.out]
      have hrow : (u64s (rowAt zs x j)).take (q * 1) = u64s lf := by
        simp only [rowAt, hkf, u64s, Nat.mul_one]
        rw [← List.map_take, List.take_append_of_le_length (by omega), List.take_of_length_le (by omega)]
      have hsh := own_shorter Ho.out (k := q) (by omega)
      rw [hrow] at hsh
      have Hsh := hide hsh
      have Hqf := hide hqf
      clear hsh hrow hqf hkf hlt hj
      have hq0 : (0 : Int) ≤ (q : Int) := by omega
      have hq1 : (q : Int) ≤ (j : Int) := by omega
      have hq2 : (q : Int) ≤ (cap : Int) := by omega
      have hq3 : ¬ cap = q := by omega
      go_wp2_with ((refine wpList_clear_own _ rfl (.tmp 38) 22 rfl base 29 i0 _ 1 Try.underlying22 hi0 hz0 rfl (by decide) Hone.out g q cap _ Hsh.out _ (j - q) (cap - q) rfl ?hA (by omega) ?_; rotate_left; intro w3 hown3 hg3))
      · go_ret
        rw [Hqf.out]
        exact ⟨rfl, hown3, Hg.out.trans hg3⟩
      · exact .inr (by rw [Nat.mul_one])
end Go.Proofs.Ytghmjfinmbgjiaa
