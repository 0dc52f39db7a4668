/-
  Contracts of Sum, Compare, Cmp, Norm and layer 5's example. Conditions: a pair's numbers; the slices can be read.
-/
import Derived.Test.YtnabckcdffpimaaPair2
namespace Go.Proofs.Ytnabckcdffpimaa
open Go.RowKit Ieee

/-- A pair's numbers. -/
abbrev PN := Int × Int
abbrev okP (p : PN) : Prop := p.1.natAbs ≤ 1099511627776 ∧ p.2.natAbs ≤ 1099511627776
/-- The cells of pairs. -/
abbrev pvs (l : List PN) : List Value := l.map fun p => pv p.1 p.2
theorem pvs_one (l : List PN) : ∀ u ∈ pvs l, u.oneCell' = true := by
  intro u hu
  obtain ⟨p, _, rfl⟩ := List.mem_map.1 hu
  rfl
/-- The sum so far. -/
abbrev addP (s p : PN) : PN := (hold (s.1 + p.1), hold (s.2 + p.2))
abbrev sumP (l : List PN) : PN := l.foldl addP (0, 0)
theorem sumP_ok (l : List PN) (s : PN) (hs : okP s) : okP (l.foldl addP s) := by
  induction l generalizing s with
  | nil => exact hs
  | cons p l ih => exact ih _ ⟨hold_le _, hold_le _⟩
theorem sumP_succ (l : List PN) (k : Nat) (hk : k < l.length) : sumP (l.take (k + 1)) = addP (sumP (l.take k)) (l.getD k (0, 0)) := by
  unfold sumP
  rw [List.take_succ_eq_append_getElem hk, List.foldl_append]
  simp [List.getD, hk]

section
variable {w : World} {A : Option Addr} {n c : Nat} {l : List PN}
theorem Rd.pairLen (h : Rd w 1 A n c (pvs l)) : l.length = n := by have := h.len; simpa using this
theorem Rd.pair {ad : Addr} (h : Rd w 1 (some ad) n c (pvs l)) (k : Nat) (hk : k < n) : w.cell? (ad.add k) = some (pv (l.getD k (0, 0)).1 (l.getD k (0, 0)).2) := by
  have hl : k < l.length := by rw [h.pairLen]; exact hk
  refine h.cell ad rfl k _ ?_
  simp [List.getD, hl]
end

theorem okP_getD {l : List PN} (h : ∀ p ∈ l, okP p) (k : Nat) : okP (l.getD k (0, 0)) := by
  by_cases hk : k < l.length
  · simp only [List.getD, hk, List.getElem?_eq_getElem, Option.getD_some]
    exact h _ (List.getElem_mem hk)
  · simp only [List.getD, List.getElem?_eq_none (Nat.le_of_not_lt hk), Option.getD_none]
    exact ⟨by decide, by decide⟩

set_option maxHeartbeats 1000000 in
theorem sum_any (A : Option Addr) (n c : Nat) (l : List PN) (w : World) (hr : Rd w 1 A n c (pvs l)) (hok : ∀ p ∈ l, okP p) :
    Calls Try.prog 12 #[.slice A n c] w fun e w' => e = .returned (pv (sumP l).1 (sumP l).2) ∧ w = w' := by
  have hl := hr.pairLen
  have hmx := hr.max
  have hle := hr.le
  unfold maxLen at hmx
  have Hr := hide hr
  have Hok := hide hok
  have Hl := hide hl
  clear hr hok hl
  go_enter Try.func12, Try.ntmps12
  go_wp2_with fail
  go_loopw [3, 8] (fun z i wr => ∃ k : Nat, k ≤ n ∧ i = .int .i64 k ∧ z = pv (sumP (l.take k)).1 (sumP (l.take k)).2 ∧ w = wr) (fun _ i _ => n - (intOf i).toNat)
  case atStart => exact ⟨0, Nat.zero_le _, rfl, by simp [fl_zero], rfl⟩
  case round =>
    obtain ⟨k, hk, rfl, rfl, rfl⟩ := hrel
    by_cases hlt : k < n
    · obtain ⟨ad, rfl⟩ := Hr.out.isSome (by omega)
      have hcell := Hr.out.pair k hlt
      have hs := sumP_succ l k (by rw [Hl.out]; exact hlt)
      have ho1 : Hid (okP (sumP (l.take k))) := hide (sumP_ok (l.take k) (0, 0) ⟨by decide, by decide⟩)
      have ho2 : Hid (okP (l.getD k (0, 0))) := hide (okP_getD Hok.out k)
      obtain ⟨⟨a, b⟩, hab⟩ : ∃ p : PN, sumP (l.take k) = p := ⟨_, rfl⟩
      obtain ⟨⟨x, y⟩, hxy⟩ : ∃ p : PN, l.getD k (0, 0) = p := ⟨_, rfl⟩
      rw [hab] at hs ho1 ⊢
      rw [hxy] at hs ho2 hcell
      have Hs := hide hs
      clear hs hab hxy
      simp only at hcell
      go_wp2_with fail
      refine (add_any a b x y w ho1.out.1 ho1.out.2 ho2.out.1 ho2.out.2).mono ?_
      rintro e w1 ⟨rfl, rfl⟩
      go_wp2_with fail
      go_roundw
      case rel => exact ⟨k + 1, by omega, by go_num, by rw [Hs.out], trivial⟩
      case measure => simp [intOf]; omega
    · obtain rfl : k = n := by omega
      go_wp2_with fail
      go_ret
      rw [List.take_of_length_le (by rw [Hl.out]; exact Nat.le_refl _)]
      exact ⟨rfl, rfl⟩

set_option maxHeartbeats 1000000 in
theorem isNaN_any (a : Int) (w : World) (ha : a.natAbs < 2 ^ 53) : Calls Try.prog 42 #[.float .f64 (fl a)] w fun e w' => e = .returned (.bool false) ∧ w = w' := by
  have o1 : FloatKind.f64.format.order (fl a) (fl a) = some .eq := by rw [ord_fl a a ha ha, cmp_same]
  clear ha
  go_enter Try.func42, Try.ntmps42
  go_wp2_with fail
  go_ret
  exact ⟨rfl, rfl⟩

/-- Which one is ahead. -/
def cmpI (a b : Int) : Int := if a < b then -1 else if b < a then 1 else 0

set_option maxHeartbeats 1000000 in
theorem compare_any (a b : Int) (w : World) (ha : a.natAbs < 2 ^ 53) (hb : b.natAbs < 2 ^ 53) : Calls Try.prog 33 #[.float .f64 (fl a), .float .f64 (fl b)] w fun e w' => e = .returned (.int .i64 (cmpI a b)) ∧ w = w' := by
  have o1 := ord_fl a b ha hb
  have Ha := hide ha
  have Hb := hide hb
  clear ha hb
  rcases cmp_cases a b with ⟨h, h2⟩ | ⟨h, h2⟩ | ⟨h, h2⟩
  · have hc : cmpI a b = -1 := by unfold cmpI; rw [if_pos h2]
    rw [h] at o1
    rw [hc]
    clear h h2 hc
    go_enter Try.func33, Try.ntmps33
    go_wp2_with fail
    refine (isNaN_any a w Ha.out).mono ?_
    rintro e w1 ⟨rfl, rfl⟩
    go_wp2_with fail
    refine (isNaN_any b w Hb.out).mono ?_
    rintro e w1 ⟨rfl, rfl⟩
    go_wp2_with fail
    go_ret
    exact ⟨rfl, rfl⟩
  · have hc : cmpI a b = 1 := by unfold cmpI; rw [if_neg (by omega), if_pos h2]
    rw [h] at o1
    rw [hc]
    clear h h2 hc
    go_enter Try.func33, Try.ntmps33
    go_wp2_with fail
    refine (isNaN_any a w Ha.out).mono ?_
    rintro e w1 ⟨rfl, rfl⟩
    go_wp2_with fail
    refine (isNaN_any b w Hb.out).mono ?_
    rintro e w1 ⟨rfl, rfl⟩
    go_wp2_with fail
    go_ret
    exact ⟨rfl, rfl⟩
  · have hc : cmpI a b = 0 := by unfold cmpI; rw [if_neg (by omega), if_neg (by omega)]
    rw [h] at o1
    rw [hc]
    clear h h2 hc
    go_enter Try.func33, Try.ntmps33
    go_wp2_with fail
    refine (isNaN_any a w Ha.out).mono ?_
    rintro e w1 ⟨rfl, rfl⟩
    go_wp2_with fail
    refine (isNaN_any b w Hb.out).mono ?_
    rintro e w1 ⟨rfl, rfl⟩
    go_wp2_with fail
    go_ret
    exact ⟨rfl, rfl⟩

set_option maxHeartbeats 1000000 in
theorem cmp_any (a b c d : Int) (w : World) (ha : a.natAbs ≤ 1099511627776) (hb : b.natAbs ≤ 1099511627776) (hc : c.natAbs ≤ 1099511627776) (hd : d.natAbs ≤ 1099511627776) :
    Calls Try.prog 16 #[pv a b, pv c d] w fun e w' => e = .returned (.int .i64 (if cmpI a c = 0 then cmpI b d else cmpI a c)) ∧ w = w' := by
  have Ha := hide ha
  have Hb := hide hb
  have Hc := hide hc
  have Hd := hide hd
  clear ha hb hc hd
  obtain ⟨q, hq⟩ : ∃ q, cmpI a c = q := ⟨_, rfl⟩
  have Hac := hide (hq ▸ compare_any a c w (by have := Ha.out; omega) (by have := Hc.out; omega))
  rw [hq]
  clear hq
  by_cases h0 : q = 0
  · subst h0
    rw [if_pos rfl]
    go_enter Try.func16, Try.ntmps16
    go_wp2_with fail
    refine (pairIs_any a b w Ha.out Hb.out).mono ?_
    rintro e w1 ⟨rfl, rfl⟩
    go_wp2_with fail
    refine (pairIs_any c d w Hc.out Hd.out).mono ?_
    rintro e w1 ⟨rfl, rfl⟩
    go_wp2_with fail
    refine Hac.out.mono ?_
    rintro e w1 ⟨rfl, rfl⟩
    go_wp2_with fail
    refine (compare_any b d w (by have := Hb.out; omega) (by have := Hd.out; omega)).mono ?_
    rintro e w1 ⟨rfl, rfl⟩
    go_wp2_with fail
    go_ret
    exact ⟨rfl, rfl⟩
  · rw [if_neg h0]
    have hne : (q != 0) = true := by simp [h0]
    go_enter Try.func16, Try.ntmps16
    go_wp2_with fail
    refine (pairIs_any a b w Ha.out Hb.out).mono ?_
    rintro e w1 ⟨rfl, rfl⟩
    go_wp2_with fail
    refine (pairIs_any c d w Hc.out Hd.out).mono ?_
    rintro e w1 ⟨rfl, rfl⟩
    go_wp2_with fail
    refine Hac.out.mono ?_
    rintro e w1 ⟨rfl, rfl⟩
    go_wp2_with fail
    go_ret
    exact ⟨rfl, rfl⟩

set_option maxHeartbeats 1000000 in
theorem norm_example (w : World) : Calls Try.prog 29 #[pv 3 4] w fun e w' => e = .returned (.float .f64 4627730092099895296) ∧ w = w' := by
  have m1 : ∀ (t : TypeId) (w : World), (binOp .mul t (.float .f64 (fl 3)) (.float .f64 (fl 3))).run Try.prog w = .ok (.float .f64 (fl 9)) w := fun t w => run_float_arith w .mul t .f64 _ _ _ (by decide +kernel)
  have m2 : ∀ (t : TypeId) (w : World), (binOp .mul t (.float .f64 (fl 4)) (.float .f64 (fl 4))).run Try.prog w = .ok (.float .f64 (fl 16)) w := fun t w => run_float_arith w .mul t .f64 _ _ _ (by decide +kernel)
  have m3 : ∀ (t : TypeId) (w : World), (binOp .add t (.float .f64 (fl 9)) (.float .f64 (fl 16))).run Try.prog w = .ok (.float .f64 4627730092099895296) w := fun t w => run_float_arith w .add t .f64 _ _ _ (by decide +kernel)
  go_enter Try.func29, Try.ntmps29
  go_wp2_with fail
  refine (pairIs_any 3 4 w (by decide) (by decide)).mono ?_
  rintro e w1 ⟨rfl, rfl⟩
  go_wp2_with fail
  go_ret
  exact ⟨rfl, rfl⟩

set_option maxHeartbeats 1000000 in
theorem awake_any (w : World) : Calls Try.prog 8 #[] w fun e w' => e = .returned (.bool true) ∧ w = w' := by
  have o1 : FloatKind.f64.format.order (fl (-4)) 13839561654909534208 = some .eq := by decide +kernel
  have o2 : FloatKind.f64.format.order (fl 3) 4613937818241073152 = some .eq := by decide +kernel
  have o3 : FloatKind.f64.format.order 4627730092099895296 4627730092099895296 = some .eq := by decide +kernel
  go_enter Try.func8, Try.ntmps8
  go_wp2_with fail
  refine (of_any 3 4 w (by decide) (by decide)).mono ?_
  rintro e w1 ⟨rfl, rfl⟩
  go_wp2_with fail
  refine (turn_any 3 4 1 w (by decide) (by decide) (by decide)).mono ?_
  rintro e w1 ⟨rfl, rfl⟩
  have hr : rot (1 % 4) (3, 4) = (-4, 3) := rfl
  rw [hr]
  go_wp2_with fail
  refine (norm_example w).mono ?_
  rintro e w1 ⟨rfl, rfl⟩
  go_wp2_with fail
  go_ret
  exact ⟨rfl, rfl⟩
end Go.Proofs.Ytnabckcdffpimaa
