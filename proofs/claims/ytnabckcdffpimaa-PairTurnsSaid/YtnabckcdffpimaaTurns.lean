/-
  PairTurns: a turn is z times i; turns add up; a mirror turns the other way round; sums come in any order: the walk. Conditions: numbers of 32 and 8 bits.
-/
import Derived.Test.YtnabckcdffpimaaPair3
namespace Go.Proofs.Ytnabckcdffpimaa
open Go.RowKit Ieee

theorem sub_wh {x y : Nat} {a b : Int} (hx : Wh x a) (hy : Wh y b) (ha : a.natAbs < 2 ^ 53) (hb : b.natAbs < 2 ^ 53) (hab : (a - b).natAbs < 2 ^ 53) :
    ∃ r, double.sub x y = some r ∧ Wh r (a - b) := by
  obtain ⟨s, i, h1, h2, h3⟩ := hx.read ha
  obtain ⟨t, j, h4, h5, h6⟩ := hy.read hb
  unfold Format.sub
  rw [h1, h4]
  simp only [Datum.opposite, Datum.sum]
  obtain ⟨k, hk⟩ : ∃ k, max i j = k := ⟨_, rfl⟩
  have hbase : min (-(i : Int)) (-(j : Int)) = -(k : Int) := by omega
  have h7 : -b ≠ 0 → (!t) = decide (-b < 0) := fun h => by
    rw [h5 (by omega)]
    by_cases hb0 : b < 0
    · simp [hb0]; omega
    · simp [hb0]; omega
  have h8 : signed (!t) (b.natAbs * 2 ^ j) (k - j) = -b * 2 ^ k := by
    have := signed_eq h7 (show j ≤ k by omega)
    rwa [Int.natAbs_neg] at this
  rw [hbase, show (-(i : Int) - -(k : Int)).toNat = k - i by omega, show (-(j : Int) - -(k : Int)).toNat = k - j by omega, signed_eq h2 (by omega), h8, ← Int.add_mul, show a + -b = a - b by omega]
  have hp : (2 : Int) ^ k ≠ 0 := Int.pow_ne_zero (by decide)
  have hpp : (0 : Int) < 2 ^ k := Int.pow_pos (by decide)
  have hz : ((a - b) * 2 ^ k = 0) ↔ a - b = 0 := by simp [Int.mul_eq_zero, hp]
  have hneg : ((a - b) * 2 ^ k < 0) ↔ a - b < 0 := by
    constructor
    · intro h
      by_cases h0 : a - b < 0
      · exact h0
      · have := Int.mul_nonneg (show 0 ≤ a - b by omega) (Int.le_of_lt hpp)
        omega
    · intro h
      exact Int.mul_neg_of_neg_of_pos h hpp
  have habs : ((a - b) * 2 ^ k).natAbs = (a - b).natAbs * 2 ^ k := by rw [Int.natAbs_mul, Int.natAbs_pow]; rfl
  simp only [hz, hneg, habs, Option.map_some, Format.write]
  rw [nearest_wh _ _ _ hab (fun h => by rw [if_neg h])]
  have key : ∀ sg : Bool, Wh (if a - b = 0 ∧ sg = true then nz else fl (a - b)) (a - b) := fun sg => by
    split
    · rename_i h
      exact .inr ⟨h.1, rfl⟩
    · exact .inl rfl
  exact ⟨_, rfl, key _⟩

theorem fl_nz (c : Int) (hc : c.natAbs < 2 ^ 53) : fl c ≠ nz := by
  intro h
  obtain ⟨s, t, h1, h2, h3⟩ := (wh_fl c).read hc
  have h9 : double.read nz = .number true 0 (-1074) := by decide +kernel
  rw [h, h9] at h1
  injection h1 with e1 e2 e3
  have h4 := Nat.mul_eq_zero.1 e2.symm
  have hp : 0 < 2 ^ t := Nat.two_pow_pos t
  have hc0 : c = 0 := by omega
  rw [hc0] at h
  exact nz_ne h.symm

theorem mul_i (a b : Int) (ha : a.natAbs ≤ 2147483648) (hb : b.natAbs ≤ 2147483648) : ∃ x y, cMulBits (fl a) (fl b) 0 4607182418800017408 = some (x, y) ∧ Wh x (-b) ∧ Wh y a := by
  have h0 : Wh 0 0 := .inl fl_zero.symm
  have h1 : Wh 4607182418800017408 1 := .inl (by decide +kernel)
  obtain ⟨r1, e1, w1⟩ := mul_wh (wh_fl a) h0 (by omega) (by decide) (by simp)
  obtain ⟨r2, e2, w2⟩ := mul_wh (wh_fl b) h1 (by omega) (by decide) (by simp; omega)
  obtain ⟨r3, e3, w3⟩ := mul_wh (wh_fl a) h1 (by omega) (by decide) (by simp; omega)
  obtain ⟨r4, e4, w4⟩ := mul_wh (wh_fl b) h0 (by omega) (by decide) (by simp)
  rw [Int.mul_zero] at w1 w4
  rw [Int.mul_one] at w2 w3
  obtain ⟨x, e5, w5⟩ := sub_wh w1 w2 (by decide) (by omega) (by omega)
  have e6 := add_wh w3 w4 (by omega) (by decide) (by omega)
  rw [Int.zero_sub] at w5
  refine ⟨x, if r3 = nz ∧ r4 = nz then nz else fl (a + 0), ?_, w5, ?_⟩
  · have f : ∀ p q : Nat, floatBits .mul .f64 p q = double.mul p q := fun _ _ => rfl
    have g : ∀ p q : Nat, floatBits .sub .f64 p q = double.sub p q := fun _ _ => rfl
    have k : ∀ p q : Nat, floatBits .add .f64 p q = double.add p q := fun _ _ => rfl
    unfold cMulBits
    simp only [f, g, k, e1, e2, e3, e4, e5, e6, Option.bind_some]
  · by_cases hc : r3 = nz ∧ r4 = nz
    · rw [if_pos hc]
      rcases w3 with h3 | ⟨h3, _⟩
      · exact absurd (h3.symm.trans hc.1) (fl_nz a (by omega))
      · exact .inr ⟨h3, rfl⟩
    · rw [if_neg hc, Int.add_zero]
      exact .inl rfl

theorem turn_to (a b : Int) (q : Nat) (c d : Int) (w : World) (ha : a.natAbs ≤ 1099511627776) (hb : b.natAbs ≤ 1099511627776) (hq : q < 512) (h : rot (q % 4) (a, b) = (c, d)) :
    Calls Try.prog 13 #[pv a b, .int .i64 q] w fun e w' => e = .returned (pv c d) ∧ w = w' := by
  refine (turn_any a b q w ha hb hq).mono ?_
  rintro e w' ⟨rfl, rfl⟩
  rw [h]
  exact ⟨rfl, rfl⟩

theorem rot_abs : ∀ (k : Nat) (p : Int × Int), (rot k p).1.natAbs ≤ max p.1.natAbs p.2.natAbs ∧ (rot k p).2.natAbs ≤ max p.1.natAbs p.2.natAbs
  | 0, p => ⟨Nat.le_max_left _ _, Nat.le_max_right _ _⟩
  | k + 1, p => by
    have := rot_abs k (-p.2, p.1)
    simp only [Int.natAbs_neg] at this
    rw [Nat.max_comm] at this
    exact this
theorem rot_add : ∀ (j k : Nat) (p : Int × Int), rot j (rot k p) = rot (k + j) p
  | j, 0, p => by rw [Nat.zero_add]; rfl
  | j, k + 1, p => by
    rw [show k + 1 + j = (k + j) + 1 by omega]
    exact rot_add j k (-p.2, p.1)
theorem rot_four (p : Int × Int) : rot 4 p = p := by
  simp [rot]
theorem rot_mod (n : Nat) (p : Int × Int) : rot (n % 4) p = rot n p := by
  induction n using Nat.strongRecOn with
  | ind n ih =>
    by_cases h : n < 4
    · rw [Nat.mod_eq_of_lt h]
    · obtain ⟨m, rfl⟩ : ∃ m, n = 4 + m := ⟨n - 4, by omega⟩
      rw [Nat.add_mod_left, ← rot_add m 4, rot_four]
      exact ih m (by omega)

theorem cmpI_neg (a b : Int) : cmpI b a = -cmpI a b := by
  unfold cmpI
  by_cases h1 : a < b
  · rw [if_pos h1, if_neg (by omega), if_pos h1]; rfl
  · by_cases h2 : b < a
    · rw [if_pos h2, if_neg h1, if_pos h2]
    · rw [if_neg h2, if_neg h1, if_neg h1, if_neg h2]; rfl
theorem cmpI_one (a b : Int) : cmpI a b = -1 ∨ cmpI a b = 0 ∨ cmpI a b = 1 := by
  unfold cmpI
  split
  · simp
  · split <;> simp

theorem rd_new3 (w : World) (u v x : Value) (e : TypeId) : Rd (w.alloc (.cells #[u, v, x] e)) 1 (some ⟨w.heap.size, 0, none⟩) 3 3 [u, v, x] := by
  refine ⟨rfl, Nat.le_refl _, by simp [maxLen], (fun h => by cases h), fun ad he j y hj => ?_⟩
  injection he with he
  subst he
  match j, hj with
  | 0, hj => simp at hj; subst hj; simp [Addr.add]
  | 1, hj => simp at hj; subst hj; simp [Addr.add]
  | 2, hj => simp at hj; subst hj; simp [Addr.add]
  | j + 3, hj => simp at hj

theorem add_to (a b c d x y : Int) (w : World) (ha : a.natAbs ≤ 2147483648) (hb : b.natAbs ≤ 2147483648) (hc : c.natAbs ≤ 2147483648) (hd : d.natAbs ≤ 2147483648) (hx : a + c = x) (hy : b + d = y) :
    Calls Try.prog 15 #[pv a b, pv c d] w fun e w' => e = .returned (pv x y) ∧ w = w' := by
  refine (add_any a b c d w (by omega) (by omega) (by omega) (by omega)).mono ?_
  rintro e w' ⟨rfl, rfl⟩
  rw [hold_same (by omega), hold_same (by omega), hx, hy]
  exact ⟨rfl, rfl⟩

theorem sum3 (a b c d : Int) (ha : a.natAbs ≤ 2147483648) (hb : b.natAbs ≤ 2147483648) (hc : c.natAbs ≤ 2147483648) (hd : d.natAbs ≤ 2147483648) : sumP [(a, b), (c, d), (-a, -b)] = (c, d) := by
  simp only [sumP, List.foldl_cons, List.foldl_nil, addP]
  rw [Int.zero_add, Int.zero_add, hold_same (n := a) (by omega), hold_same (n := b) (by omega), hold_same (n := a + c) (by omega), hold_same (n := b + d) (by omega), hold_same (n := a + c + -a) (by omega), hold_same (n := b + d + -b) (by omega), show a + c + -a = c by omega, show b + d + -b = d by omega]

theorem sum3_any (g : Nat) (a b c d : Int) (w : World) (ha : a.natAbs ≤ 2147483648) (hb : b.natAbs ≤ 2147483648) (hc : c.natAbs ≤ 2147483648) (hd : d.natAbs ≤ 2147483648) (hr : Rd w 1 (some ⟨g, 0, none⟩) 3 3 (pvs [(a, b), (c, d), (-a, -b)])) :
    Calls Try.prog 12 #[.slice (some ⟨g, 0, none⟩) 3 3] w fun e w' => e = .returned (pv c d) ∧ w = w' := by
  refine (sum_any _ 3 3 _ w hr ?_).mono ?_
  · intro p hp
    simp only [List.mem_cons, List.not_mem_nil, or_false] at hp
    rcases hp with rfl | rfl | rfl
    · exact ⟨by simp only; omega, by simp only; omega⟩
    · exact ⟨by simp only; omega, by simp only; omega⟩
    · exact ⟨by simp only; omega, by simp only; omega⟩
  · rintro e w' ⟨rfl, rfl⟩
    rw [sum3 a b c d ha hb hc hd]
    exact ⟨rfl, rfl⟩

theorem cmp_to (a b c d k : Int) (w : World) (ha : a.natAbs ≤ 2147483648) (hb : b.natAbs ≤ 2147483648) (hc : c.natAbs ≤ 2147483648) (hd : d.natAbs ≤ 2147483648) (h : (if cmpI a c = 0 then cmpI b d else cmpI a c) = k) :
    Calls Try.prog 16 #[pv a b, pv c d] w fun e w' => e = .returned (.int .i64 k) ∧ w = w' := by
  refine (cmp_any a b c d w (by omega) (by omega) (by omega) (by omega)).mono ?_
  rintro e w' ⟨rfl, rfl⟩
  rw [h]
  exact ⟨rfl, rfl⟩
theorem cmp_neg (a b c d k : Int) (h : (if cmpI a c = 0 then cmpI b d else cmpI a c) = k) : (if cmpI c a = 0 then cmpI d b else cmpI c a) = -k := by
  rw [cmpI_neg a c, cmpI_neg b d]
  by_cases h0 : cmpI a c = 0
  · rw [if_pos h0] at h
    rw [if_pos (by omega), h]
  · rw [if_neg h0] at h
    rw [if_neg (by omega), h]
theorem cmp_one (a b c d k : Int) (h : (if cmpI a c = 0 then cmpI b d else cmpI a c) = k) : k = -1 ∨ k = 0 ∨ k = 1 := by
  rw [← h]
  split
  · exact cmpI_one _ _
  · exact cmpI_one _ _

set_option maxRecDepth 100000 in
set_option maxHeartbeats 4000000 in
theorem turns_any (a b c d : Int) (p q : Nat) (w : World) (ha1 : -2147483648 ≤ a) (ha2 : a ≤ 2147483647) (hb1 : -2147483648 ≤ b) (hb2 : b ≤ 2147483647) (hc1 : -2147483648 ≤ c) (hc2 : c ≤ 2147483647) (hd1 : -2147483648 ≤ d) (hd2 : d ≤ 2147483647)
    (hp : p ≤ 255) (hq : q ≤ 255) :
    Calls Try.prog 4 #[.int .i32 a, .int .i32 b, .int .i32 c, .int .i32 d, .int .u8 p, .int .u8 q] w fun e w' => e = .returned (.bool true) ∧ Below w.heap.size w w' := by
  have ha : a.natAbs ≤ 2147483648 := by omega
  have hb : b.natAbs ≤ 2147483648 := by omega
  have hc : c.natAbs ≤ 2147483648 := by omega
  have hd : d.natAbs ≤ 2147483648 := by omega
  have same : ∀ n : Int, n.natAbs ≤ 4294967296 → FloatKind.f64.format.order (fl n) (fl n) = some .eq := fun n hn => by rw [ord_fl n n (by omega) (by omega), cmp_same]
  obtain ⟨x, y, hxy, hx, hy⟩ := mul_i a b ha hb
  have hmul : ∀ (t : TypeId) (w : World), (binOp .mul t (.complex .f64 (fl a) (fl b)) (.complex .f64 0 4607182418800017408)).run Try.prog w = .ok (.complex .f64 x y) w := fun t w => run_complex_mul w t _ _ _ _ _ _ hxy
  have o1 : FloatKind.f64.format.order (fl (-b)) x = some .eq := by rw [show FloatKind.f64.format.order (fl (-b)) x = double.order (fl (-b)) x from rfl, order_wh (wh_fl _) hx (by omega) (by omega), cmp_same]
  have o2 : FloatKind.f64.format.order (fl a) y = some .eq := by rw [show FloatKind.f64.format.order (fl a) y = double.order (fl a) y from rfl, order_wh (wh_fl _) hy (by omega) (by omega), cmp_same]
  have rab := fun k => rot_abs k (a, b)
  obtain ⟨⟨m, n⟩, hmn⟩ : ∃ P : PN, rot (p % 4) (a, b) = P := ⟨_, rfl⟩
  obtain ⟨⟨u, v⟩, huv⟩ : ∃ P : PN, rot ((p + q) % 4) (a, b) = P := ⟨_, rfl⟩
  have hqq : rot (q % 4) (m, n) = (u, v) := by rw [← hmn, rot_mod, rot_mod, rot_add, ← huv, rot_mod]
  have am : m.natAbs ≤ 2147483648 ∧ n.natAbs ≤ 2147483648 := by
    have := rab (p % 4)
    rw [hmn] at this
    simp only at this
    omega
  have au : u.natAbs ≤ 2147483648 ∧ v.natAbs ≤ 2147483648 := by
    have := rab ((p + q) % 4)
    rw [huv] at this
    simp only at this
    omega
  have o3 := same u (by omega)
  have o4 := same v (by omega)
  have o5 := same (-b) (by omega)
  have o6 := same (-a) (by omega)
  have o7 := same (a + c) (by omega)
  have o8 := same (b + d) (by omega)
  have o9 := same c (by omega)
  have o10 := same d (by omega)
  have hadd : ∀ (t : TypeId) (w : World), (binOp .add t (.complex .f64 (fl a) (fl b)) (.complex .f64 (fl c) (fl d))).run Try.prog w = .ok (.complex .f64 (fl (a + c)) (fl (b + d))) w := fun t w =>
    run_complex_sum w .add (.inl rfl) t .f64 _ _ _ _ _ _ (by
      unfold cSumBits
      rw [add_fl a c (by omega) (by omega) (by omega), add_fl b d (by omega) (by omega) (by omega)]
      rfl)
  obtain ⟨k, hk⟩ : ∃ k, (if cmpI a c = 0 then cmpI b d else cmpI a c) = k := ⟨_, rfl⟩
  have HT1 := hide fun w => turn_to a b p m n w (by omega) (by omega) (by omega) hmn
  have HT2 := hide fun w => turn_to m n q u v w (by omega) (by omega) (by omega) hqq
  have HT3 := hide fun w => turn_to a b (p + q) u v w (by omega) (by omega) (by omega) huv
  have HT4 := hide fun w => turn_to a b 1 (-b) a w (by omega) (by omega) (by omega) rfl
  have HM1 := hide fun w => mirror_any (-b) a w (by omega) (by omega)
  have HM2 := hide fun w => mirror_any a b w (by omega) (by omega)
  have HT5 := hide fun w => turn_to a (-b) 3 (-b) (-a) w (by omega) (by omega) (by omega) (by simp [rot])
  have HT6 := hide fun w => turn_to a b 2 (-a) (-b) w (by omega) (by omega) (by omega) (by simp [rot])
  have HA1 := hide fun w => add_to a b c d (a + c) (b + d) w ha hb hc hd rfl rfl
  have HA2 := hide fun w => add_to c d a b (a + c) (b + d) w hc hd ha hb (Int.add_comm _ _) (Int.add_comm _ _)
  have HC1 := hide fun w => cmp_to a b c d k w ha hb hc hd hk
  have HC2 := hide fun w => cmp_to c d a b (-k) w hc hd ha hb (cmp_neg a b c d k hk)
  have HS := hide fun g w hr => sum3_any g a b c d w ha hb hc hd hr
  have Hk := hide (cmp_one a b c d k hk)
  have HO1 := hide fun w => of_any a b w (by omega) (by omega)
  have HO2 := hide fun w => of_any c d w (by omega) (by omega)
  clear same rab hmn huv hqq am au hk ha hb hc hd hx hy hxy
  go_enter Try.func4, Try.ntmps4
  go_wp2_with fail
  refine (awake_any _).mono ?_
  rintro e w1 ⟨rfl, rfl⟩
  go_wp2_with fail
  refine (HO1.out _).mono ?_
  rintro e w1 ⟨rfl, rfl⟩
  go_wp2_with fail
  refine (HO2.out _).mono ?_
  rintro e w1 ⟨rfl, rfl⟩
  go_wp2_with fail
  refine (HT4.out _).mono ?_
  rintro e w1 ⟨rfl, rfl⟩
  go_wp2_with fail
  refine (HT1.out _).mono ?_
  rintro e w1 ⟨rfl, rfl⟩
  go_wp2_with fail
  refine (HT2.out _).mono ?_
  rintro e w1 ⟨rfl, rfl⟩
  go_wp2_with fail
  refine (HT3.out _).mono ?_
  rintro e w1 ⟨rfl, rfl⟩
  go_wp2_with fail
  refine (HT4.out _).mono ?_
  rintro e w1 ⟨rfl, rfl⟩
  go_wp2_with fail
  refine (HM1.out _).mono ?_
  rintro e w1 ⟨rfl, rfl⟩
  go_wp2_with fail
  refine (HM2.out _).mono ?_
  rintro e w1 ⟨rfl, rfl⟩
  go_wp2_with fail
  refine (HT5.out _).mono ?_
  rintro e w1 ⟨rfl, rfl⟩
  go_wp2_with fail
  refine (HA1.out _).mono ?_
  rintro e w1 ⟨rfl, rfl⟩
  go_wp2_with fail
  refine (HA2.out _).mono ?_
  rintro e w1 ⟨rfl, rfl⟩
  go_wp2_with fail
  refine (HA1.out _).mono ?_
  rintro e w1 ⟨rfl, rfl⟩
  go_wp2_with fail
  refine (HT6.out _).mono ?_
  rintro e w1 ⟨rfl, rfl⟩
  go_wp2_with fail
  refine (HS.out _ _ (rd_new3 _ _ _ _ _)).mono ?_
  rintro e w1 ⟨rfl, rfl⟩
  go_wp2_with fail
  rcases Hk.out with rfl | rfl | rfl
  all_goals
    refine (HC1.out _).mono ?_
    rintro e w1 ⟨rfl, rfl⟩
    go_wp2_with fail
    refine (HC2.out _).mono ?_
    rintro e w1 ⟨rfl, rfl⟩
    go_wp2_with fail
    go_ret
    exact ⟨rfl, (Below.refl _ _).alloc (Nat.le_refl _) _⟩
end Go.Proofs.Ytnabckcdffpimaa
