/-
  Whole numbers as floats of 64 bits: sums, products, order of such are exact as long as they are below 2^53. Conditions: none; nothing here speaks of the program.
-/
import Derived.Laws.FloatArith
import Derived.Laws.ComplexArith
namespace Go.Proofs.Ytnabckcdffpimaa
open Ieee

theorem cut_zero (s : Bool) (n : Nat) : Toward.even.cut s n 0 = n := by
  simp [Toward.cut, Nat.mod_one]
theorem cut_exact (s : Bool) (n d : Nat) (h : d ≤ (n * 2 ^ d).log2 + 2) : Toward.even.cut s (n * 2 ^ d) d = n := by
  unfold Toward.cut
  rw [Nat.min_eq_left h, Nat.one_shiftLeft]
  have hp : 0 < 2 ^ d := Nat.two_pow_pos d
  simp [Nat.mul_div_cancel _ hp, Nat.mul_mod_left]

theorem log2_mul_pow (m k : Nat) (hm : m ≠ 0) : (m * 2 ^ k).log2 = m.log2 + k := by
  have h1 := Nat.log2_self_le hm
  have h2 := @Nat.lt_log2_self m
  have hne : m * 2 ^ k ≠ 0 := Nat.mul_ne_zero hm (Nat.pos_iff_ne_zero.1 (Nat.two_pow_pos k))
  apply Nat.le_antisymm
  · have : (m * 2 ^ k).log2 < m.log2 + 1 + k := by
      rw [Nat.log2_lt hne, Nat.pow_add]
      exact Nat.mul_lt_mul_of_pos_right h2 (Nat.two_pow_pos k)
    omega
  · rw [Nat.le_log2 hne, Nat.pow_add]
    exact Nat.mul_le_mul_right _ h1

theorem log2_small {m : Nat} (hm : m ≠ 0) (h : m < 2 ^ 53) : m.log2 ≤ 52 := by
  have : m.log2 < 53 := (Nat.log2_lt hm).2 h
  omega

/-- The word of a whole number, written out. -/
theorem nearest_small (s : Bool) (m k : Nat) (hm : m ≠ 0) (h : m < 2 ^ 53) :
    double.nearest s (m * 2 ^ k) (-(k : Int)) = double.word s ((1074 - (52 - m.log2)) * 2 ^ 52 + m * 2 ^ (52 - m.log2)) := by
  have hl := log2_small hm h
  have hne : m * 2 ^ k ≠ 0 := Nat.mul_ne_zero hm (Nat.pos_iff_ne_zero.1 (Nat.two_pow_pos k))
  have hL : double.leastPlace = -1074 := by decide +kernel
  have hF : double.fractionBits = 52 := rfl
  have hB : double.binade = 2 ^ 52 := rfl
  have hI : double.infRung = 2047 * 2 ^ 52 := by decide +kernel
  unfold Format.nearest
  rw [if_neg hne, log2_mul_pow m k hm, hL, hF, hB, hI]
  obtain ⟨t, ht⟩ : ∃ t, 52 - m.log2 = t := ⟨_, rfl⟩
  have hlast : max (-(k : Int) + ((m.log2 + k : Nat) : Int) - ((52 : Nat) : Int)) (-1074) = -(t : Int) := by omega
  simp only [hlast, ht]
  have hkept : Toward.even.cut s ((m * 2 ^ k) <<< (-(k : Int) - -(t : Int)).toNat) (-(t : Int) - -(k : Int)).toNat = m * 2 ^ t := by
    by_cases hkt : k ≤ t
    · rw [show (-(t : Int) - -(k : Int)).toNat = 0 by omega, cut_zero, Nat.shiftLeft_eq, show (-(k : Int) - -(t : Int)).toNat = t - k by omega, Nat.mul_assoc, ← Nat.pow_add, show k + (t - k) = t by omega]
    · rw [show (-(k : Int) - -(t : Int)).toNat = 0 by omega, Nat.shiftLeft_zero, show (-(t : Int) - -(k : Int)).toNat = k - t by omega, show m * 2 ^ k = (m * 2 ^ t) * 2 ^ (k - t) by rw [Nat.mul_assoc, ← Nat.pow_add, show t + (k - t) = k by omega]]
      refine cut_exact s _ _ ?_
      rw [Nat.mul_assoc, ← Nat.pow_add, log2_mul_pow m _ hm]
      omega
  rw [hkept]
  have hmt : m * 2 ^ t < 2 ^ 53 := by
    have h2 := @Nat.lt_log2_self m
    calc m * 2 ^ t < 2 ^ (m.log2 + 1) * 2 ^ t := Nat.mul_lt_mul_of_pos_right h2 (Nat.two_pow_pos t)
      _ = 2 ^ 53 := by rw [← Nat.pow_add]; congr 1; omega
  have hmin : min ((-(t : Int) - -1074).toNat * 2 ^ 52 + m * 2 ^ t) (2047 * 2 ^ 52) = (1074 - t) * 2 ^ 52 + m * 2 ^ t := by
    rw [show (-(t : Int) - -1074).toNat = 1074 - t by omega]
    refine Nat.min_eq_left ?_
    have : (1074 - t) * 2 ^ 52 ≤ 1074 * 2 ^ 52 := Nat.mul_le_mul_right _ (by omega)
    exact Nat.le_trans (Nat.add_le_add this (Nat.le_of_lt hmt)) (by decide)
  rw [hmin]

/-- It is read back. -/
theorem read_small (s : Bool) (m : Nat) (hm : m ≠ 0) (h : m < 2 ^ 53) :
    double.read (double.nearest s m 0) = .number s (m * 2 ^ (52 - m.log2)) (-((52 - m.log2 : Nat) : Int)) := by
  have h0 := nearest_small s m 0 hm h
  simp only [Nat.pow_zero, Nat.mul_one, Int.natCast_zero, Int.neg_zero] at h0
  rw [h0]
  have hl := log2_small hm h
  obtain ⟨t, ht⟩ : ∃ t, 52 - m.log2 = t := ⟨_, rfl⟩
  simp only [ht]
  have h1 : 2 ^ 52 ≤ m * 2 ^ t := by
    have h2 := Nat.log2_self_le hm
    calc 2 ^ 52 = 2 ^ m.log2 * 2 ^ t := by rw [← Nat.pow_add]; congr 1; omega
      _ ≤ m * 2 ^ t := Nat.mul_le_mul_right _ h2
  have hmt : m * 2 ^ t < 2 ^ 53 := by
    have h2 := @Nat.lt_log2_self m
    calc m * 2 ^ t < 2 ^ (m.log2 + 1) * 2 ^ t := Nat.mul_lt_mul_of_pos_right h2 (Nat.two_pow_pos t)
      _ = 2 ^ 53 := by rw [← Nat.pow_add]; congr 1; omega
  obtain ⟨q, hq⟩ : ∃ q, m * 2 ^ t = 2 ^ 52 + q := ⟨m * 2 ^ t - 2 ^ 52, by omega⟩
  have hq2 : q < 2 ^ 52 := by omega
  rw [hq]
  obtain ⟨u, hu⟩ : ∃ u, 1075 - t = u := ⟨_, rfl⟩
  have hrung : (1074 - t) * 2 ^ 52 + (2 ^ 52 + q) = u * 2 ^ 52 + q := by
    rw [← hu, show 1075 - t = (1074 - t) + 1 by omega, Nat.add_mul]; omega
  rw [hrung]
  have hL : double.leastPlace = -1074 := by decide +kernel
  have hB : double.binade = 2 ^ 52 := rfl
  have hI : double.infRung = 2047 * 2 ^ 52 := by decide +kernel
  have hS : double.signWeight = 2048 * 2 ^ 52 := by decide +kernel
  have hu1 : 1023 ≤ u ∧ u ≤ 1075 := by omega
  have hlt : u * 2 ^ 52 + q < 2048 * 2 ^ 52 := by omega
  unfold Format.read Format.word
  rw [hS, hB, hI, hL]
  have hneg : ((if s = true then 2048 * 2 ^ 52 + (u * 2 ^ 52 + q) else u * 2 ^ 52 + q) / (2048 * 2 ^ 52) % 2 == 1) = s := by
    cases s with
    | false => simp; omega
    | true => simp; omega
  have hr : (if s = true then 2048 * 2 ^ 52 + (u * 2 ^ 52 + q) else u * 2 ^ 52 + q) % (2048 * 2 ^ 52) = u * 2 ^ 52 + q := by
    cases s with
    | false => simp; omega
    | true => simp; omega
  simp only [hneg, hr]
  rw [if_neg (by omega), if_pos (by omega)]
  have h3 : (u * 2 ^ 52 + q) % 2 ^ 52 = q := by omega
  have h4 : (u * 2 ^ 52 + q) / 2 ^ 52 = u := by omega
  rw [h3, h4]
  congr 1
  omega

/-- The word of a whole number. -/
def fl (n : Int) : Nat := double.nearest (decide (n < 0)) n.natAbs 0
theorem fl_ofInt (n : Int) : floatOfInt .f64 n = fl n := rfl
/-- The other zero. -/
def nz : Nat := double.word true 0
/-- x stands for the whole number n. -/
def Wh (x : Nat) (n : Int) : Prop := x = fl n ∨ (n = 0 ∧ x = nz)
theorem wh_fl (n : Int) : Wh (fl n) n := .inl rfl
theorem fl_zero : fl 0 = 0 := by decide +kernel
theorem nz_ne : nz ≠ fl 0 := by decide +kernel

theorem Wh.read {x : Nat} {n : Int} (h : Wh x n) (hn : n.natAbs < 2 ^ 53) :
    ∃ (s : Bool) (t : Nat), double.read x = .number s (n.natAbs * 2 ^ t) (-(t : Int)) ∧ (n ≠ 0 → s = decide (n < 0)) ∧ (n = 0 → s = decide (x = nz)) := by
  rcases h with rfl | ⟨rfl, rfl⟩
  · by_cases h0 : n = 0
    · subst h0
      refine ⟨false, 1074, by decide +kernel, fun h => absurd rfl h, fun _ => ?_⟩
      rw [decide_eq_false (fun h => nz_ne h.symm)]
    · exact ⟨decide (n < 0), 52 - n.natAbs.log2, read_small _ _ (by omega) hn, fun _ => rfl, fun h => absurd h h0⟩
  · exact ⟨true, 1074, by decide +kernel, fun h => absurd rfl h, fun _ => by simp⟩

theorem signed_eq {n : Int} {s : Bool} (hs : n ≠ 0 → s = decide (n < 0)) {t k : Nat} (h : t ≤ k) : signed s (n.natAbs * 2 ^ t) (k - t) = n * 2 ^ k := by
  have h1 : (n.natAbs * 2 ^ t) <<< (k - t) = n.natAbs * 2 ^ k := by
    rw [Nat.shiftLeft_eq, Nat.mul_assoc, ← Nat.pow_add, Nat.add_sub_cancel' h]
  unfold signed
  rw [h1]
  by_cases h0 : n = 0
  · subst h0; simp
  · rw [hs h0]
    by_cases hn : n < 0
    · simp only [hn, decide_true, if_true, Int.natCast_mul, Int.natCast_pow]
      rw [show ((n.natAbs : Nat) : Int) = -n by omega]
      simp [Int.neg_mul]
    · simp only [hn, decide_false, Bool.false_eq_true, if_false, Int.natCast_mul, Int.natCast_pow]
      rw [show ((n.natAbs : Nat) : Int) = n by omega]
      rfl

theorem nearest_wh (s : Bool) (n : Int) (k : Nat) (h : n.natAbs < 2 ^ 53) (hs : n ≠ 0 → s = decide (n < 0)) :
    double.nearest s (n.natAbs * 2 ^ k) (-(k : Int)) = if n = 0 ∧ s = true then nz else fl n := by
  by_cases h0 : n = 0
  · subst h0
    cases s
    · simp [Format.nearest, fl_zero]; rfl
    · simp [Format.nearest, nz]
  · rw [if_neg (fun h => h0 h.1), nearest_small s n.natAbs k (by omega) h]
    have h1 := nearest_small s n.natAbs 0 (by omega) h
    simp only [Nat.pow_zero, Nat.mul_one, Int.natCast_zero, Int.neg_zero] at h1
    rw [← h1, hs h0]
    rfl

theorem add_wh {x y : Nat} {a b : Int} (hx : Wh x a) (hy : Wh y b) (ha : a.natAbs < 2 ^ 53) (hb : b.natAbs < 2 ^ 53) (hab : (a + b).natAbs < 2 ^ 53) :
    double.add x y = some (if x = nz ∧ y = nz then nz else fl (a + b)) := by
  obtain ⟨s, i, h1, h2, h3⟩ := hx.read ha
  obtain ⟨t, j, h4, h5, h6⟩ := hy.read hb
  unfold Format.add
  rw [h1, h4]
  simp only [Datum.sum]
  obtain ⟨k, hk⟩ : ∃ k, max i j = k := ⟨_, rfl⟩
  have hbase : min (-(i : Int)) (-(j : Int)) = -(k : Int) := by omega
  rw [hbase, show (-(i : Int) - -(k : Int)).toNat = k - i by omega, show (-(j : Int) - -(k : Int)).toNat = k - j by omega, signed_eq h2 (by omega), signed_eq h5 (by omega), ← Int.add_mul]
  have hp : (2 : Int) ^ k ≠ 0 := Int.pow_ne_zero (by decide)
  have hpp : (0 : Int) < 2 ^ k := Int.pow_pos (by decide)
  have hz : ((a + b) * 2 ^ k = 0) ↔ a + b = 0 := by simp [Int.mul_eq_zero, hp]
  have hneg : ((a + b) * 2 ^ k < 0) ↔ a + b < 0 := by
    constructor
    · intro h
      by_cases h0 : a + b < 0
      · exact h0
      · have := Int.mul_nonneg (show 0 ≤ a + b by omega) (Int.le_of_lt hpp)
        omega
    · intro h
      exact Int.mul_neg_of_neg_of_pos h hpp
  have habs : ((a + b) * 2 ^ k).natAbs = (a + b).natAbs * 2 ^ k := by rw [Int.natAbs_mul, Int.natAbs_pow]; rfl
  simp only [hz, hneg, habs, Option.map_some, Format.write]
  rw [nearest_wh _ _ _ hab (fun h => by rw [if_neg h])]
  congr 1
  by_cases h0 : a + b = 0
  · rw [if_pos h0]
    by_cases ha0 : a = 0
    · have hb0 : b = 0 := by omega
      rw [h3 ha0, h6 hb0]
      simp [h0]
    · have hb0 : b ≠ 0 := by omega
      rw [h2 ha0, h5 hb0, if_neg (by simp; omega), if_neg]
      rintro ⟨h7, _⟩
      rcases hx with h8 | ⟨h8, _⟩
      · subst h8
        have := h1
        rw [h7] at this
        have h9 : double.read nz = .number true 0 (-1074) := by decide +kernel
        rw [h9] at this
        injection this with e1 e2 e3
        have := Nat.mul_eq_zero.1 e2.symm
        have hp2 : 0 < 2 ^ i := Nat.two_pow_pos i
        omega
      · exact ha0 h8
  · rw [if_neg (fun h => h0 h.1), if_neg]
    rintro ⟨rfl, rfl⟩
    have key : ∀ c : Int, Wh nz c → c.natAbs < 2 ^ 53 → c = 0 := by
      intro c hc hcl
      obtain ⟨s', i', h7, _, _⟩ := hc.read hcl
      have h9 : double.read nz = .number true 0 (-1074) := by decide +kernel
      rw [h9] at h7
      injection h7 with e1 e2 e3
      have := Nat.mul_eq_zero.1 e2.symm
      have hp2 : 0 < 2 ^ i' := Nat.two_pow_pos i'
      omega
    have := key a hx ha
    have := key b hy hb
    omega

theorem order_wh {x y : Nat} {a b : Int} (hx : Wh x a) (hy : Wh y b) (ha : a.natAbs < 2 ^ 53) (hb : b.natAbs < 2 ^ 53) : double.order x y = some (compare a b) := by
  obtain ⟨s, i, h1, h2, h3⟩ := hx.read ha
  obtain ⟨t, j, h4, h5, h6⟩ := hy.read hb
  unfold Format.order
  rw [h1, h4]
  simp only [Datum.order]
  obtain ⟨k, hk⟩ : ∃ k, max i j = k := ⟨_, rfl⟩
  have hbase : min (-(i : Int)) (-(j : Int)) = -(k : Int) := by omega
  rw [hbase, show (-(i : Int) - -(k : Int)).toNat = k - i by omega, show (-(j : Int) - -(k : Int)).toNat = k - j by omega, signed_eq h2 (by omega), signed_eq h5 (by omega)]
  have hpp : (0 : Int) < 2 ^ k := Int.pow_pos (by decide)
  congr 1
  simp only [compare, compareOfLessAndEq]
  have hlt : a * 2 ^ k < b * 2 ^ k ↔ a < b := Int.mul_lt_mul_right hpp
  have heq : a * 2 ^ k = b * 2 ^ k ↔ a = b := ⟨fun h => Int.eq_of_mul_eq_mul_right (by omega) h, fun h => by rw [h]⟩
  simp only [hlt, heq]

theorem mul_wh {x y : Nat} {a b : Int} (hx : Wh x a) (hy : Wh y b) (ha : a.natAbs < 2 ^ 53) (hb : b.natAbs < 2 ^ 53) (hab : (a * b).natAbs < 2 ^ 53) :
    ∃ r, double.mul x y = some r ∧ Wh r (a * b) := by
  obtain ⟨s, i, h1, h2, h3⟩ := hx.read ha
  obtain ⟨t, j, h4, h5, h6⟩ := hy.read hb
  unfold Format.mul
  rw [h1, h4]
  simp only [Datum.product, Option.map_some, Format.write]
  refine ⟨_, rfl, ?_⟩
  rw [show a.natAbs * 2 ^ i * (b.natAbs * 2 ^ j) = (a * b).natAbs * 2 ^ (i + j) by rw [Int.natAbs_mul, Nat.pow_add]; ac_rfl, show -(i : Int) + -(j : Int) = -((i + j : Nat) : Int) by omega]
  rw [nearest_wh _ _ _ hab]
  · split
    · exact .inr ⟨(by assumption : _ ∧ _).1, rfl⟩
    · exact .inl rfl
  · intro h
    have ha0 : a ≠ 0 := fun e => h (by rw [e, Int.zero_mul])
    have hb0 : b ≠ 0 := fun e => h (by rw [e, Int.mul_zero])
    rw [h2 ha0, h5 hb0]
    rcases Int.lt_or_lt_of_ne ha0 with h7 | h7 <;> rcases Int.lt_or_lt_of_ne hb0 with h8 | h8
    · have := Int.mul_pos_of_neg_of_neg h7 h8
      simp [h7, h8]; omega
    · have := Int.mul_neg_of_neg_of_pos h7 h8
      simp [h7, this]; omega
    · have := Int.mul_neg_of_pos_of_neg h7 h8
      simp [h8, this]; omega
    · have := Int.mul_pos h7 h8
      have h9 : ¬ a < 0 := by omega
      have h10 : ¬ b < 0 := by omega
      have h11 : ¬ a * b < 0 := by omega
      simp [h9, h10, h11]

theorem cut_any (way : Toward) (s : Bool) (n d : Nat) (h : d ≤ (n * 2 ^ d).log2 + 2 ∨ n = 0) : way.cut s (n * 2 ^ d) d = n := by
  rcases h with h | rfl
  · unfold Toward.cut
    rw [Nat.min_eq_left h, Nat.one_shiftLeft]
    have hp : 0 < 2 ^ d := Nat.two_pow_pos d
    cases way <;> simp [Nat.mul_div_cancel _ hp, Nat.mul_mod_left]
  · unfold Toward.cut
    cases way <;> simp

theorem int_wh {x : Nat} {n : Int} (h : Wh x n) (hn : n.natAbs < 2 ^ 53) (way : Toward) : (double.read x).toInt way = some n := by
  obtain ⟨s, t, h1, h2, _⟩ := h.read hn
  rw [h1]
  simp only [Datum.toInt, Datum.integral]
  rw [show (-(t : Int)).toNat = 0 by omega, Nat.shiftLeft_zero, show (- -(t : Int)).toNat = t by omega, cut_any]
  · have := signed_eq h2 (Nat.le_refl 0)
    simpa using this
  · by_cases h0 : n.natAbs = 0
    · exact .inr h0
    · left
      rw [log2_mul_pow _ _ h0]
      omega
end Go.Proofs.Ytnabckcdffpimaa
