/-
  Contracts of the floats' small functions and of a pair's: whole, held, tidy, Is, Add. Conditions: whole numbers below 2^53.
-/
import Derived.Test.YtnabckcdffpimaaChecked
import Derived.Test.YtnabckcdffpimaaBase
import Derived.Test.YtnabckcdffpimaaFl
import Derived.Laws.BitsAllLaws
import Derived.Laws.Externs
namespace Go.Proofs.Ytnabckcdffpimaa
open Go.RowKit Ieee

theorem f64_format : FloatKind.f64.format = double := rfl
theorem f64_decode (x : Nat) : FloatKind.f64.decode x = double.read x := rfl
theorem f64_encode (d : Datum) : FloatKind.f64.encode d = double.write d := rfl

/-- The greatest of a pair's numbers. -/
abbrev M : Int := 1099511627776
theorem fl_M : fl M = 4787326403894837248 := by decide +kernel
theorem fl_nM : fl (-M) = 14010698440749613056 := by decide +kernel

theorem fl_word (n : Int) (hn : n.natAbs < 2 ^ 53) : ∃ r : Nat, r < 2 ^ 63 ∧ (∀ s : Bool, double.nearest s n.natAbs 0 = double.word s r) := by
  by_cases h0 : n = 0
  · subst h0
    exact ⟨0, by decide, fun s => rfl⟩
  · have hl := log2_small (by omega : n.natAbs ≠ 0) hn
    have h1 : n.natAbs * 2 ^ (52 - n.natAbs.log2) < 2 ^ 53 := by
      have h2 := @Nat.lt_log2_self n.natAbs
      calc n.natAbs * 2 ^ (52 - n.natAbs.log2) < 2 ^ (n.natAbs.log2 + 1) * 2 ^ (52 - n.natAbs.log2) := Nat.mul_lt_mul_of_pos_right h2 (Nat.two_pow_pos _)
        _ = 2 ^ 53 := by rw [← Nat.pow_add]; congr 1; omega
    refine ⟨(1074 - (52 - n.natAbs.log2)) * 2 ^ 52 + n.natAbs * 2 ^ (52 - n.natAbs.log2), ?_, fun s => ?_⟩
    · have h3 : (1074 - (52 - n.natAbs.log2)) * 2 ^ 52 ≤ 1074 * 2 ^ 52 := Nat.mul_le_mul_right _ (by omega)
      exact Nat.lt_of_lt_of_le (Nat.add_lt_add_of_le_of_lt h3 h1) (by decide)
    · have := nearest_small s n.natAbs 0 (by omega) hn
      simpa using this
theorem fl_neg (n : Int) (h : n < 0) (hn : n.natAbs < 2 ^ 53) : fl n = 2 ^ 63 + fl (-n) ∧ fl (-n) < 2 ^ 63 := by
  obtain ⟨r, hr, hw⟩ := fl_word n hn
  unfold fl
  rw [decide_eq_true h, decide_eq_false (by omega), Int.natAbs_neg, hw, hw]
  exact ⟨rfl, hr⟩
theorem fl_pos (n : Int) (h : 0 ≤ n) (hn : n.natAbs < 2 ^ 53) : fl n < 2 ^ 63 := by
  obtain ⟨r, hr, hw⟩ := fl_word n hn
  unfold fl
  rw [decide_eq_false (by omega), hw]
  exact hr

theorem trunc_fl (n : Int) (hn : n.natAbs < 2 ^ 53) : (∀ s t, double.read (fl n) ≠ .nan s t) ∧ double.write ((double.read (fl n)).integral .zero) = fl n := by
  obtain ⟨s, t, h1, h2, h3⟩ := (wh_fl n).read hn
  rw [h1]
  refine ⟨fun s t h => (by cases h), ?_⟩
  simp only [Datum.integral, Format.write]
  rw [show (-(t : Int)).toNat = 0 by omega, Nat.shiftLeft_zero, show (- -(t : Int)).toNat = t by omega, cut_any]
  · have := nearest_wh s n 0 hn h2
    simp only [Nat.pow_zero, Nat.mul_one, Int.natCast_zero, Int.neg_zero] at this
    rw [this, if_neg]
    rintro ⟨e, hs⟩
    rw [h3 e, e, decide_eq_true_eq] at hs
    exact nz_ne hs.symm
  · by_cases h0 : n.natAbs = 0
    · exact .inr h0
    · left
      rw [log2_mul_pow _ _ h0]
      omega

theorem toIntegral_number (nm : String) (way : Toward) (x : Nat) (s : Bool) (m : Nat) (e : Int) (h : double.read x = .number s m e) :
    Extern.MathFloor.toIntegral nm way #[.float .f64 x] = pure (.float .f64 (double.write ((Datum.number s m e).integral way))) := by
  show (match FloatKind.f64.decode x with | .nan s t => _ | d => pure (Value.float .f64 (FloatKind.f64.encode (d.integral way)))) = _
  rw [f64_decode, h]
  rfl

theorem run46 (n : Int) (w : World) (hn : n.natAbs < 2 ^ 53) : (callFunc 46 #[.float .f64 (fl n)]).run Try.prog w = .ok (.value (.float .f64 (fl n))) w := by
  obtain ⟨h1, h2⟩ := trunc_fl n hn
  have hrun : Extern.MathFloor.toIntegral "math.archTrunc" .zero #[.float .f64 (fl n)] = pure (.float .f64 (fl n)) := by
    obtain ⟨s, t, h3, h4, h5⟩ := (wh_fl n).read hn
    rw [toIntegral_number _ _ _ _ _ _ h3, ← h3, h2]
  rw [run_callFunc_extern (e := Extern.MathFloor.toIntegral "math.archTrunc" .zero) Try.func46 (by kernel_rfl) (by kernel_rfl) (by kernel_rfl) (by kernel_rfl), hrun]
  rfl
theorem run40 (x : Nat) (w : World) : (callFunc 40 #[.float .f64 x]).run Try.prog w = .ok (.value (.int .u64 x)) w := by
  rw [run_callFunc_extern (e := Extern.MathFloatBits.float64bits) Try.func40 (by kernel_rfl) (by kernel_rfl) (by kernel_rfl) (by kernel_rfl)]
  rfl
theorem run48 (x : Nat) (w : World) : (callFunc 48 #[.int .u64 x]).run Try.prog w = .ok (.value (.float .f64 x)) w := by
  rw [run_callFunc_extern (e := Extern.MathFloatBits.float64frombits) Try.func48 (by kernel_rfl) (by kernel_rfl) (by kernel_rfl) (by kernel_rfl)]
  rfl

set_option maxHeartbeats 1000000 in
theorem trunc_any (n : Int) (w : World) (hn : n.natAbs < 2 ^ 53) : Calls Try.prog 44 #[.float .f64 (fl n)] w fun e w' => e = .returned (.float .f64 (fl n)) ∧ w = w' := by
  have hrun := run46 n w hn
  go_enter Try.func44, Try.ntmps44
  go_wp2_with fail
  go_ret
  exact ⟨rfl, rfl⟩

theorem fl_lt (n : Int) (hn : n.natAbs < 2 ^ 53) : fl n < 2 ^ 64 := by
  by_cases h : n < 0
  · have := fl_neg n h hn; omega
  · have := fl_pos n (by omega) hn; omega
theorem fl_mod (n : Int) (hn : n.natAbs < 2 ^ 53) : fl n % 2 ^ 63 = fl (n.natAbs : Nat) := by
  by_cases h : n < 0
  · obtain ⟨h1, h2⟩ := fl_neg n h hn
    rw [h1, show ((n.natAbs : Nat) : Int) = -n by omega]
    omega
  · rw [show ((n.natAbs : Nat) : Int) = n by omega]
    exact Nat.mod_eq_of_lt (fl_pos n (by omega) hn)
theorem andNot_top (x : Nat) (hx : x < 2 ^ 64) : bits .andNot .u64 (x : Int) 9223372036854775808 = ((x % 2 ^ 63 : Nat) : Int) := by
  have := u64_andNot_nat x 9223372036854775808 (by omega) (by decide)
  rw [show ((9223372036854775808 : Nat) : Int) = 9223372036854775808 from rfl] at this
  rw [this, show 18446744073709551615 - 9223372036854775808 = 2 ^ 63 - 1 by decide, Nat.and_two_pow_sub_one_eq_mod]

set_option maxHeartbeats 1000000 in
theorem signbit_any (n : Int) (w : World) (hn : n.natAbs < 2 ^ 53) : Calls Try.prog 31 #[.float .f64 (fl n)] w fun e w' => e = .returned (.bool (decide (n < 0))) ∧ w = w' := by
  have hrun := run40 (fl n) w
  have hw : decide (wrap64 (fl n : Int) < 0) = decide (n < 0) := by
    unfold wrap64
    by_cases h : n < 0
    · have := fl_neg n h hn
      simp [h]; omega
    · have := fl_pos n (by omega) hn
      simp [h]; omega
  go_enter Try.func31, Try.ntmps31
  go_wp2_with fail
  go_ret
  exact ⟨rfl, rfl⟩

set_option maxHeartbeats 1000000 in
theorem abs_any (n : Int) (w : World) (hn : n.natAbs < 2 ^ 53) : Calls Try.prog 45 #[.float .f64 (fl n)] w fun e w' => e = .returned (.float .f64 (fl (n.natAbs : Nat))) ∧ w = w' := by
  have hrun := run40 (fl n) w
  have hb := andNot_top (fl n) (fl_lt n hn)
  rw [fl_mod n hn] at hb
  have hrun2 := run48 (fl (n.natAbs : Nat)) w
  go_enter Try.func45, Try.ntmps45
  go_wp2_with fail
  go_ret
  exact ⟨rfl, rfl⟩

theorem ord_fl (a b : Int) (ha : a.natAbs < 2 ^ 53) (hb : b.natAbs < 2 ^ 53) : FloatKind.f64.format.order (fl a) (fl b) = some (compare a b) := order_wh (wh_fl a) (wh_fl b) ha hb

theorem cmp_le {k : Nat} (h : k ≤ 1099511627776) : compare ((k : Nat) : Int) M = .lt ∨ compare ((k : Nat) : Int) M = .eq := by
  rcases Nat.lt_or_ge k 1099511627776 with h1 | h1
  · left
    simp only [compare, compareOfLessAndEq]
    exact if_pos (by show _ < (1099511627776 : Int); omega)
  · right
    have : ((k : Nat) : Int) = M := by show _ = (1099511627776 : Int); omega
    rw [this]
    simp only [compare, compareOfLessAndEq]
    rw [if_neg (Int.lt_irrefl _), if_pos trivial]
theorem cmp_ne {n : Int} (h : n ≠ 0) : compare n 0 = .lt ∨ compare n 0 = .gt := by
  simp only [compare, compareOfLessAndEq]
  by_cases h1 : n < 0
  · left; exact if_pos h1
  · right; rw [if_neg h1, if_neg h]
theorem cmp_same (n : Int) : compare n n = .eq := by
  simp only [compare, compareOfLessAndEq]
  rw [if_neg (Int.lt_irrefl _), if_pos trivial]

set_option maxHeartbeats 1000000 in
theorem whole_zero (w : World) : Calls Try.prog 39 #[.float .f64 (fl 0)] w fun e w' => e = .returned (.bool true) ∧ w = w' := by
  have hn2 : (0 : Int).natAbs < 2 ^ 53 := by decide
  have o1 : FloatKind.f64.format.order (fl 0) (fl 0) = some .eq := by rw [ord_fl 0 0 hn2 hn2, cmp_same]
  have o2 : FloatKind.f64.format.order (fl ((0 : Int).natAbs : Nat)) 4787326403894837248 = some .lt := by decide +kernel
  have o3 : FloatKind.f64.format.order (fl 0) 0 = some .eq := by decide +kernel
  go_enter Try.func39, Try.ntmps39
  go_wp2_with fail
  refine (trunc_any 0 w hn2).mono ?_
  rintro e w1 ⟨rfl, rfl⟩
  go_wp2_with fail
  refine (abs_any 0 w hn2).mono ?_
  rintro e w1 ⟨rfl, rfl⟩
  go_wp2_with fail
  refine (signbit_any 0 w hn2).mono ?_
  rintro e w1 ⟨rfl, rfl⟩
  go_wp2_with fail
  go_ret
  exact ⟨rfl, rfl⟩

set_option maxHeartbeats 1000000 in
theorem whole_ne (n : Int) (w : World) (c2 c3 : Ordering) (hn2 : n.natAbs < 2 ^ 53) (o2 : FloatKind.f64.format.order (fl (n.natAbs : Nat)) 4787326403894837248 = some c2) (o3 : FloatKind.f64.format.order (fl n) 0 = some c3)
    (h2 : c2 = .lt ∨ c2 = .eq) (h3 : c3 = .lt ∨ c3 = .gt) : Calls Try.prog 39 #[.float .f64 (fl n)] w fun e w' => e = .returned (.bool true) ∧ w = w' := by
  have o1 : FloatKind.f64.format.order (fl n) (fl n) = some .eq := by rw [ord_fl n n hn2 hn2, cmp_same]
  have Hn2 := hide hn2
  clear hn2
  rcases h2 with rfl | rfl <;> rcases h3 with rfl | rfl
  all_goals (
    go_enter Try.func39, Try.ntmps39
    go_wp2_with fail
    refine (trunc_any n w Hn2.out).mono ?_
    rintro e w1 ⟨rfl, rfl⟩
    go_wp2_with fail
    refine (abs_any n w Hn2.out).mono ?_
    rintro e w1 ⟨rfl, rfl⟩
    go_wp2_with fail
    go_ret
    exact ⟨rfl, rfl⟩)

theorem whole_any (n : Int) (w : World) (hn : n.natAbs ≤ 1099511627776) : Calls Try.prog 39 #[.float .f64 (fl n)] w fun e w' => e = .returned (.bool true) ∧ w = w' := by
  by_cases h0 : n = 0
  · subst h0; exact whole_zero w
  · have hn2 : n.natAbs < 2 ^ 53 := by omega
    refine whole_ne n w _ _ hn2 ?_ ?_ (cmp_le hn) (cmp_ne h0)
    · rw [← fl_M]; exact ord_fl _ _ (by simpa using hn2) (by decide)
    · rw [← fl_zero]; exact ord_fl _ _ hn2 (by decide)

/-- A pair's value. -/
abbrev pv (a b : Int) : Value := .complex .f64 (fl a) (fl b)
/-- A number held between its ends. -/
def hold (n : Int) : Int := max (min n M) (-M)
theorem hold_le (n : Int) : (hold n).natAbs ≤ 1099511627776 := by
  have : M = 1099511627776 := rfl
  unfold hold
  omega
theorem hold_same {n : Int} (h : n.natAbs ≤ 1099511627776) : hold n = n := by
  have : M = 1099511627776 := rfl
  unfold hold
  omega

theorem cmp_cases (a b : Int) : (compare a b = .lt ∧ a < b) ∨ (compare a b = .gt ∧ b < a) ∨ (compare a b = .eq ∧ a = b) := by
  simp only [compare, compareOfLessAndEq]
  by_cases h1 : a < b
  · left; exact ⟨if_pos h1, h1⟩
  · right
    by_cases h2 : a = b
    · right; rw [if_neg h1, if_pos h2]; exact ⟨rfl, h2⟩
    · left; rw [if_neg h1, if_neg h2]; exact ⟨rfl, by omega⟩

theorem neg_fl (n : Int) (hn : n.natAbs < 2 ^ 53) (h : 0 ≤ n) : (double.read (fl n)).neg = false := by
  obtain ⟨s, t, h1, h2, h3⟩ := (wh_fl n).read hn
  rw [h1]
  simp only [Datum.neg]
  by_cases h0 : n = 0
  · rw [h3 h0, h0, decide_eq_false (fun e => nz_ne e.symm)]
  · rw [h2 h0, decide_eq_false (by omega)]

/-- The smaller of x and the greatest. -/
theorem run_min_wh {x : Nat} {n : Int} (hx : Wh x n) (hn : n.natAbs < 2 ^ 53) : ∃ r, Wh r (min n M) ∧ ∀ (ts : Array TypeId) (t : TypeId) (w : World), (Builtin.min_ ts t #[.float .f64 x, .float .f64 4787326403894837248]).run Try.prog w = .ok (.float .f64 r) w := by
  have ho : FloatKind.f64.format.order x 4787326403894837248 = some (compare n M) := by
    rw [← fl_M]; exact order_wh hx (wh_fl M) hn (by decide)
  rcases cmp_cases n M with ⟨hc, h⟩ | ⟨hc, h⟩ | ⟨hc, h⟩
  · refine ⟨x, by rw [Int.min_eq_left (by omega)]; exact hx, fun ts t w => ?_⟩
    simp [Builtin.min_, Builtin.min2, ho, hc]
  · refine ⟨fl M, by rw [Int.min_eq_right (by omega)]; exact wh_fl M, fun ts t w => ?_⟩
    simp [Builtin.min_, Builtin.min2, ho, hc, fl_M]
  · have hd : (FloatKind.f64.decode x).neg = false := by
      rcases hx with rfl | ⟨h0, _⟩
      · rw [f64_decode]; exact neg_fl n hn (by rw [h]; decide)
      · rw [h0] at h; exact absurd h (by decide)
    refine ⟨fl M, by rw [Int.min_eq_right (by omega)]; exact wh_fl M, fun ts t w => ?_⟩
    simp [Builtin.min_, Builtin.min2, ho, hc, fl_M, hd]

/-- The greater of x and the least. -/
theorem run_max_wh {x : Nat} {n : Int} (hx : Wh x n) (hn : n.natAbs < 2 ^ 53) : ∃ r, Wh r (max n (-M)) ∧ ∀ (ts : Array TypeId) (t : TypeId) (w : World), (Builtin.max_ ts t #[.float .f64 x, .float .f64 14010698440749613056]).run Try.prog w = .ok (.float .f64 r) w := by
  have ho : FloatKind.f64.format.order x 14010698440749613056 = some (compare n (-M)) := by
    rw [← fl_nM]; exact order_wh hx (wh_fl (-M)) hn (by decide)
  rcases cmp_cases n (-M) with ⟨hc, h⟩ | ⟨hc, h⟩ | ⟨hc, h⟩
  · refine ⟨fl (-M), by rw [Int.max_eq_right (by omega)]; exact wh_fl (-M), fun ts t w => ?_⟩
    simp [Builtin.max_, Builtin.max2, ho, hc, fl_nM]
  · refine ⟨x, by rw [Int.max_eq_left (by omega)]; exact hx, fun ts t w => ?_⟩
    simp [Builtin.max_, Builtin.max2, ho, hc]
  · have hx2 : x = fl (-M) := by
      rcases hx with rfl | ⟨h0, _⟩
      · rw [h]
      · rw [h0] at h; exact absurd h (by decide)
    refine ⟨fl (-M), by rw [Int.max_eq_right (by omega)]; exact wh_fl (-M), fun ts t w => ?_⟩
    by_cases hd : (FloatKind.f64.decode x).neg = true
    · simp [Builtin.max_, Builtin.max2, ho, hc, fl_nM, hd]
    · simp [Builtin.max_, Builtin.max2, ho, hc, hd]
      exact hx2

set_option maxHeartbeats 1000000 in
theorem held_any (x : Nat) (n : Int) (w : World) (hx : Wh x n) (hn : n.natAbs < 2 ^ 53) : Calls Try.prog 41 #[.float .f64 x] w fun e w' => e = .returned (.float .f64 (fl (hold n))) ∧ w = w' := by
  obtain ⟨r1, h1, hmin⟩ := run_min_wh hx hn
  have hM : M = 1099511627776 := rfl
  obtain ⟨r2, h2, hmax⟩ := run_max_wh h1 (by omega)
  have h3 : floatBits .add .f64 r2 0 = some (fl (hold n)) := by
    show double.add r2 0 = _
    have := add_wh h2 (wh_fl 0) (by omega) (by decide) (by omega)
    rw [fl_zero] at this
    rw [this, if_neg (fun h => nz_ne (by rw [fl_zero]; exact h.2.symm)), Int.add_zero]
    rfl
  have hadd : ∀ (t : TypeId) (w : World), (binOp .add t (.float .f64 r2) (.float .f64 0)).run Try.prog w = .ok (.float .f64 (fl (hold n))) w := fun t w => run_float_arith w .add t .f64 _ _ _ h3
  clear h1 h2 h3 hx hn hM
  go_enter Try.func41, Try.ntmps41
  go_wp2_with fail
  go_ret
  exact ⟨rfl, rfl⟩

set_option maxHeartbeats 1000000 in
theorem tidy_any (x y : Nat) (a b : Int) (w : World) (hx : Wh x a) (hy : Wh y b) (ha : a.natAbs < 2 ^ 53) (hb : b.natAbs < 2 ^ 53) :
    Calls Try.prog 32 #[.complex .f64 x y] w fun e w' => e = .returned (pv (hold a) (hold b)) ∧ w = w' := by
  have Hx := hide hx
  have Hy := hide hy
  have Ha := hide ha
  have Hb := hide hb
  clear hx hy ha hb
  go_enter Try.func32, Try.ntmps32
  go_wp2_with fail
  refine (held_any x a w Hx.out Ha.out).mono ?_
  rintro e w1 ⟨rfl, rfl⟩
  go_wp2_with fail
  refine (held_any y b w Hy.out Hb.out).mono ?_
  rintro e w1 ⟨rfl, rfl⟩
  go_wp2_with fail
  go_ret
  exact ⟨rfl, rfl⟩

set_option maxHeartbeats 1000000 in
theorem pairIs_any (a b : Int) (w : World) (ha : a.natAbs ≤ 1099511627776) (hb : b.natAbs ≤ 1099511627776) : Calls Try.prog 30 #[pv a b] w fun e w' => e = .returned (.bool true) ∧ w = w' := by
  have Ha := hide ha
  have Hb := hide hb
  clear ha hb
  go_enter Try.func30, Try.ntmps30
  go_wp2_with fail
  refine (whole_any a w Ha.out).mono ?_
  rintro e w1 ⟨rfl, rfl⟩
  go_wp2_with fail
  refine (whole_any b w Hb.out).mono ?_
  rintro e w1 ⟨rfl, rfl⟩
  go_wp2_with fail
  go_ret
  exact ⟨rfl, rfl⟩

theorem add_fl (a b : Int) (ha : a.natAbs < 2 ^ 53) (hb : b.natAbs < 2 ^ 53) (hab : (a + b).natAbs < 2 ^ 53) : floatBits .add .f64 (fl a) (fl b) = some (fl (a + b)) := by
  show double.add (fl a) (fl b) = _
  have key : ∀ c : Int, c.natAbs < 2 ^ 53 → fl c ≠ nz := by
    intro c hc h
    obtain ⟨s, t, h1, h2, h3⟩ := (wh_fl c).read hc
    have h9 : double.read nz = .number true 0 (-1074) := by decide +kernel
    rw [h, h9] at h1
    injection h1 with e1 e2 e3
    have h4 := Nat.mul_eq_zero.1 e2.symm
    have hp : 0 < 2 ^ t := Nat.two_pow_pos t
    have hc0 : c = 0 := by omega
    rw [hc0] at h
    exact nz_ne h.symm
  rw [add_wh (wh_fl a) (wh_fl b) ha hb hab, if_neg (fun h => key a ha h.1)]

set_option maxHeartbeats 1000000 in
theorem add_any (a b c d : Int) (w : World) (ha : a.natAbs ≤ 1099511627776) (hb : b.natAbs ≤ 1099511627776) (hc : c.natAbs ≤ 1099511627776) (hd : d.natAbs ≤ 1099511627776) :
    Calls Try.prog 15 #[pv a b, pv c d] w fun e w' => e = .returned (pv (hold (a + c)) (hold (b + d))) ∧ w = w' := by
  have h1 : cSumBits .add .f64 (fl a) (fl b) (fl c) (fl d) = some (fl (a + c), fl (b + d)) := by
    unfold cSumBits
    rw [add_fl a c (by omega) (by omega) (by omega), add_fl b d (by omega) (by omega) (by omega)]
    rfl
  have hadd : ∀ (t : TypeId) (w : World), (binOp .add t (.complex .f64 (fl a) (fl b)) (.complex .f64 (fl c) (fl d))).run Try.prog w = .ok (.complex .f64 (fl (a + c)) (fl (b + d))) w := fun t w => run_complex_sum w .add (.inl rfl) t .f64 _ _ _ _ _ _ h1
  have Ha := hide ha
  have Hb := hide hb
  have Hc := hide hc
  have Hd := hide hd
  clear ha hb hc hd h1
  go_enter Try.func15, Try.ntmps15
  go_wp2_with fail
  refine (pairIs_any a b w Ha.out Hb.out).mono ?_
  rintro e w1 ⟨rfl, rfl⟩
  go_wp2_with fail
  refine (pairIs_any c d w Hc.out Hd.out).mono ?_
  rintro e w1 ⟨rfl, rfl⟩
  go_wp2_with fail
  refine (tidy_any _ _ (a + c) (b + d) w (wh_fl _) (wh_fl _) (by have := Ha.out; have := Hc.out; omega) (by have := Hb.out; have := Hd.out; omega)).mono ?_
  rintro e w1 ⟨rfl, rfl⟩
  go_wp2_with fail
  go_ret
  exact ⟨rfl, rfl⟩
end Go.Proofs.Ytnabckcdffpimaa
