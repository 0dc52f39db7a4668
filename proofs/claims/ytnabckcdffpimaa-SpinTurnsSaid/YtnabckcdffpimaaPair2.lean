/-
  Contracts of Of, Hold, Parts, is, Turn, Mirror, Norm, Cmp and of layer 5's example. Conditions: a pair's numbers.
-/
import Derived.Test.YtnabckcdffpimaaPair
import Derived.ScopeJumps
import Derived.WalkLawsBesides
namespace Go.Proofs.Ytnabckcdffpimaa
open Go.RowKit Ieee

/-- The results of Of. -/
abbrev okv (v : Value) : Value := .tuple #[v, .int .i64 0]

set_option maxHeartbeats 1000000 in
theorem of_any (a b : Int) (w : World) (ha : a.natAbs ≤ 1099511627776) (hb : b.natAbs ≤ 1099511627776) :
    Calls Try.prog 9 #[.int .i64 a, .int .i64 b] w fun e w' => e = .returned (okv (pv a b)) ∧ w = w' := by
  have h1 : ¬ (1099511627776 : Int) < (if b > a then b else a) := by split <;> omega
  have h2 : ¬ (if b < a then b else a) < (-1099511627776 : Int) := by split <;> omega
  have f1 : floatOfInt .f64 a = fl a := rfl
  have f2 : floatOfInt .f64 b = fl b := rfl
  clear ha hb
  go_enter Try.func9, Try.ntmps9
  go_wp2_with fail
  all_goals (go_ret2; exact ⟨rfl, rfl⟩)

set_option maxHeartbeats 1000000 in
theorem hold_any (n : Int) (w : World) : Calls Try.prog 10 #[.int .i64 n] w fun e w' => e = .returned (.int .i64 (hold n)) ∧ w = w' := by
  have hM : M = 1099511627776 := rfl
  by_cases h1 : (1099511627776 : Int) < n
  · have e : hold n = 1099511627776 := by unfold hold; omega
    rw [e]
    clear e hM
    go_enter Try.func10, Try.ntmps10
    go_wp2_with fail
    go_ret
    exact ⟨rfl, rfl⟩
  · by_cases h2 : n < (-1099511627776 : Int)
    · have e : hold n = -1099511627776 := by unfold hold; omega
      rw [e]
      clear e hM
      go_enter Try.func10, Try.ntmps10
      go_wp2_with fail
      go_ret
      exact ⟨rfl, rfl⟩
    · have e : hold n = n := by unfold hold; omega
      rw [e]
      clear e hM
      go_enter Try.func10, Try.ntmps10
      go_wp2_with fail
      go_ret
      exact ⟨rfl, rfl⟩

theorem int_fl (n : Int) (hn : n.natAbs ≤ 1099511627776) : floatToIntVal .f64 (fl n) .i64 = some n := by
  unfold floatToIntVal
  rw [f64_decode, int_wh (wh_fl n) (by omega)]
  simp only
  rw [if_pos]
  simp [IntKind.min, IntKind.max, IntKind.signed, IntKind.bits]
  omega

theorem Try.und26s : (Try.prog.underlying 71).isSome = true := by kernel_rfl
theorem Try.und71 : Try.prog.underlying 71 = some (.float .f64) := by kernel_rfl
theorem Try.und2 : Try.prog.underlying 2 = some (.int .i64) := by kernel_rfl

set_option maxHeartbeats 1000000 in
theorem parts_any (a b : Int) (w : World) (ha : a.natAbs ≤ 1099511627776) (hb : b.natAbs ≤ 1099511627776) :
    Calls Try.prog 24 #[pv a b] w fun e w' => e = .returned (.tuple #[.int .i64 a, .int .i64 b, .int .i64 0]) ∧ w = w' := by
  have c1 : ∀ w : World, (convert 71 2 (.float .f64 (fl a))).run Try.prog w = .ok (.int .i64 a) w := fun w => run_convert_float_int w 71 2 .f64 .i64 (fl a) a Try.und26s Try.und2 (int_fl a ha)
  have c2 : ∀ w : World, (convert 71 2 (.float .f64 (fl b))).run Try.prog w = .ok (.int .i64 b) w := fun w => run_convert_float_int w 71 2 .f64 .i64 (fl b) b Try.und26s Try.und2 (int_fl b hb)
  have Ha := hide ha
  have Hb := hide hb
  clear ha hb
  go_enter Try.func24, Try.ntmps24
  go_wp2_with fail
  refine (pairIs_any a b w Ha.out Hb.out).mono ?_
  rintro e w1 ⟨rfl, rfl⟩
  go_wp2_with fail
  exact bodyPost_ret (v := .tuple #[.int .i64 a, .int .i64 b, .int .i64 0]) (by simp [results, Try.results24, go_sem]) rfl ⟨rfl, rfl⟩

set_option maxHeartbeats 2000000 in
theorem is_any (a b : Int) (w : World) (ha : a.natAbs ≤ 1099511627776) (hb : b.natAbs ≤ 1099511627776) :
    Calls Try.prog 11 #[pv a b, .int .i64 a, .int .i64 b] w fun e w' => e = .returned (.bool true) ∧ w = w' := by
  have f1 : floatOfInt .f64 a = fl a := rfl
  have f2 : floatOfInt .f64 b = fl b := rfl
  have o1 : FloatKind.f64.format.order (fl a) (fl a) = some .eq := by rw [ord_fl a a (by omega) (by omega), cmp_same]
  have o2 : FloatKind.f64.format.order (fl b) (fl b) = some .eq := by rw [ord_fl b b (by omega) (by omega), cmp_same]
  have h3 : floatBits .add .f64 (fl a) 0 = some (fl a) := by
    have := add_fl a 0 (by omega) (by decide) (by omega)
    rw [fl_zero, Int.add_zero] at this
    exact this
  have hadd : ∀ (t : TypeId) (w : World), (binOp .add t (.float .f64 (fl a)) (.float .f64 0)).run Try.prog w = .ok (.float .f64 (fl a)) w := fun t w => run_float_arith w .add t .f64 _ _ _ h3
  have Ha := hide ha
  have Hb := hide hb
  clear ha hb h3
  go_enter Try.func11, Try.ntmps11
  go_wp2_with fail
  refine (parts_any a b w Ha.out Hb.out).mono ?_
  rintro e w1 ⟨rfl, rfl⟩
  go_wp2_with fail
  refine (pairIs_any a b w Ha.out Hb.out).mono ?_
  rintro e w1 ⟨rfl, rfl⟩
  go_wp2_with fail
  refine (signbit_any a w (by have := Ha.out; omega)).mono ?_
  rintro e w1 ⟨rfl, rfl⟩
  go_wp2_with fail
  go_ret
  refine ⟨ret_bool ?_, rfl⟩
  by_cases h : a < 0
  · have : ¬ 0 ≤ a := by omega
    simp [h, this]
  · have : 0 ≤ a := by omega
    simp [h, this]

theorem xor_top (r : Nat) (h : r < 2 ^ 63) : r ^^^ 2 ^ 63 = 2 ^ 63 + r := by
  apply Nat.eq_of_testBit_eq
  intro j
  rw [Nat.testBit_xor, Nat.testBit_two_pow]
  rcases Nat.lt_trichotomy j 63 with hj | rfl | hj
  · rw [Nat.testBit_two_pow_add_gt hj]
    simp [show ¬ 63 = j by omega]
  · rw [Nat.testBit_two_pow_add_eq, Nat.testBit_lt_two_pow h]
    simp
  · have hp : 2 ^ 64 ≤ 2 ^ j := Nat.pow_le_pow_right (by decide) (by omega)
    rw [Nat.testBit_lt_two_pow (by omega : r < 2 ^ j), Nat.testBit_lt_two_pow (by omega : 2 ^ 63 + r < 2 ^ j)]
    simp [show ¬ 63 = j by omega]
theorem xor_top2 (r : Nat) (h : r < 2 ^ 63) : (2 ^ 63 + r) ^^^ 2 ^ 63 = r := by
  rw [← xor_top r h, Nat.xor_assoc, Nat.xor_self, Nat.xor_zero]
theorem neg_wh {x : Nat} {n : Int} (hx : Wh x n) (hn : n.natAbs < 2 ^ 53) : Wh (Op.negFloat .f64 x) (-n) := by
  have he : ∀ y, Op.negFloat .f64 y = y ^^^ 2 ^ 63 := fun y => rfl
  rw [he]
  rcases hx with rfl | ⟨rfl, rfl⟩
  · by_cases h : n < 0
    · obtain ⟨h1, h2⟩ := fl_neg n h hn
      left
      rw [h1, xor_top2 _ h2]
    · by_cases h0 : n = 0
      · subst h0
        right
        exact ⟨rfl, by rw [fl_zero]; decide +kernel⟩
      · left
        obtain ⟨h1, h2⟩ := fl_neg (-n) (by omega) (by omega)
        rw [Int.neg_neg] at h1 h2
        rw [h1, xor_top _ h2]
  · left
    decide +kernel

set_option maxHeartbeats 1000000 in
theorem mirror_any (a b : Int) (w : World) (ha : a.natAbs ≤ 1099511627776) (hb : b.natAbs ≤ 1099511627776) :
    Calls Try.prog 14 #[pv a b] w fun e w' => e = .returned (pv a (-b)) ∧ w = w' := by
  have Ha := hide ha
  have Hb := hide hb
  obtain ⟨x, hneg, hw⟩ : ∃ x, Op.unary .neg (.float .f64 (fl b)) = pure (.float .f64 x) ∧ Wh x (-b) := ⟨_, rfl, neg_wh (wh_fl b) (by omega)⟩
  have Hw := hide hw
  clear ha hb hw
  go_enter Try.func14, Try.ntmps14
  go_wp2_with fail
  refine (pairIs_any a b w Ha.out Hb.out).mono ?_
  rintro e w1 ⟨rfl, rfl⟩
  go_wp2_with fail
  refine (tidy_any _ _ a (-b) w (wh_fl a) Hw.out (by have := Ha.out; omega) (by have := Hb.out; omega)).mono ?_
  rintro e w1 ⟨rfl, rfl⟩
  rw [hold_same Ha.out, hold_same (by have := Hb.out; omega : (-b).natAbs ≤ 1099511627776)]
  go_wp2_with fail
  go_ret
  exact ⟨rfl, rfl⟩

/-- Turned by so many quarters. -/
def rot : Nat → Int × Int → Int × Int
  | 0, p => p
  | k + 1, p => rot k (-p.2, p.1)
theorem and_three : ∀ q : Fin 512, bits .and .i64 ((q.val : Nat) : Int) 3 = ((q.val % 4 : Nat) : Int) := by decide +kernel

/-- As wp_scope_jumps, the way to the label and the way from it shown once. -/
theorem wp_scope_once {P : Program} {a : Act} {w : World} {Q : Exit → Act → World → Prop} {c rest : Code} (l : Nat) (J : Act → World → Prop) (μ : Act → World → Nat) (hf : findLabel c l = some (Code.seq .skip rest))
    (first : (∀ a w, J a w → rest.wp P (Exit.jump l J Q) a w) → c.wp P (Exit.jump l J Q) a w)
    (pass : ∀ a w, J a w → rest.wp P (Exit.jump l (fun a' w' => J a' w' ∧ μ a' w' < μ a w) Q) a w) : (Code.scope c).wp P Q a w :=
  wp_scope_jumps l J μ hf (first fun a w h => Code.wp_mono (fun e a' w' h' => by
    cases e <;> first | exact h' | exact ⟨h'.1, h'.2.1⟩) (pass a w h)) (fun a w h => wp_seq (wp_skip (pass a w h)))

set_option maxRecDepth 100000 in
set_option maxHeartbeats 4000000 in
theorem turn_any (a b : Int) (q : Nat) (w : World) (ha : a.natAbs ≤ 1099511627776) (hb : b.natAbs ≤ 1099511627776) (hq : q < 512) :
    Calls Try.prog 13 #[pv a b, .int .i64 q] w fun e w' => e = .returned (pv (rot (q % 4) (a, b)).1 (rot (q % 4) (a, b)).2) ∧ w = w' := by
  have hand : bits .and .i64 (q : Int) 3 = ((q % 4 : Nat) : Int) := and_three ⟨q, hq⟩
  obtain ⟨n, hn⟩ : ∃ n, q % 4 = n := ⟨_, rfl⟩
  have hn4 : n < 4 := by omega
  rw [hn] at hand ⊢
  have Ha := hide ha
  have Hb := hide hb
  clear ha hb hq hn
  go_enter Try.func13, Try.ntmps13
  go_wp2_with fail
  refine wp_scope_once 0 (fun a' w' => ∃ (k x y : Nat) (c d : Int) (u2 u3 u6 u7 u8 u9 u10 u11 u12 u13 u14 u15 u16 u17 u18 u19 u20 u21 u22 : Value), a' = { tmps := #[.complex .f64 x y, .int .i64 q, u2, u3, .complex .f64 0 0, .int .i64 k, u6, u7, u8, u9, u10, u11, u12, u13, u14, u15, u16, u17, u18, u19, u20, u21, u22], defers := [] } ∧
      k ≤ 3 ∧ Wh x c ∧ Wh y d ∧ c.natAbs ≤ 1099511627776 ∧ d.natAbs ≤ 1099511627776 ∧ rot k (c, d) = rot n (a, b) ∧ w' = w) (fun a' _ => (intOf (a'.tmps.getD 5 undef)).toNat) rfl ?_ ?_
  · intro hpass
    go_wp2_with fail
    refine (pairIs_any a b w Ha.out Hb.out).mono ?_
    rintro e w1 ⟨rfl, rfl⟩
    go_wp2_with fail
    refine wp_label ?_
    rename_i hK
    exact hK _ _ (hpass _ _ ⟨n, fl a, fl b, a, b, _, _, _, _, _, _, _, _, _, _, _, _, _, _, _, _, _, _, _, rfl, by omega, wh_fl a, wh_fl b, Ha.out, Hb.out, rfl, rfl⟩)
  · rintro a' w' ⟨k, x, y, c, d, u2, u3, u6, u7, u8, u9, u10, u11, u12, u13, u14, u15, u16, u17, u18, u19, u20, u21, u22, rfl, hk, hx, hy, hc, hd, hr, rfl⟩
    have Hx := hide hx
    have Hy := hide hy
    have Hc := hide hc
    have Hd := hide hd
    have Hr := hide hr
    clear hx hy hc hd hr
    by_cases h0 : 0 < k
    · obtain ⟨j, rfl⟩ : ∃ j, k = j + 1 := ⟨k - 1, by omega⟩
      have hpos : (0 : Int) < (j : Int) + 1 := by omega
      obtain ⟨z, hneg, hz⟩ : ∃ z, Op.unary .neg (.float .f64 y) = pure (.float .f64 z) ∧ Wh z (-d) := ⟨_, rfl, neg_wh Hy.out (by have := Hd.out; omega)⟩
      have Hz := hide hz
      clear hz
      go_wp2_with fail
      refine wp_goto ?_
      refine ⟨rfl, ⟨j, z, x, -d, c, _, _, _, _, _, _, _, _, _, _, _, _, _, _, _, _, _, _, _, rfl, by omega, Hz.out, Hx.out, by have := Hd.out; omega, Hc.out, Hr.out, rfl⟩, ?_⟩
      simp [intOf]
    · obtain rfl : k = 0 := by omega
      go_wp2_with fail
      have hcd : (c, d) = rot n (a, b) := Hr.out
      refine (tidy_any x y c d _ Hx.out Hy.out (by have := Hc.out; omega) (by have := Hd.out; omega)).mono ?_
      rintro e w1 ⟨rfl, rfl⟩
      rw [hold_same Hc.out, hold_same Hd.out]
      go_wp2_with fail
      simp only [Exit.jump]
      show bodyPost Try.prog Try.f13 _ .ret _ _
      go_ret
      rw [← hcd]
      exact ⟨rfl, rfl⟩
end Go.Proofs.Ytnabckcdffpimaa
