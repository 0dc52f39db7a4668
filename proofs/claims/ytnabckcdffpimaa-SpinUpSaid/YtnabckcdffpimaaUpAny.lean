/-
  SpinUp at any input. Conditions: the slices can be read.
-/
import Derived.Test.YtnabckcdffpimaaUp
namespace Go.Proofs.Ytnabckcdffpimaa
open Go.RowKit Ieee

set_option maxHeartbeats 4000000 in
theorem up_many (A : Option Addr) (n c : Nat) (B : Option Addr) (m d : Nat) (u t : Int) (w : World) (hn : 8 < n) :
    Calls Try.prog 5 #[.slice A n c, .int .u8 u, .slice B m d, .int .u8 t] w fun e w' => e = .returned (.bool true) ∧ Below w.heap.size w w' := by
  go_enter Try.func5, Try.ntmps5
  go_wp2_with fail
  refine (awake22_any _).mono ?_
  rintro e w1 ⟨rfl, hb1⟩
  have HB1 := hide hb1
  clear hb1
  go_wp2_with fail
  refine (new_many A n c _ hn).mono ?_
  rintro e w2 ⟨rfl, hb2⟩
  have HB2 := hide ((HB1.out.trans (hb2.mono HB1.out.size)).alloc (by have := HB1.out.size; have := hb2.size; omega) (.cells #[.slice none 0 0] 41))
  clear hb2
  go_wp2_with fail
  go_ret
  exact ⟨rfl, HB2.out⟩

set_option maxHeartbeats 4000000 in
theorem up_bad (A : Option Addr) (n c : Nat) (B : Option Addr) (m d : Nat) (ws : List Int) (u t : Int) (w : World) (hr : Rd w 1 A n c (i64s ws)) (hn : n ≤ 8) (hg : ∃ k, k < n ∧ ¬ okW (ws.getD k 0)) :
    Calls Try.prog 5 #[.slice A n c, .int .u8 u, .slice B m d, .int .u8 t] w fun e w' => e = .returned (.bool true) ∧ Below w.heap.size w w' := by
  have Hr := hide hr
  have Hg := hide hg
  clear hr hg
  go_enter Try.func5, Try.ntmps5
  go_wp2_with fail
  refine (awake22_any _).mono ?_
  rintro e w1 ⟨rfl, hb1⟩
  have HB1 := hide hb1
  have Hr1 := hide (Hr.out.below hb1)
  clear hb1
  go_wp2_with fail
  refine (new_bad A n c ws _ Hr1.out hn Hg.out).mono ?_
  rintro e w2 ⟨rfl, hb2⟩
  have HB2 := hide ((HB1.out.trans (hb2.mono HB1.out.size)).alloc (by have := HB1.out.size; have := hb2.size; omega) (.cells #[.slice none 0 0] 41))
  clear hb2
  go_wp2_with fail
  go_ret
  exact ⟨rfl, HB2.out⟩

set_option maxHeartbeats 4000000 in
theorem up_none (A : Option Addr) (c : Nat) (B : Option Addr) (m d : Nat) (ws : List Int) (u t : Int) (w : World) (hr : Rd w 1 A 0 c (i64s ws)) :
    Calls Try.prog 5 #[.slice A 0 c, .int .u8 u, .slice B m d, .int .u8 t] w fun e w' => e = .returned (.bool true) ∧ Below w.heap.size w w' := by
  have Hr := hide hr
  clear hr
  go_enter Try.func5, Try.ntmps5
  go_wp2_with fail
  refine (awake22_any _).mono ?_
  rintro e w1 ⟨rfl, hb1⟩
  have HB1 := hide hb1
  have Hr1 := hide (Hr.out.below hb1)
  clear hb1
  go_wp2_with fail
  refine (new_good A 0 c ws _ Hr1.out (by omega) (fun k hk => by omega)).mono ?_
  rintro e w2 ⟨A1, c1, rfl, _, _, hb2⟩
  have HB2 := hide ((HB1.out.trans (hb2.mono HB1.out.size)).alloc (by have := HB1.out.size; have := hb2.size; omega) (.cells #[.slice A1 0 c1] 41))
  clear hb2
  go_wp2_with fail
  go_ret
  exact ⟨rfl, HB2.out⟩

set_option maxHeartbeats 4000000 in
theorem up_long (A : Option Addr) (n c : Nat) (B : Option Addr) (m d : Nat) (ws : List Int) (u t : Int) (w : World) (hr : Rd w 1 A n c (i64s ws)) (hn : n ≤ 8) (hn0 : 0 < n) (hg : ∀ k, k < n → okW (ws.getD k 0)) (hm : 10 < m) :
    Calls Try.prog 5 #[.slice A n c, .int .u8 u, .slice B m d, .int .u8 t] w fun e w' => e = .returned (.bool true) ∧ Below w.heap.size w w' := by
  have Hr := hide hr
  have Hg := hide hg
  have hne0 : ((n : Int) == 0) = false := by rw [beq_eq_false_iff_ne]; omega
  clear hr hg
  go_enter Try.func5, Try.ntmps5
  go_wp2_with fail
  refine (awake22_any _).mono ?_
  rintro e w1 ⟨rfl, hb1⟩
  have HB1 := hide hb1
  have Hr1 := hide (Hr.out.below hb1)
  clear hb1
  go_wp2_with fail
  refine (new_good A n c ws _ Hr1.out hn Hg.out).mono ?_
  rintro e w2 ⟨A1, c1, rfl, _, _, hb2⟩
  have HB2 := hide ((HB1.out.trans (hb2.mono HB1.out.size)).alloc (by have := HB1.out.size; have := hb2.size; omega) (.cells #[.slice A1 n c1] 41))
  clear hb2
  go_wp2_with fail
  go_ret
  exact ⟨rfl, HB2.out⟩

theorem up_any (A : Option Addr) (n c : Nat) (B : Option Addr) (m d : Nat) (ws ds : List Int) (u t : Int) (w : World) (hr : Rd w 1 A n c (i64s ws)) (hD : Rd w 1 B m d (i64s ds)) (hu : 0 ≤ u ∧ u ≤ 255) (ht : 0 ≤ t ∧ t ≤ 255) :
    Calls Try.prog 5 #[.slice A n c, .int .u8 u, .slice B m d, .int .u8 t] w fun e w' => e = .returned (.bool true) ∧ Below w.heap.size w w' := by
  by_cases hn : 8 < n
  · exact up_many A n c B m d u t w hn
  by_cases hg : ∀ k, k < n → okW (ws.getD k 0)
  · rcases Nat.eq_zero_or_pos n with rfl | hn0
    · exact up_none A c B m d ws u t w hr
    · by_cases hm : 10 < m
      · exact up_long A n c B m d ws u t w hr (by omega) hn0 hg hm
      · exact up_short A n c B m d ws ds u t w hr hD (by omega) hn0 (by omega) hg hu.1 hu.2 ht.1 ht.2
  · refine up_bad A n c B m d ws u t w hr (by omega) ?_
    refine Classical.byContradiction fun h => hg fun k hk => Classical.byContradiction fun h2 => h ⟨k, hk, h2⟩
end Go.Proofs.Ytnabckcdffpimaa
