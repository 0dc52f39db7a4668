/-
  LabelTexts, LabelUnder: the walks. Conditions: the variable MaxLen holds a number.
-/
import Derived.Test.YtdjpcdimcjjemaaDoorLawMath
namespace Go.Proofs.YtdjpcdimcjjemaaDoor
open Go.RowKit

set_option maxRecDepth 100000 in
set_option maxHeartbeats 8000000 in
theorem texts_any (s : Bs) (m : Int) (w : World) (hm : w.cell? ⟨0, 0, none⟩ = some (.int .i64 m)) (hl : s.length ≤ 9223372036854775807) : Calls Tryd.prog 4 #[.string (tx s)] w fun e w' => e = .returned (.bool true) ∧ Below w.heap.size w w' := by
  by_cases h300 : 300 < s.length
  · have hd : decide ((300 : Int) < (s.length : Int)) = true := by rw [decide_eq_true_iff]; omega
    go_enter Tryd.func4, Tryd.ntmps4
    go_wp2_with fail
    refine (awake_any w).mono ?_
    rintro e w1 ⟨rfl, hb1⟩
    have HB1 := hide hb1
    clear hb1
    go_wp2_with fail
    go_ret
    exact ⟨rfl, HB1.out⟩
  have hd : decide ((300 : Int) < (s.length : Int)) = false := by rw [decide_eq_false_iff_not]; omega
  go_enter Tryd.func4, Tryd.ntmps4
  go_wp2_with fail
  refine (awake_any w).mono ?_
  rintro e w1 ⟨rfl, hb1⟩
  have HB1 := hide hb1
  have HM1 := hide (cell_later hb1 hm)
  clear hb1 hm
  go_wp2_with fail
  refine (name_any s w1 hl).mono ?_
  rintro e w2 ⟨rfl, rfl⟩
  go_wp2_with fail
  refine (refName_any s w1 (by omega)).mono ?_
  rintro e w2 ⟨rfl, rfl⟩
  generalize decide (NameP s) = v1 at *
  go_wp2_with fail
  refine (host_any s m w1 HM1.out hl).mono ?_
  rintro e w2 ⟨rfl, hb2⟩
  have HB2 := hide (HB1.out.trans (hb2.mono HB1.out.size))
  have HM2 := hide (cell_later hb2 HM1.out)
  clear hb2 HB1 HM1
  go_wp2_with fail
  refine (refHost_any s w2 hl).mono ?_
  rintro e w3 ⟨rfl, hb3⟩
  have HB3 := hide (HB2.out.trans (hb3.mono HB2.out.size))
  have HM3 := hide (cell_later hb3 HM2.out)
  clear hb3 HB2 HM2
  generalize hostN s = v2 at *
  go_wp2_with fail
  refine (path_any s m w3 HM3.out (by omega)).mono ?_
  rintro e w4 ⟨rfl, rfl⟩
  go_wp2_with fail
  refine (refPath_any s w3 (by omega)).mono ?_
  rintro e w4 ⟨rfl, rfl⟩
  generalize pathN s = v3 at *
  go_wp2_with fail
  refine (parts_any s m w3 HM3.out (by omega)).mono ?_
  rintro e w4 ⟨V, vc, rfl, ho4, hb4⟩
  have HB4 := hide (HB3.out.trans (hb4.mono HB3.out.size))
  have Hr4 := hide (Rd.of_own ho4)
  clear ho4 hb4 HB3 HM3
  go_wp2_with fail
  refine (refParts_any s w4 (by omega)).mono ?_
  rintro e w5 ⟨U, uc, rfl, ho5, hb5⟩
  have HB5 := hide (HB4.out.trans (hb5.mono HB4.out.size))
  have Hr5 := hide (Hr4.out.below hb5)
  have Hs5 := hide (Rd.of_own ho5)
  clear ho5 hb5 HB4 Hr4
  go_wp2_with fail
  refine (equal_strs _ _ _ _ _ _ (parts s) (parts s) w5 Hr5.out Hs5.out).mono ?_
  rintro e w6 ⟨rfl, hb6⟩
  have HB6 := hide (HB5.out.trans (hb6.mono HB5.out.size))
  clear hb6 HB5 Hr5 Hs5
  rw [decide_eq_true (rfl : parts s = parts s)]
  go_wp2_with fail
  refine (lower_any s w6 hl).mono ?_
  rintro e w7 ⟨rfl, hb7⟩
  have HB7 := hide (HB6.out.trans (hb7.mono HB6.out.size))
  clear hb7 HB6
  go_wp2_with fail
  refine (refLower_any s w7 hl).mono ?_
  rintro e w8 ⟨rfl, hb8⟩
  have HB8 := hide (HB7.out.trans (hb8.mono HB7.out.size))
  clear hb8 HB7
  go_wp2_with fail
  go_ret
  exact ⟨by first | rfl | simp, HB8.out⟩
end Go.Proofs.YtdjpcdimcjjemaaDoor
