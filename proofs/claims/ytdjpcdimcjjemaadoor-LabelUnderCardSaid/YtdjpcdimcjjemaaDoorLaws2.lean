/-
  LabelUnder, LabelStars: the walks. Conditions: the variable MaxLen holds a number.
-/
import Derived.Test.YtdjpcdimcjjemaaDoorLawMath
namespace Go.Proofs.YtdjpcdimcjjemaaDoor
open Go.RowKit

set_option maxRecDepth 100000 in
set_option maxHeartbeats 8000000 in
theorem under_law (a b c : Bs) (m : Int) (w : World) (hm : w.cell? ⟨0, 0, none⟩ = some (.int .i64 m)) : Calls Tryd.prog 6 #[.string (tx a), .string (tx b), .string (tx c)] w fun e w' => e = .returned (.bool true) ∧ Below w.heap.size w w' := by
  by_cases h300 : 300 < a.length ∨ 300 < b.length ∨ 300 < c.length
  · go_enter Tryd.func6, Tryd.ntmps6
    go_wp2_with fail
    refine (awake_any w).mono ?_
    rintro e w1 ⟨rfl, hb1⟩
    have HB1 := hide hb1
    clear hb1
    go_wp2_with fail
    all_goals first
      | (exfalso
         split at * <;> omega)
      | (go_ret
         exact ⟨rfl, HB1.out⟩)
      | (exfalso
         omega)
  have ha : a.length ≤ 300 := by omega
  have hb : b.length ≤ 300 := by omega
  have hc : c.length ≤ 300 := by omega
  go_enter Tryd.func6, Tryd.ntmps6
  go_wp2_with fail
  refine (awake_any w).mono ?_
  rintro e w1 ⟨rfl, hb1⟩
  have HB1 := hide hb1
  have HM1 := hide (cell_later hb1 hm)
  clear hb1 hm
  go_wp2_with fail
  all_goals first
    | (exfalso
       split at * <;> omega)
    | (clear h300
       refine (under_any a b m w1 HM1.out (by omega) (by omega)).mono ?_
       rintro e w2 ⟨rfl, hb2⟩
       have HB2 := hide (HB1.out.trans (hb2.mono HB1.out.size))
       have HM2 := hide (cell_later hb2 HM1.out)
       clear hb2
       go_wp2_with fail
       refine (under_any b c m w2 HM2.out (by omega) (by omega)).mono ?_
       rintro e w3 ⟨rfl, hb3⟩
       have HB3 := hide (HB2.out.trans (hb3.mono HB2.out.size))
       have HM3 := hide (cell_later hb3 HM2.out)
       clear hb3
       go_wp2_with fail
       refine (under_any a c m w3 HM3.out (by omega) (by omega)).mono ?_
       rintro e w4 ⟨rfl, hb4⟩
       have HB4 := hide (HB3.out.trans (hb4.mono HB3.out.size))
       have HM4 := hide (cell_later hb4 HM3.out)
       clear hb4
       go_wp2_with fail
       refine (refUnder_any a b w4 (by omega) (by omega)).mono ?_
       rintro e w5 ⟨rfl, hb5⟩
       have HB5 := hide (HB4.out.trans (hb5.mono HB4.out.size))
       have HM5 := hide (cell_later hb5 HM4.out)
       clear hb5
       have HTr := hide (fun h1 h2 => @und_trans a b c h1 h2)
       go_wp2_with fail
       refine (refUnder_any b c w5 (by omega) (by omega)).mono ?_
       rintro e w6 ⟨rfl, hb6⟩
       have HB6 := hide (HB5.out.trans (hb6.mono HB5.out.size))
       have HM6 := hide (cell_later hb6 HM5.out)
       clear hb6
       go_wp2_with fail
       refine (under_any a a m w6 HM6.out (by omega) (by omega)).mono ?_
       rintro e w7 ⟨rfl, hb7⟩
       have HB7 := hide (HB6.out.trans (hb7.mono HB6.out.size))
       have HM7 := hide (cell_later hb7 HM6.out)
       clear hb7
       rw [und_self]
       have hadd := fun w => tx_add a [47, 120] w (by simp; omega)
       have h01 := und_slash a
       have h02 := und_more a
       generalize und a b = x at *
       generalize und b c = y at *
       generalize und a c = z at *
       cases x <;> cases y <;> cases z <;> first
         | exact absurd (HTr.out rfl rfl) (by decide)
         | (go_wp2_with fail
            refine (under_any [47] a m w7 HM7.out (by simp) (by omega)).mono ?_
            rintro e w8 ⟨rfl, hb8⟩
            have HB8 := hide (HB7.out.trans (hb8.mono HB7.out.size))
            have HM8 := hide (cell_later hb8 HM7.out)
            clear hb8
            rw [h01]
            go_wp2_with fail
            refine (under_any a (a ++ [47, 120]) m w8 HM8.out (by omega) (by simp; omega)).mono ?_
            rintro e w9 ⟨rfl, hb9⟩
            have HB9 := hide (HB8.out.trans (hb9.mono HB8.out.size))
            clear hb9
            rw [h02]
            go_wp2_with fail
            go_ret
            exact ⟨by first | rfl | simp, HB9.out⟩))
end Go.Proofs.YtdjpcdimcjjemaaDoor
