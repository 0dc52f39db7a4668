/-
  LabelCovers: which pattern covers which host: the walk. Conditions: none but the form's own sizes.
-/
import Derived.Test.YtdjpcdimcjjemaaRefCovers
namespace Go.Proofs.Ytdjpcdimcjjemaa
open Go.RowKit

theorem cov_self (h : Bs) : cov h h = true := by unfold cov; simp
theorem low_star : low 42 = 42 ∧ low 46 = 46 ∧ low 120 = 120 := by decide
theorem cov_star (h : Bs) (h0 : 0 < h.length) : cov (lower (42 :: 46 :: h)) (lower (120 :: 46 :: h)) = true := by
  rw [cov_spec]
  refine .inr ⟨lower h, by simp [lower, low_star], by intro e; have := congrArg List.length e; rw [lower_len] at this; simp at this; rw [this] at h0; simp at h0, by simp [lower_len], ⟨[120], by simp [lower, low_star]⟩⟩
theorem cov_not (h : Bs) : cov (lower (42 :: 46 :: h)) (lower h) = false := by
  cases hc : cov (lower (42 :: 46 :: h)) (lower h) with
  | false => rfl
  | true =>
    rcases (cov_spec _ _).1 hc with e | ⟨r, e, _, hl, _⟩
    · have := congrArg List.length e
      simp [lower_len] at this
      omega
    · have := congrArg List.length e
      simp [lower_len] at this hl
      omega

set_option maxRecDepth 100000 in
set_option maxHeartbeats 8000000 in
theorem law_any (p h : Bs) (w : World) (hp : p.length ≤ 9223372036854775807) (hh : h.length ≤ 9223372036854775807) : Calls Try.prog 3 #[.string (tx p), .string (tx h)] w fun e w' => e = .returned (.bool true) ∧ Below w.heap.size w w' := by
  have lp := lower_len p
  have lh := lower_len h
  go_enter Try.func3, Try.ntmps3
  go_wp2_with fail
  refine (awake_any w).mono ?_
  rintro e w1 ⟨rfl, hb1⟩
  have HB1 := hide hb1
  clear hb1
  go_wp2_with fail
  refine (refLower_any p w1 hp).mono ?_
  rintro e w2 ⟨rfl, hb2⟩
  have HB2 := hide (HB1.out.trans (hb2.mono HB1.out.size))
  clear hb2 HB1
  go_wp2_with fail
  refine (refHost_any (lower p) w2 (by omega)).mono ?_
  rintro e w3 ⟨rfl, hb3⟩
  have HB3 := hide (HB2.out.trans (hb3.mono HB2.out.size))
  clear hb3 HB2
  by_cases h1 : hostN (lower p) = 0
  · have H1 := hide h1
    rw [h1]
    clear h1
    go_wp2_with fail
    refine (refLower_any h w3 hh).mono ?_
    rintro e w4 ⟨rfl, hb4⟩
    have HB4 := hide (HB3.out.trans (hb4.mono HB3.out.size))
    clear hb4 HB3
    go_wp2_with fail
    refine (refHost_any (lower h) w4 (by omega)).mono ?_
    rintro e w5 ⟨rfl, hb5⟩
    have HB5 := hide (HB4.out.trans (hb5.mono HB4.out.size))
    clear hb5 HB4
    by_cases h2 : hostN (lower h) = 0
    · have H2 := hide h2
      rw [h2]
      clear h2
      have hpos : 0 < h.length ∧ h.length ≤ 64 := by
        have := hostN_ok.1 H2.out
        omega
      obtain ⟨hpos, h64⟩ := hpos
      go_wp2_with fail
      refine (covers_any p h _ hp hh).mono ?_
      rintro e w6 ⟨rfl, hb6⟩
      have HB6 := hide (HB5.out.trans (hb6.mono HB5.out.size))
      clear hb6 HB5
      go_wp2_with fail
      refine (refCovers_any p h _ H1.out H2.out).mono ?_
      rintro e w7 ⟨rfl, hb7⟩
      have HB7 := hide (HB6.out.trans (hb7.mono HB6.out.size))
      clear hb7 HB6
      generalize cov (lower p) (lower h) = v at *
      go_wp2_with fail
      refine (covers_any h h _ hh hh).mono ?_
      rintro e w8 ⟨rfl, hb8⟩
      have HB8 := hide (HB7.out.trans (hb8.mono HB7.out.size))
      clear hb8 HB7
      rw [cov_self]
      have ha1 := fun w => tx_add [42, 46] h w (by simp; omega)
      have ha2 := fun w => tx_add [120, 46] h w (by simp; omega)
      obtain ⟨c, hc⟩ : ∃ c, bt h 0 = c := ⟨_, rfl⟩
      by_cases h42 : c.toNat = 42
      · go_wp2_with fail
        go_ret
        exact ⟨by first | rfl | simp, HB8.out⟩
      · have q1 : ¬ (c.toNat : Int) = 42 := by omega
        go_wp2_with fail
        refine (covers_any (42 :: 46 :: h) (120 :: 46 :: h) _ (by simp; omega) (by simp; omega)).mono ?_
        rintro e w9 ⟨rfl, hb9⟩
        have HB9 := hide (HB8.out.trans (hb9.mono HB8.out.size))
        clear hb9 HB8
        rw [cov_star h hpos]
        go_wp2_with fail
        refine (covers_any (42 :: 46 :: h) h _ (by simp; omega) hh).mono ?_
        rintro e w10 ⟨rfl, hb10⟩
        have HB10 := hide (HB9.out.trans (hb10.mono HB9.out.size))
        clear hb10 HB9
        rw [cov_not]
        go_wp2_with fail
        go_ret
        exact ⟨by first | rfl | simp, HB10.out⟩
    · have q : ¬ hostN (lower h) = 0 := h2
      go_wp2_with fail
      go_ret
      exact ⟨rfl, HB5.out⟩
  · go_wp2_with fail
    go_ret
    exact ⟨rfl, HB3.out⟩
end Go.Proofs.Ytdjpcdimcjjemaa
