/-
  Contract of the document's Covers, of patterns and hosts that may be. Conditions: they may be.
-/
import Derived.Test.YtdjpcdimcjjemaaCovers
import Derived.Deep.QuietTactic
import Derived.BigQuiet
namespace Go.Proofs.Ytdjpcdimcjjemaa
open Go.RowKit

set_option maxRecDepth 100000 in
set_option maxHeartbeats 8000000 in
theorem refCovers_any (p h : Bs) (w : World) (hp : hostN (lower p) = 0) (hh : hostN (lower h) = 0) : Calls Try.prog 8 #[.string (tx p), .string (tx h)] w fun e w' => e = .returned (.bool (cov (lower p) (lower h))) ∧ Below w.heap.size w w' := by
  obtain ⟨hp1, hp2, _⟩ := hostN_ok.1 hp
  obtain ⟨hh1, hh2, _⟩ := hostN_ok.1 hh
  have lp := lower_len p
  have lh := lower_len h
  have Hcov := hide (fun hne => (cov_spec (lower p) (lower h)).trans (cov_iff hp hh hne))
  have Hcut := hide (And.intro (cut_short 46 (lower p)) (cut_short 46 (lower h)))
  have ca := cut_pos 46 (lower p)
  have cb := cut_pos 46 (lower h)
  have ca2 := cut_count 46 (lower p)
  have cb2 := cut_count 46 (lower h)
  clear hp hh
  go_enter Try.func8, Try.ntmps8
  go_wp2_with fail
  refine (refLower_any p w (by omega)).mono ?_
  rintro e w1 ⟨rfl, hb1⟩
  have HB1 := hide hb1
  clear hb1
  go_wp2_with fail
  refine (cut_any (lower p) 46 w1 (by omega)).mono ?_
  rintro e w2 ⟨v, rfl, ho, hb2⟩
  obtain ⟨V, vc, rfl, hr⟩ := own_slice ho
  have HB2 := hide (HB1.out.trans (hb2.mono HB1.out.size))
  have Hr2 := hide hr
  clear ho hr hb2 HB1
  go_wp2_with fail
  refine (refLower_any h w2 (by omega)).mono ?_
  rintro e w3 ⟨rfl, hb3⟩
  have HB3 := hide (HB2.out.trans (hb3.mono HB2.out.size))
  have Hr3 := hide (Hr2.out.below hb3)
  clear hb3 HB2 Hr2
  go_wp2_with fail
  refine (cut_any (lower h) 46 w3 (by omega)).mono ?_
  rintro e w4 ⟨v, rfl, ho, hb4⟩
  obtain ⟨U, uc, rfl, hs⟩ := own_slice ho
  have HB4 := hide (HB3.out.trans (hb4.mono HB3.out.size))
  have Hr4 := hide (Hr3.out.below hb4)
  have Hs4 := hide hs
  clear ho hs hb4 HB3 Hr3
  go_wp2_with fail
  refine (refLower_any p w4 (by omega)).mono ?_
  rintro e w5 ⟨rfl, hb5⟩
  have HB5 := hide (HB4.out.trans (hb5.mono HB4.out.size))
  have Hr5 := hide (Hr4.out.below hb5)
  have Hs5 := hide (Hs4.out.below hb5)
  clear hb5 HB4 Hr4 Hs4
  go_wp2_with fail
  refine (refLower_any h w5 (by omega)).mono ?_
  rintro e w6 ⟨rfl, hb6⟩
  have HB6 := hide (HB5.out.trans (hb6.mono HB5.out.size))
  have Hr6 := hide (Hr5.out.below hb6)
  have Hs6 := hide (Hs5.out.below hb6)
  clear hb6 HB5 Hr5 Hs5
  cases hpq : (lower p == lower h) with
  | true =>
    have hv : cov (lower p) (lower h) = true := by unfold cov; rw [hpq]; rfl
    have Hv := hide hv
    clear hv
    go_wp2_with fail
    go_ret
    exact ⟨ret_bool Hv.out.symm, HB6.out⟩
  | false =>
    have Hcv := hide (Hcov.out (by simpa using hpq))
    clear Hcov
    generalize cut 46 (lower p) = xs at *
    generalize cut 46 (lower h) = ys at *
    obtain ⟨⟨b1, o1, s1⟩, rfl⟩ := Hr6.out.isSome ca
    obtain ⟨⟨b2, o2, s2⟩, rfl⟩ := Hs6.out.isSome cb
    obtain rfl : s1 = none := Hr6.out.spot (by intro e; have := congrArg List.length e; simp at this; rw [this] at ca; simp at ca)
    obtain rfl : s2 = none := Hs6.out.spot (by intro e; have := congrArg List.length e; simp at this; rw [this] at cb; simp at cb)
    have x0 := rd_str Hr6.out 0 ca
    simp only [Addr.add_lit, Nat.add_zero] at x0
    obtain ⟨z, hz⟩ : ∃ z, xs.getD 0 [] = z := ⟨_, rfl⟩
    rw [hz] at x0
    have Hz := hide hz
    clear hz
    by_cases hg : z = [42] ∧ 2 ≤ xs.length ∧ xs.length ≤ ys.length
    · obtain ⟨rfl, h2, h3⟩ := hg
      obtain ⟨d, hd⟩ : ∃ d, ys.length = xs.length + d := ⟨ys.length - xs.length, by omega⟩
      go_wp2_with fail
      all_goals try (exfalso; omega)
      obtain ⟨wo, ewo⟩ : ∃ wo : World, wo = w6 := ⟨_, rfl⟩
      subst ewo
      go_loopw [7] (fun i wr => ∃ k q : Nat, 1 ≤ k ∧ k ≤ xs.length ∧ i = .int .i64 k ∧ (∀ j, 1 ≤ j → j < k → xs.getD j [] = ys.getD (d + j) []) ∧ wr = wo.drewN q) (fun i _ => xs.length - (intOf i).toNat)
      case atStart => exact ⟨1, 0, Nat.le_refl _, by omega, rfl, by omega, rfl⟩
      case round =>
        obtain ⟨k, q, hk1, hk, rfl, hall, rfl⟩ := hrel
        have Hall := hide hall
        clear hall x0
        by_cases hlt : k < xs.length
        · have a0 := rd_str Hr6.out k hlt
          have b0 := rd_str Hs6.out (d + k) (by omega)
          simp only [Addr.add_lit] at a0 b0
          obtain ⟨x, hx⟩ : ∃ x, xs.getD k [] = x := ⟨_, rfl⟩
          obtain ⟨y, hy⟩ : ∃ y, ys.getD (d + k) [] = y := ⟨_, rfl⟩
          rw [hx] at a0
          rw [hy] at b0
          have Hx := hide hx
          have Hy := hide hy
          clear hx hy
          cases hxy : (x == y) with
          | true =>
            go_wp2_with fail
            go_quiet (fail)
            go_wp2_with fail
            go_roundw
            case rel =>
              refine ⟨k + 1, q + nq, by omega, by omega, by go_num, fun j h1 hj => ?_, by first | rfl | exact World.drewN_drewN _ _ _ | simp⟩
              by_cases e : j = k
              · rw [e, Hx.out, Hy.out]; simpa using hxy
              · exact Hall.out j h1 (by omega)
            case measure => simp [intOf] <;> omega
          | false =>
            have hv : cov (lower p) (lower h) = false := by
              cases hc : cov (lower p) (lower h) with
              | false => rfl
              | true =>
                have := (Hcv.out.1 hc).2.2.2 k hk1 hlt
                rw [show ys.length - xs.length + k = d + k by omega, Hx.out, Hy.out] at this
                rw [this] at hxy
                simp at hxy
            have Hv := hide hv
            clear hv
            go_wp2_with fail
            go_quiet (fail)
            go_wp2_with fail
            go_ret
            exact ⟨ret_bool Hv.out.symm, (HB6.out.trans (below_drewN _ _ _)).trans (below_drewN _ _ _)⟩
        · obtain rfl : k = xs.length := by omega
          have hv : cov (lower p) (lower h) = true := Hcv.out.2 ⟨Hz.out, h2, h3, fun i h1 hi => by
            rw [show ys.length - xs.length + i = d + i by omega]
            exact Hall.out i h1 hi⟩
          have Hv := hide hv
          clear hv
          go_wp2_with fail
          go_ret
          exact ⟨ret_bool Hv.out.symm, HB6.out.trans (below_drewN _ _ _)⟩
    · have hv : cov (lower p) (lower h) = false := by
        cases hc : cov (lower p) (lower h) with
        | false => rfl
        | true =>
          obtain ⟨h1, h2, h3, _⟩ := Hcv.out.1 hc
          exact absurd ⟨by rw [← Hz.out]; exact h1, h2, h3⟩ hg
      have Hv := hide hv
      clear hv
      go_wp2_with fail
      all_goals first
        | (go_ret
           exact ⟨ret_bool Hv.out.symm, HB6.out⟩)
        | (exfalso
           refine hg ⟨by first | assumption | rfl | trivial, ?_, ?_⟩ <;> omega)
end Go.Proofs.Ytdjpcdimcjjemaa
