/-
  LabelStars, LabelLower: the walks. Conditions: the variable MaxLen holds a number.
-/
import Derived.Test.YtdjpcdimcjjemaaDoorLawMath
namespace Go.Proofs.YtdjpcdimcjjemaaDoor
open Go.RowKit

set_option maxRecDepth 100000 in
set_option maxHeartbeats 8000000 in
theorem stars_law (s t : Bs) (m : Int) (w : World) (hm : w.cell? ⟨0, 0, none⟩ = some (.int .i64 m)) (hs : s.length ≤ 9223372036854775807) (ht : t.length ≤ 9223372036854775807) : Calls Tryd.prog 5 #[.string (tx s), .string (tx t)] w fun e w' => e = .returned (.bool true) ∧ Below w.heap.size w w' := by
  go_enter Tryd.func5, Tryd.ntmps5
  go_wp2_with fail
  refine (awake_any w).mono ?_
  rintro e w1 ⟨rfl, hb1⟩
  have HB1 := hide hb1
  have HM1 := hide (cell_later hb1 hm)
  clear hb1 hm
  go_wp2_with fail
  refine (host_any s m w1 HM1.out hs).mono ?_
  rintro e w2 ⟨rfl, hb2⟩
  have HB2 := hide (HB1.out.trans (hb2.mono HB1.out.size))
  have HM2 := hide (cell_later hb2 HM1.out)
  clear hb2 HB1 HM1
  by_cases h1 : hostN s = 0
  · have H1 := hide h1
    rw [h1]
    clear h1
    have hs0 := (hostN_ok.1 H1.out).1
    by_cases h60 : 60 < s.length
    · have hd : (60 : Int) < (s.length : Int) := by omega
      go_wp2_with fail
      go_ret
      exact ⟨rfl, HB2.out⟩
    have hd : ¬ (60 : Int) < (s.length : Int) := by omega
    have hd' : decide ((60 : Int) < (s.length : Int)) = false := decide_eq_false hd
    obtain ⟨c, hc⟩ : ∃ c, bt s 0 = c := ⟨_, rfl⟩
    have Hc := hide hc
    by_cases h42 : c.toNat = 42
    · have q : (c.toNat : Int) = 42 := by omega
      go_wp2_with fail
      go_ret
      exact ⟨rfl, HB2.out⟩
    have q1 : ¬ (c.toNat : Int) = 42 := by omega
    have q1' : ((c.toNat : Int) == 42) = false := by rw [beq_eq_false_iff_ne]; exact q1
    have hs42 : bt s 0 ≠ 42 := fun e => h42 (by rw [← hc, e]; rfl)
    have Hs42 := hide hs42
    clear hs42 h42
    by_cases h30 : 30 < t.length
    · have hd2 : (30 : Int) < (t.length : Int) := by omega
      go_wp2_with fail
      go_ret
      exact ⟨rfl, HB2.out⟩
    have hd2 : ¬ (30 : Int) < (t.length : Int) := by omega
    have hd2' : decide ((30 : Int) < (t.length : Int)) = false := decide_eq_false hd2
    go_wp2_with fail
    refine (host_any t m w2 HM2.out ht).mono ?_
    rintro e w3 ⟨rfl, hb3⟩
    have HB3 := hide (HB2.out.trans (hb3.mono HB2.out.size))
    have HM3 := hide (cell_later hb3 HM2.out)
    clear hb3 HB2 HM2
    by_cases h2 : hostN t = 0
    · have H2 := hide h2
      rw [h2]
      clear h2
      have ht0 := (hostN_ok.1 H2.out).1
      obtain ⟨d, hd0⟩ : ∃ d, bt t 0 = d := ⟨_, rfl⟩
      by_cases t42 : d.toNat = 42
      · have q : (d.toNat : Int) = 42 := by omega
        go_wp2_with fail
        go_ret
        exact ⟨rfl, HB3.out⟩
      have q2 : ¬ (d.toNat : Int) = 42 := by omega
      have q2' : ((d.toNat : Int) == 42) = false := by rw [beq_eq_false_iff_ne]; exact q2
      have ht42 : bt t 0 ≠ 42 := fun e => t42 (by rw [← hd0, e]; rfl)
      have Ht42 := hide ht42
      clear ht42 t42
      by_cases h63 : 63 < s.length + t.length
      · have hd3 : (63 : Int) < (s.length : Int) + (t.length : Int) := by omega
        have hd3' : decide ((63 : Int) < (s.length : Int) + (t.length : Int)) = true := decide_eq_true hd3
        go_wp2_with fail
        all_goals first
          | (go_ret
             exact ⟨rfl, HB3.out⟩)
          | (exfalso; omega)
      have hd3 : ¬ (63 : Int) < (s.length : Int) + (t.length : Int) := by omega
      have hd3' : decide ((63 : Int) < (s.length : Int) + (t.length : Int)) = false := decide_eq_false hd3
      have ha1 := fun w => tx_add [42, 46] s w (by simp; omega)
      have ha2 := fun w => tx_add t [46] w (by simp; omega)
      have ha3 := fun w => tx_add (t ++ [46]) s w (by simp; omega)
      have K1 := hide (host_star H1.out Hs42.out (by omega))
      have e3 : t ++ [46] ++ s = t ++ 46 :: s := by simp
      have K2 := hide (e3 ▸ host_both H1.out Hs42.out H2.out Ht42.out (by omega))
      have K3 := hide (e3 ▸ cov_both hs0 ht0)
      have K4 := hide (e3 ▸ cov_none (t := t) hs0 Hs42.out)
      clear e3
      go_wp2_with fail
      refine (host_any (42 :: 46 :: s) m w3 HM3.out (by simp; omega)).mono ?_
      rintro e w4 ⟨rfl, hb4⟩
      have HB4 := hide (HB3.out.trans (hb4.mono HB3.out.size))
      have HM4 := hide (cell_later hb4 HM3.out)
      clear hb4 HB3 HM3
      rw [K1.out]
      go_wp2_with fail
      refine (covers_any (42 :: 46 :: s) (t ++ 46 :: s) w4 (by simp; omega) (by simp; omega)).mono ?_
      rintro e w5 ⟨rfl, hb5⟩
      have HB5 := hide (HB4.out.trans (hb5.mono HB4.out.size))
      have HM5 := hide (cell_later hb5 HM4.out)
      clear hb5 HB4 HM4
      rw [K3.out]
      go_wp2_with fail
      refine (covers_any (42 :: 46 :: s) s w5 (by simp; omega) hs).mono ?_
      rintro e w6 ⟨rfl, hb6⟩
      have HB6 := hide (HB5.out.trans (hb6.mono HB5.out.size))
      have HM6 := hide (cell_later hb6 HM5.out)
      clear hb6 HB5 HM5
      rw [cov_not]
      go_wp2_with fail
      refine (covers_any (42 :: 46 :: s) (42 :: 46 :: s) w6 (by simp; omega) (by simp; omega)).mono ?_
      rintro e w7 ⟨rfl, hb7⟩
      have HB7 := hide (HB6.out.trans (hb7.mono HB6.out.size))
      have HM7 := hide (cell_later hb7 HM6.out)
      clear hb7 HB6 HM6
      rw [cov_self]
      go_wp2_with fail
      refine (covers_any s (t ++ 46 :: s) w7 hs (by simp; omega)).mono ?_
      rintro e w8 ⟨rfl, hb8⟩
      have HB8 := hide (HB7.out.trans (hb8.mono HB7.out.size))
      have HM8 := hide (cell_later hb8 HM7.out)
      clear hb8 HB7 HM7
      rw [K4.out]
      go_wp2_with fail
      refine (host_any (t ++ 46 :: s) m w8 HM8.out (by simp; omega)).mono ?_
      rintro e w9 ⟨rfl, hb9⟩
      have HB9 := hide (HB8.out.trans (hb9.mono HB8.out.size))
      clear hb9 HB8 HM8
      rw [K2.out]
      go_wp2_with fail
      go_ret
      exact ⟨by first | rfl | simp, HB9.out⟩
    · go_wp2_with fail
      go_ret
      exact ⟨rfl, HB3.out⟩
  · go_wp2_with fail
    go_ret
    exact ⟨rfl, HB2.out⟩

set_option maxRecDepth 100000 in
set_option maxHeartbeats 8000000 in
theorem lower_law (s : Bs) (m : Int) (w : World) (hm : w.cell? ⟨0, 0, none⟩ = some (.int .i64 m)) (hs : s.length ≤ 9223372036854775807) : Calls Tryd.prog 3 #[.string (tx s)] w fun e w' => e = .returned (.bool true) ∧ Below w.heap.size w w' := by
  by_cases h300 : 300 < s.length
  · have hd : decide ((300 : Int) < (s.length : Int)) = true := by rw [decide_eq_true_iff]; omega
    go_enter Tryd.func3, Tryd.ntmps3
    go_wp2_with fail
    refine (awake_any w).mono ?_
    rintro e w1 ⟨rfl, hb1⟩
    have HB1 := hide hb1
    clear hb1
    go_wp2_with fail
    go_ret
    exact ⟨rfl, HB1.out⟩
  have hd : decide ((300 : Int) < (s.length : Int)) = false := by rw [decide_eq_false_iff_not]; omega
  have ll := lower_len s
  go_enter Tryd.func3, Tryd.ntmps3
  go_wp2_with fail
  refine (awake_any w).mono ?_
  rintro e w1 ⟨rfl, hb1⟩
  have HB1 := hide hb1
  have HM1 := hide (cell_later hb1 hm)
  clear hb1 hm
  go_wp2_with fail
  refine (lower_any s w1 hs).mono ?_
  rintro e w2 ⟨rfl, hb2⟩
  have HB2 := hide (HB1.out.trans (hb2.mono HB1.out.size))
  have HM2 := hide (cell_later hb2 HM1.out)
  clear hb2 HB1 HM1
  go_wp2_with fail
  refine (lower_any (lower s) w2 (by omega)).mono ?_
  rintro e w3 ⟨rfl, hb3⟩
  have HB3 := hide (HB2.out.trans (hb3.mono HB2.out.size))
  have HM3 := hide (cell_later hb3 HM2.out)
  clear hb3 HB2 HM2
  rw [lower_lower]
  go_wp2_with fail
  refine (name_any s w3 hs).mono ?_
  rintro e w4 ⟨rfl, rfl⟩
  have hnl : NameP s → lower s = s := name_lower
  by_cases hN : NameP s
  · have hdn : decide (NameP s) = true := decide_eq_true hN
    have hq : (lower s == s) = true := by rw [beq_iff_eq]; exact hnl hN
    clear hnl hN
    go_wp2_with fail
    refine (parts_any s m w3 HM3.out (by omega)).mono ?_
    rintro e w4 ⟨V, vc, rfl, ho4, hb4⟩
    have HB4 := hide (HB3.out.trans (hb4.mono HB3.out.size))
    have HM4 := hide (cell_later hb4 HM3.out)
    have Hr4 := hide (Rd.of_own ho4)
    have Hall := hide (und_all s)
    have Hal := hide (allP_len s)
    have Hmem := hide (fun p (hp : p ∈ parts s) => And.intro (parts_mem hp).1 (parts_one hp))
    have Hpl := hide (fun p (hp : p ∈ parts s) => cut_short 47 s p ((List.mem_filter.1 hp).1))
    have Hpn := parts_len s
    clear ho4 hb4 HB3 HM3
    go_wp2_with fail
    generalize parts s = ps at *
    go_loopw [4, 37] (fun o i wr => ∃ k : Nat, k ≤ ps.length ∧ i = .int .i64 k ∧ o = .string (tx (allP (ps.take k))) ∧ Below w4.heap.size w4 wr) (fun _ i _ => ps.length - (intOf i).toNat)
    case atStart => exact ⟨0, Nat.zero_le _, rfl, rfl, Below.refl _ _⟩
    case round =>
      obtain ⟨k, hk, rfl, rfl, hb⟩ := hrel
      have Hb := hide hb
      clear hb
      have HMr := hide (cell_later Hb.out HM4.out)
      have HBr := hide (HB4.out.trans (Hb.out.mono HB4.out.size))
      by_cases hlt : k < ps.length
      · obtain ⟨ad, rfl⟩ := (Hr4.out.below Hb.out).isSome (by omega)
        have x0 := rd_str (Hr4.out.below Hb.out) k hlt
        have hmem : ps.getD k [] ∈ ps := by simp [List.getD, hlt]
        obtain ⟨hp1, hp2⟩ := Hmem.out _ hmem
        have hpl := Hpl.out _ hmem
        have hsucc := allP_succ ps k hlt
        have htk := allP_take ps (k + 1)
        have hal := Hal.out
        obtain ⟨p, hp⟩ : ∃ p, ps.getD k [] = p := ⟨_, rfl⟩
        rw [hp] at x0 hp1 hp2 hpl hsucc
        have hlen2 : (allP (ps.take k)).length + (p.length + 1) ≤ 400 := by
          have := congrArg List.length hsucc
          rw [List.length_append, List.length_cons] at this
          omega
        have ha1 := fun w => tx_add [47] p w (by simp; omega)
        have ha2 := fun w => tx_add (allP (ps.take k)) (47 :: p) w (by simp; omega)
        rw [← hsucc] at ha2
        have hpe : p.isEmpty = false := by cases p with | nil => exact absurd rfl hp1 | cons => rfl
        clear hp hmem hsucc htk hal hp1
        go_wp2_with fail
        refine (parts_any p m wr HMr.out (by omega)).mono ?_
        rintro e w5 ⟨V5, c5, rfl, ho5, hb5⟩
        rw [hp2]
        have Hb5 := hide (Hb.out.trans (hb5.mono Hb.out.size))
        clear ho5 hb5 hp2
        go_wp2_with fail
        go_roundw
        case rel => exact ⟨k + 1, by omega, by go_num, rfl, Hb5.out⟩
        case measure => simp [intOf] <;> omega
      · obtain rfl : k = ps.length := by omega
        have hal := Hal.out
        rw [List.take_length]
        go_wp2_with fail
        refine (under_any (allP ps) s m wr HMr.out (by omega) (by omega)).mono ?_
        rintro e w5 ⟨rfl, hb5⟩
        have HB5 := hide (HBr.out.trans (hb5.mono HBr.out.size))
        have HM5 := hide (cell_later hb5 HMr.out)
        clear hb5
        rw [Hall.out.1]
        go_wp2_with fail
        refine (under_any s (allP ps) m w5 HM5.out (by omega) (by omega)).mono ?_
        rintro e w6 ⟨rfl, hb6⟩
        have HB6 := hide (HB5.out.trans (hb6.mono HB5.out.size))
        clear hb6
        rw [Hall.out.2]
        go_wp2_with fail
        go_ret
        exact ⟨by first | rfl | simp, HB6.out⟩
  · have hdn : decide (NameP s) = false := decide_eq_false hN
    clear hnl hN
    go_wp2_with fail
    refine (parts_any s m w3 HM3.out (by omega)).mono ?_
    rintro e w4 ⟨V, vc, rfl, ho4, hb4⟩
    have HB4 := hide (HB3.out.trans (hb4.mono HB3.out.size))
    have HM4 := hide (cell_later hb4 HM3.out)
    have Hr4 := hide (Rd.of_own ho4)
    have Hall := hide (und_all s)
    have Hal := hide (allP_len s)
    have Hmem := hide (fun p (hp : p ∈ parts s) => And.intro (parts_mem hp).1 (parts_one hp))
    have Hpl := hide (fun p (hp : p ∈ parts s) => cut_short 47 s p ((List.mem_filter.1 hp).1))
    have Hpn := parts_len s
    clear ho4 hb4 HB3 HM3
    go_wp2_with fail
    generalize parts s = ps at *
    go_loopw [4, 37] (fun o i wr => ∃ k : Nat, k ≤ ps.length ∧ i = .int .i64 k ∧ o = .string (tx (allP (ps.take k))) ∧ Below w4.heap.size w4 wr) (fun _ i _ => ps.length - (intOf i).toNat)
    case atStart => exact ⟨0, Nat.zero_le _, rfl, rfl, Below.refl _ _⟩
    case round =>
      obtain ⟨k, hk, rfl, rfl, hb⟩ := hrel
      have Hb := hide hb
      clear hb
      have HMr := hide (cell_later Hb.out HM4.out)
      have HBr := hide (HB4.out.trans (Hb.out.mono HB4.out.size))
      by_cases hlt : k < ps.length
      · obtain ⟨ad, rfl⟩ := (Hr4.out.below Hb.out).isSome (by omega)
        have x0 := rd_str (Hr4.out.below Hb.out) k hlt
        have hmem : ps.getD k [] ∈ ps := by simp [List.getD, hlt]
        obtain ⟨hp1, hp2⟩ := Hmem.out _ hmem
        have hpl := Hpl.out _ hmem
        have hsucc := allP_succ ps k hlt
        have htk := allP_take ps (k + 1)
        have hal := Hal.out
        obtain ⟨p, hp⟩ : ∃ p, ps.getD k [] = p := ⟨_, rfl⟩
        rw [hp] at x0 hp1 hp2 hpl hsucc
        have hlen2 : (allP (ps.take k)).length + (p.length + 1) ≤ 400 := by
          have := congrArg List.length hsucc
          rw [List.length_append, List.length_cons] at this
          omega
        have ha1 := fun w => tx_add [47] p w (by simp; omega)
        have ha2 := fun w => tx_add (allP (ps.take k)) (47 :: p) w (by simp; omega)
        rw [← hsucc] at ha2
        have hpe : p.isEmpty = false := by cases p with | nil => exact absurd rfl hp1 | cons => rfl
        clear hp hmem hsucc htk hal hp1
        go_wp2_with fail
        refine (parts_any p m wr HMr.out (by omega)).mono ?_
        rintro e w5 ⟨V5, c5, rfl, ho5, hb5⟩
        rw [hp2]
        have Hb5 := hide (Hb.out.trans (hb5.mono Hb.out.size))
        clear ho5 hb5 hp2
        go_wp2_with fail
        go_roundw
        case rel => exact ⟨k + 1, by omega, by go_num, rfl, Hb5.out⟩
        case measure => simp [intOf] <;> omega
      · obtain rfl : k = ps.length := by omega
        have hal := Hal.out
        rw [List.take_length]
        go_wp2_with fail
        refine (under_any (allP ps) s m wr HMr.out (by omega) (by omega)).mono ?_
        rintro e w5 ⟨rfl, hb5⟩
        have HB5 := hide (HBr.out.trans (hb5.mono HBr.out.size))
        have HM5 := hide (cell_later hb5 HMr.out)
        clear hb5
        rw [Hall.out.1]
        go_wp2_with fail
        refine (under_any s (allP ps) m w5 HM5.out (by omega) (by omega)).mono ?_
        rintro e w6 ⟨rfl, hb6⟩
        have HB6 := hide (HB5.out.trans (hb6.mono HB5.out.size))
        clear hb6
        rw [Hall.out.2]
        go_wp2_with fail
        go_ret
        exact ⟨by first | rfl | simp, HB6.out⟩
end Go.Proofs.YtdjpcdimcjjemaaDoor
