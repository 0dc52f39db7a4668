/-
  SpinFair: in as many turns as the sum of the weights, with all up, each is chosen as often as its weight says: the walk. Conditions: the weights can be read.
-/
import Derived.Test.YtnabckcdffpimaaFairMath
import Derived.OwnWalk
import Derived.Laws.OwnMore
namespace Go.Proofs.Ytnabckcdffpimaa
open Go.RowKit Ieee

theorem made_i64 (n : Nat) : (madeCells (Value.int .i64 0).cells (n * 1)).toList = i64s (List.replicate n 0) := by
  rw [show (Value.int .i64 0).cells = #[.int .i64 0] from rfl, toList_madeCells_one]
  simp [i64s]

set_option maxRecDepth 100000 in
set_option maxHeartbeats 16000000 in
theorem fair_short (A : Option Addr) (n c : Nat) (ws : List Int) (u : Int) (w : World) (hr : Rd w 1 A n c (i64s ws)) (hn : n ≤ 8)
    (hg : ∀ k, k < n → okW (ws.getD k 0)) (hu0 : 0 ≤ u) (hu : u ≤ 255) :
    Calls Try.prog 6 #[.slice A n c, .int .u8 u] w fun e w' => e = .returned (.bool true) ∧ Below w.heap.size w w' := by
  obtain ⟨i0, hi0, hz0, hz1, hz2⟩ := info_parts Try.info3
  have hl := hr.intLen
  subst hl
  have hSP := fresh_SP ws hn hg
  have hTb := tot_bound hSP
  obtain ⟨T, hT⟩ : ∃ T : Nat, (T : Int) = tot ws := ⟨(tot ws).toNat, Int.toNat_of_nonneg hTb.1⟩
  have hT8 : T ≤ 800 := by omega
  have HSP := hide hSP
  have Hr := hide hr
  have Hg := hide hg
  have HT := hide hT
  obtain ⟨R, hR⟩ : ∃ R : Nat, u % 3 = (R : Int) := ⟨(u % 3).toNat, (Int.toNat_of_nonneg (Int.emod_nonneg _ (by omega))).symm⟩
  have hR3 : R < 3 := by omega
  clear hr hg hSP hTb hT
  go_enter Try.func6, Try.ntmps6
  go_wp2_with fail
  refine (awake22_any _).mono ?_
  rintro e w1 ⟨rfl, hb1⟩
  have HB1 := hide hb1
  clear hb1
  go_wp2_with fail
  refine (new_good A _ c ws _ (Hr.out.below HB1.out) hn Hg.out).mono ?_
  rintro e w2 ⟨A1, c1, rfl, hr2, hf2, hb2⟩
  have HS := hide (SB.new hr2)
  have HB2 := hide ((HB1.out.trans (hb2.mono HB1.out.size)).alloc (by have := HB1.out.size; have := hb2.size; omega) (.cells #[.slice A1 ws.length c1] 41))
  have hgs : w.heap.size ≤ w2.heap.size := (HB1.out.trans (hb2.mono HB1.out.size)).size
  clear hr2 hb2 hf2 HB1
  go_wp2_with fail
  rw [hR]
  clear hR
  have HSg := hide (HS.out.alloc (.cells #[.slice A1 ws.length c1] 41))
  have hq0 := SB.new HS.out.rd
  rw [World.size_alloc] at hq0
  have HSq := hide hq0
  have HB3 := hide (HB2.out.alloc HB2.out.size (.cells #[.slice A1 ws.length c1] 41))
  have hA1g := hide HS.out.far
  have HA := hide (Hr.out.below HB3.out)
  have hAg := hide (show i64s ws ≠ [] → ∀ ad, A = some ad → ad.block < w.heap.size from fun hx ad e => Hr.out.lt hx e)
  clear hq0 HS HB2
  generalize hW3 : (w2.alloc (.cells #[.slice A1 ws.length c1] 41)).alloc (.cells #[.slice A1 ws.length c1] 41) = W3 at *
  generalize hgg : w2.heap.size = g at *
  clear hW3 hgg w2 w1 Hr
  go_loopw [29] (fun i wr => ∃ (K : Nat) (E : Option Addr) (ec : Nat), K ≤ 1 + R ∧ i = .int .u8 K ∧ SB wr g E ws.length ec (fresh ws) ∧ SB wr (g + 1) A1 ws.length c1 (fresh ws) ∧ Rd wr 1 A ws.length c (i64s ws) ∧ Below w.heap.size w wr) (fun i _ => 1 + R - (intOf i).toNat)
  case atStart => exact ⟨0, A1, c1, Nat.zero_le _, rfl, HSg.out, HSq.out, HA.out, HB3.out⟩
  case round =>
    clear HSg HSq HA HB3
    obtain ⟨K, E, ec, hK, rfl, hS, hq, hA, hb⟩ := hrel
    have HS := hide hS
    have Hq := hide hq
    have HA := hide hA
    have HB := hide hb
    clear hS hq hA hb
    by_cases hlt : K < 1 + R
    · have hlt2 : decide ((K : Int) < 1 + (R : Int)) = true := by rw [decide_eq_true_iff]; omega
      go_wp2_with (refine wpList_make_full _ rfl (.tmp 32) (.tmp 32) 39 rfl w.heap.size 3 i0 _ 1 Try.underlying39 hi0 hz0 hz1 .i64 .i64 _ _ ws.length rfl rfl rfl rfl (by rw [hz2]; omega) (by simp only [maxLen]; omega) HB.out.size ?_
                   intro w3 hown3 hg3
                   have Hq0 := hide Hq.out
                   have HE0 := hide (show pvs (fresh ws) ≠ [] → ∀ ad, E = some ad → ad.block < wr.heap.size from fun hx ad e => HS.out.rd.lt hx e)
                   have hb3 : Below wr.heap.size wr w3 := (Below.refl _ _).grown hg3 (Nat.le_refl _) (by simp)
                   have HS := hide (HS.out.step hb3)
                   have Hq := hide (Hq.out.step hb3)
                   have HA := hide (HA.out.below hb3)
                   have HB := hide (HB.out.trans (hb3.mono HB.out.size))
                   have Hown := hide (own_mono hown3 (Nat.le_refl _))
                   have s0 := HS.out.c0)
      have hgc : g + 1 < wr.heap.size := (show SB wr (g + 1) A1 ws.length c1 (fresh ws) from Hq0.out).lt
      generalize hcb : wr.heap.size = cb at *
      refine (total_any E ws.length ec (fresh ws) w3 HS.out.rd (HSP.out.ok (by omega)) 0 T (sum_fresh HSP.out HT.out)).mono ?_
      rintro e w4 ⟨rfl, hb4⟩
      have HS4 := hide (HS.out.step hb4)
      have Hq4 := hide (Hq.out.step hb4)
      have HA4 := hide (HA.out.below hb4)
      have HB4 := hide (HB.out.trans (hb4.mono HB.out.size))
      have Hown4 := hide (own_below Hown.out hb4 (Nat.le_refl _))
      have hEc := hide (show pvs (fresh ws) ≠ [] → ∀ ad, E = some ad → ad.block ≠ cb from fun hx ad e => by
        have := HE0.out hx ad e
        omega)
      have HA1c := hide (show pvs (fresh ws) ≠ [] → ∀ ad, A1 = some ad → ad.block ≠ cb from fun hx ad e => by
        have := (show Rd wr 1 A1 ws.length c1 (pvs (fresh ws)) from Hq0.out.rd).lt hx e
        omega)
      clear hb4 HS Hq HA HB Hown Hq0 HE0 s0
      go_wp2_with fail
      go_loopw [36] (fun i wr => ∃ (t : Nat) (E : Option Addr) (ec : Nat) (l : List PN) (cs : List Int), t ≤ T ∧ i = .int .i64 t ∧ SB wr g E ws.length ec l ∧ Fair ws t cs l ∧ SP l (900 * t) ∧ SB wr (g + 1) A1 ws.length c1 (fresh ws) ∧ Rd wr 1 A ws.length c (i64s ws) ∧
          wr.ownsRow w.heap.size 3 1 (.slice (some ⟨cb, 0, none⟩) ws.length ws.length) ws.length (i64s cs) ∧ (pvs l ≠ [] → ∀ ad, E = some ad → ad.block ≠ cb) ∧ Below w.heap.size w wr) (fun i _ => T - (intOf i).toNat)
      case atStart => exact ⟨0, E, ec, fresh ws, List.replicate ws.length 0, Nat.zero_le _, rfl, HS4.out, Fair.start ws Hg.out, HSP.out, Hq4.out, HA4.out, by rw [← made_i64]; exact Hown4.out, hEc.out, HB4.out⟩
      case round =>
        clear HS4 Hq4 HA4 HB4 Hown4 hEc
        obtain ⟨t, E, ec, l, cs, ht, rfl, hS, hF, hs, hq, hA, ho, hEc, hb⟩ := hrel
        have HS := hide hS
        have HF := hide hF
        have Hs := hide hs
        have Hq := hide hq
        have HA := hide hA
        have Ho := hide ho
        have HEc := hide hEc
        have HB := hide hb
        have s0 := hS.c0
        have s1 := hS.f0
        have hgw : g < wr.heap.size := hS.lt
        clear hS hF hs hq hA ho hEc hb
        by_cases htT : t < T
        · have hpos : 0 < tot ws := by rw [← HT.out]; omega
          obtain ⟨b, hb1, hb2, hF2⟩ := HF.out.turn hpos Hg.out
          have hs2 := Hs.out.after [] b
          have hcb0 := HF.out.cb b hb2
          have hsum2 := sum_fair hF2 hs2 (by omega)
          obtain ⟨l2, hl2⟩ : ∃ l2, after [] l b = l2 := ⟨_, rfl⟩
          rw [hl2] at hF2 hs2 hsum2
          have Hn := hide fun w4 (h : Rd w4 1 E ws.length ec (pvs l)) => next_yes E ws.length ec none 0 0 l [] (900 * t) b w4 h (Rd.nil_ _ _) Hs.out (by omega) hb1 l2 hl2
          have HF2 := hide hF2
          have Hs2 := hide hs2
          have Hsum2 := hide hsum2
          clear hpos hb1 hF2 hs2 hsum2 hl2
          go_wp2_with fail
          refine (Hn.out _ HS.out.rd).mono ?_
          rintro e w5 ⟨E2, ec2, rfl, hr5, hf5, hb5⟩
          have s0 := cell_later hb5 s0
          have s1 : w5.frozen? ⟨g, 0, none⟩ = false := (HS.out.step hb5).f0
          have hgw5 : g < w5.heap.size := (HS.out.step hb5).lt
          have Hf2g := hide (show pvs l2 ≠ [] → ∀ ad, E2 = some ad → ad.block ≠ g from fun _ ad e => by have := hf5 ad e; omega)
          have hcbw : cb < wr.heap.size := (Ho.out.lt cb rfl).2
          have Hf2c := hide (show pvs l2 ≠ [] → ∀ ad, E2 = some ad → ad.block ≠ cb from fun _ ad e => by have := hf5 ad e; omega)
          have HS5 := hide ((HS.out.step hb5).store hr5 Hf2g.out)
          have Hq5 := hide ((Hq.out.step hb5).other (p := g) (by omega) hA1g.out (.slice E2 ws.length ec2))
          have HA5 := hide ((HA.out.below hb5).setCell (p := ⟨g, 0, none⟩) (.slice E2 ws.length ec2) (fun hx ad e he => by have := hAg.out hx ad e; simp only at he; omega))
          have Ho5 := hide (own_setCell_far (own_below Ho.out hb5 (Nat.le_refl _)) (p := ⟨g, 0, none⟩) (by intro e; injection e with e; simp only at e; omega) (.slice E2 ws.length ec2))
          have HB5 := hide ((HB.out.trans (hb5.mono HB.out.size)).setCell (p := ⟨g, 0, none⟩) hgs (.slice E2 ws.length ec2))
          have x0 := (Rd.of_own Ho5.out).ints b hb2
          simp only [Addr.add_lit, Nat.zero_add] at x0
          have x1 := Ho5.out.frozenAt b
          have y0 := HS5.out.c0
          generalize hW5 : w5.setCell ⟨g, 0, none⟩ (.slice E2 ws.length ec2) = W5 at *
          clear hr5 hf5 hb5 Hn
          obtain ⟨cv, hcv⟩ : ∃ cv, cs.getD b 0 = cv := ⟨_, rfl⟩
          rw [hcv] at x0 hcb0
          have Hcv := hide hcv
          clear hcv
          have hcv1 : 0 ≤ cv := hcb0.1
          have hcv2 : cv ≤ 800 := by omega
          have hbi : (b : Int) < (ws.length : Int) := by omega
          clear hcb0
          go_wp2_with fail
          have h6 := Ho5.out.stored b (.int .i64 (cv + 1))
          have hset : (i64s cs).set b (.int .i64 (cv + 1)) = i64s (cs.set b (cs.getD b 0 + 1)) := by rw [Hcv.out]; simp [i64s, List.map_set]
          have Ho6 := hide (hset ▸ h6.1)
          have hcg : cb ≠ g := by omega
          have hcg1 : cb ≠ g + 1 := by omega
          have HS6 := hide (HS5.out.other2 (p := ⟨cb, b, none⟩) hcg Hf2c.out (.int .i64 (cv + 1)))
          have Hq6 := hide (Hq5.out.other2 (p := ⟨cb, b, none⟩) hcg1 HA1c.out (.int .i64 (cv + 1)))
          have HA6 := hide (HA5.out.setCell (p := ⟨cb, b, none⟩) (.int .i64 (cv + 1)) (fun hx ad e he => by have := hAg.out hx ad e; simp only at he; omega))
          have HB6 := hide (HB5.out.setCell (p := ⟨cb, b, none⟩) (by simp only; omega) (.int .i64 (cv + 1)))
          have y0 := HS6.out.c0
          generalize hW6 : W5.setCell ⟨cb, b, none⟩ (.int .i64 (cv + 1)) = W6 at *
          clear hW6 hW5 h6 hset x0 x1 HS5 Hq5 HA5 Ho5 HB5 s0 s1
          refine (pairs_any E2 ws.length ec2 l2 _ HS6.out.rd (by omega)).mono ?_
          rintro e w7 ⟨P7, pc, rfl, hr7, _, hb7⟩
          have HS7 := hide (HS6.out.step hb7)
          have Hq7 := hide (Hq6.out.step hb7)
          have HA7 := hide (HA6.out.below hb7)
          have Ho7 := hide (own_below Ho6.out hb7 (Nat.le_refl _))
          have HB7 := hide (HB6.out.trans (hb7.mono HB6.out.size))
          have Hr7 := hide hr7
          clear hr7 hb7 HS6 Hq6 HA6 Ho6 HB6 y0
          go_wp2_with fail
          refine (sum_to P7 ws.length pc l2 0 (tot ws) _ Hr7.out (Hs2.out.ok (by omega)) Hsum2.out).mono ?_
          rintro e w8 ⟨rfl, rfl⟩
          go_wp2_with fail
          refine (parts_any 0 (tot ws) _ (by decide) (by rw [← HT.out]; omega)).mono ?_
          rintro e w8 ⟨rfl, rfl⟩
          go_wp2_with fail
          go_roundw
          case rel => exact ⟨t + 1, E2, ec2, l2, _, by omega, by go_num, HS7.out, HF2.out, Hs2.out.mono (by omega), Hq7.out, HA7.out, Ho7.out, Hf2c.out, HB7.out⟩
          case measure => simp [intOf]; omega
        · obtain rfl : t = T := by omega
          have hstop := HF.out.stop HT.out (tot_pos Hg.out)
          obtain ⟨hcs, hl⟩ := hstop
          subst hl
          have Hcs := hide hcs
          clear hcs htT ht
          go_wp2_with fail
          obtain ⟨wo, ewo⟩ : ∃ wo : World, wo = wr := ⟨_, rfl⟩
          subst ewo
          go_loopw [69] (fun i wx => ∃ j : Nat, j ≤ ws.length ∧ i = .int .i64 j ∧ wo = wx) (fun i _ => ws.length - (intOf i).toNat)
          case atStart => exact ⟨0, Nat.zero_le _, rfl, rfl⟩
          case round =>
            obtain ⟨j, hj, rfl, rfl⟩ := hrel
            by_cases hjn : j < ws.length
            · obtain ⟨ad, rfl⟩ := HA.out.isSome (by omega)
              have h1 := Hcs.out j hjn
              obtain ⟨x, hx⟩ : ∃ x, ws.getD j 0 = x := ⟨_, rfl⟩
              have x0 : wo.cell? (ad.add j) = some (.int .i64 x) := by rw [← hx]; exact HA.out.ints j hjn
              have x1 : wo.cell? ⟨cb, j, none⟩ = some (.int .i64 x) := by
                have := (Rd.of_own Ho.out).ints j hjn
                rw [h1, hx] at this
                simpa only [Addr.add_lit, Nat.zero_add] using this
              have hne : (x != x) = false := by simp
              clear h1 hx
              go_wp2_with fail
              go_roundw
              case rel => exact ⟨j + 1, by omega, by go_num, trivial⟩
              case measure => simp [intOf]; omega
            · obtain rfl : j = ws.length := by omega
              have q0 := Hq.out.c0
              clear hjn hj
              go_wp2_with fail
              refine (same_any E A1 ws.length ec c1 (fresh ws) _ HS.out.rd Hq.out.rd (HSP.out.ok (by omega))).mono ?_
              rintro e w8 ⟨rfl, hb8⟩
              have HS8 := hide (HS.out.step hb8)
              have Hq8 := hide (Hq.out.step hb8)
              have HA8 := hide (HA.out.below hb8)
              have HB8 := hide (HB.out.trans (hb8.mono HB.out.size))
              clear hb8 q0 s0 s1 HS Hq HA HB Ho
              go_wp2_with fail
              go_roundw
              case rel => exact ⟨K + 1, E, ec, by omega, by go_num, HS8.out, Hq8.out, HA8.out, HB8.out⟩
              case measure => simp [intOf]; omega
    · obtain rfl : K = 1 + R := by omega
      have hlt2 : decide (((1 + R : Nat) : Int) < 1 + (R : Int)) = false := by rw [decide_eq_false_iff_not]; omega
      go_wp2_with fail
      go_ret
      exact ⟨rfl, HB.out⟩

set_option maxHeartbeats 4000000 in
theorem fair_many (A : Option Addr) (n c : Nat) (u : Int) (w : World) (hn : 8 < n) :
    Calls Try.prog 6 #[.slice A n c, .int .u8 u] w fun e w' => e = .returned (.bool true) ∧ Below w.heap.size w w' := by
  go_enter Try.func6, Try.ntmps6
  go_wp2_with fail
  refine (awake22_any _).mono ?_
  rintro e w1 ⟨rfl, hb1⟩
  have HB1 := hide hb1
  clear hb1
  go_wp2_with fail
  refine (new_many A n c _ hn).mono ?_
  rintro e w2 ⟨rfl, hb2⟩
  have HB2 := hide ((HB1.out.trans (hb2.mono HB1.out.size)).alloc (by have := HB1.out.size; have := hb2.size; omega) (.cells #[.slice none 0 0] 41))
  clear hb2
  go_wp2_with fail
  go_ret
  exact ⟨rfl, HB2.out⟩

set_option maxHeartbeats 4000000 in
theorem fair_bad (A : Option Addr) (n c : Nat) (ws : List Int) (u : Int) (w : World) (hr : Rd w 1 A n c (i64s ws)) (hn : n ≤ 8) (hg : ∃ k, k < n ∧ ¬ okW (ws.getD k 0)) :
    Calls Try.prog 6 #[.slice A n c, .int .u8 u] w fun e w' => e = .returned (.bool true) ∧ Below w.heap.size w w' := by
  have Hr := hide hr
  have Hg := hide hg
  clear hr hg
  go_enter Try.func6, Try.ntmps6
  go_wp2_with fail
  refine (awake22_any _).mono ?_
  rintro e w1 ⟨rfl, hb1⟩
  have HB1 := hide hb1
  have Hr1 := hide (Hr.out.below hb1)
  clear hb1
  go_wp2_with fail
  refine (new_bad A n c ws _ Hr1.out hn Hg.out).mono ?_
  rintro e w2 ⟨rfl, hb2⟩
  have HB2 := hide ((HB1.out.trans (hb2.mono HB1.out.size)).alloc (by have := HB1.out.size; have := hb2.size; omega) (.cells #[.slice none 0 0] 41))
  clear hb2
  go_wp2_with fail
  go_ret
  exact ⟨rfl, HB2.out⟩

theorem fair_any (A : Option Addr) (n c : Nat) (ws : List Int) (u : Int) (w : World) (hr : Rd w 1 A n c (i64s ws)) (hu : 0 ≤ u ∧ u ≤ 255) :
    Calls Try.prog 6 #[.slice A n c, .int .u8 u] w fun e w' => e = .returned (.bool true) ∧ Below w.heap.size w w' := by
  by_cases hn : 8 < n
  · exact fair_many A n c u w hn
  by_cases hg : ∀ k, k < n → okW (ws.getD k 0)
  · exact fair_short A n c ws u w hr (by omega) hg hu.1 hu.2
  · refine fair_bad A n c ws u w hr (by omega) ?_
    refine Classical.byContradiction fun h => hg fun k hk => Classical.byContradiction fun h2 => h ⟨k, hk, h2⟩
end Go.Proofs.Ytnabckcdffpimaa
