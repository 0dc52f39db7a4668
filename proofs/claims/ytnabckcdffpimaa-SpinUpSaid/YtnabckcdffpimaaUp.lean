/-
  SpinUp: who is down isn't chosen, and what it has in hand stays; where one alone is up it is chosen ever: the walk. Conditions: the slices can be read.
-/
import Derived.Test.YtnabckcdffpimaaUpMath
namespace Go.Proofs.Ytnabckcdffpimaa
open Go.RowKit Ieee

set_option maxRecDepth 100000 in
set_option maxHeartbeats 16000000 in
theorem up_short (A : Option Addr) (n c : Nat) (B : Option Addr) (m d : Nat) (ws ds : List Int) (u t : Int) (w : World) (hr : Rd w 1 A n c (i64s ws)) (hD : Rd w 1 B m d (i64s ds)) (hn : n ≤ 8) (hn0 : 0 < n) (hm : m ≤ 10)
    (hg : ∀ k, k < n → okW (ws.getD k 0)) (hu0 : 0 ≤ u) (hu : u ≤ 255) (ht0 : 0 ≤ t) (ht : t ≤ 255) :
    Calls Try.prog 5 #[.slice A n c, .int .u8 u, .slice B m d, .int .u8 t] w fun e w' => e = .returned (.bool true) ∧ Below w.heap.size w w' := by
  obtain ⟨i0, hi0, hz0, hz1, hz2⟩ := info_parts Try.info3
  have hl := hr.intLen
  have hSP := fresh_SP ws (by rw [hl]; exact hn) (by rw [hl]; exact hg)
  have HSP := hide hSP
  have Hr := hide hr
  have HD := hide hD
  have Hl := hide hl
  have Hg := hide hg
  obtain ⟨o, ho⟩ : ∃ o : Nat, u % (n : Int) = (o : Int) := ⟨(u % (n : Int)).toNat, (Int.toNat_of_nonneg (Int.emod_nonneg _ (by omega))).symm⟩
  have hon : o < n := by have := Int.emod_lt_of_pos u (show (0 : Int) < n by omega); omega
  obtain ⟨T, hT⟩ : ∃ T : Nat, t % 40 = (T : Int) := ⟨(t % 40).toNat, (Int.toNat_of_nonneg (Int.emod_nonneg _ (by omega))).symm⟩
  have hT40 : T < 40 := by omega
  have hne0 : ((n : Int) == 0) = false := by rw [beq_eq_false_iff_ne]; omega
  have hm10 : ¬ (10 : Int) < (m : Int) := by omega
  clear hr hD hl hg hSP
  go_enter Try.func5, Try.ntmps5
  go_wp2_with fail
  refine (awake22_any _).mono ?_
  rintro e w1 ⟨rfl, hb1⟩
  have HB1 := hide hb1
  clear hb1
  go_wp2_with fail
  refine (new_good A n c ws _ (Hr.out.below HB1.out) hn Hg.out).mono ?_
  rintro e w2 ⟨A1, c1, rfl, hr2, hf2, hb2⟩
  have HS := hide (SB.new hr2)
  have HB2 := hide ((HB1.out.trans (hb2.mono HB1.out.size)).alloc (by have := HB1.out.size; have := hb2.size; omega) (.cells #[.slice A1 n c1] 41))
  have hgs : w.heap.size ≤ w2.heap.size := (HB1.out.trans (hb2.mono HB1.out.size)).size
  clear hr2 hb2 hf2 HB1
  go_wp2_with fail
  generalize hW2 : w2.alloc (.cells #[.slice A1 n c1] 41) = W2 at *
  generalize hgg : w2.heap.size = g at *
  clear hW2 hgg w2 w1
  rw [ho]
  clear ho
  have Hw2 := hide HB2.out.size
  go_loopw [12, 49] (fun v i wr => ∃ k : Nat, k ≤ n ∧ i = .int .i64 k ∧ wr.ownsRow W2.heap.size 3 1 v (oth o k).length (i64s (oth o k)) ∧ Below W2.heap.size W2 wr) (fun _ i _ => n - (intOf i).toNat)
  case atStart => exact ⟨0, Nat.zero_le _, rfl, World.ownsRow_nil _ _ _ _, Below.refl _ _⟩
  case round =>
    obtain ⟨k, hk, rfl, hown, hbel⟩ := hrel
    have Hown := hide hown
    have Hbel := hide hbel
    clear hown hbel
    by_cases hlt : k < n
    · have hkl := oth_len o k
      by_cases hko : k = o
      · subst hko
        have hne : ((k : Int) != (k : Int)) = false := by simp
        have ho1 : oth k (k + 1) = oth k k := by rw [oth, if_pos rfl]
        have Ho1 := hide ho1
        clear ho1
        go_wp2_with fail
        go_roundw
        case rel => exact ⟨k + 1, by omega, by go_num, by rw [Ho1.out]; exact Hown.out, Hbel.out⟩
        case measure => simp [intOf]; omega
      · have hne : ((k : Int) != (o : Int)) = true := by rw [bne_iff_ne]; omega
        have ho1 : oth o (k + 1) = oth o k ++ [(k : Int)] := by rw [oth, if_neg hko]
        have Ho1 := hide ho1
        clear ho1 hko
        go_wp2_with ((at_builtin
                      refine wpList_append_rd _ rfl (.tmp 55) (.tmp 57) 39 rfl W2.heap.size 3 i0 _ 1 8 Try.underlying39 hi0 hz0 hz1 hz2 rfl (by omega) _ (oth o k).length (i64s (oth o k)) rfl (Hown.out.alloc _) _ 1 1 [.int .i64 k] rfl (rd_new _ _ _) (i64s_one [(k : Int)]) (by simp only [maxLen]; omega) (by omega) (by have := Hbel.out.size; simp; omega) ?_
                      intro v2 w2 hown2 hg2 hat2
                      have HB2' := hide ((Hbel.out.alloc Hbel.out.size _).grown hg2 (by have := Hbel.out.size; simp; omega) (fun k e => (Hown.out.lt k e).1))
                      have Hown2 := hide hown2
                      clear hown2 hg2 hat2))
        go_roundw
        case rel =>
          refine ⟨k + 1, by omega, by go_num, ?_, HB2'.out⟩
          rw [Ho1.out, List.length_append, show i64s (oth o k ++ [(k : Int)]) = i64s (oth o k) ++ [.int .i64 k] by simp [i64s]]
          exact Hown2.out
        case measure => simp [intOf]; omega
    · obtain rfl : k = n := by omega
      clear hlt hk
      obtain ⟨O, oc, rfl, hO⟩ := own_slice Hown.out
      have HO := hide hO
      have HS3 := hide (HS.out.step Hbel.out)
      have HBw := hide (HB2.out.trans (Hbel.out.mono HB2.out.size))
      have h0 := HS3.out.c0
      clear hO
      go_wp2_with fail
      have hA1g := hide HS3.out.far
      have hOg := hide (show i64s (oth o k) ≠ [] → ∀ ad, O = some ad → ad.block ≠ g from fun hx ad e => by
        have h1 := (Hown.out.lt ad.block (by rw [e]; rfl)).1
        have h2 := HS.out.lt
        omega)
      have hBg := hide (show i64s ds ≠ [] → ∀ ad, B = some ad → ad.block ≠ g from fun hx ad e => by
        have h1 := HD.out.lt hx e
        omega)
      have hgq0 : g < wr.heap.size := HS3.out.lt
      have HDr := hide (HD.out.below HBw.out)
      have HSq := hide (SB.new HS3.out.rd)
      have HS4 := hide (HS3.out.alloc (.cells #[.slice A1 k c1] 41))
      have HO4 := hide (HO.out.alloc (.cells #[.slice A1 k c1] 41))
      have HD4 := hide (HDr.out.alloc (.cells #[.slice A1 k c1] 41))
      have HB4 := hide (HBw.out.alloc HBw.out.size (.cells #[.slice A1 k c1] 41))
      generalize hW4 : wr.alloc (.cells #[.slice A1 k c1] 41) = W4 at *
      generalize hqq : wr.heap.size = q at *
      clear hW4 hqq HS3 HBw HO HDr HS HB2 Hbel Hown h0 HD
      rw [hT]
      clear hT
      go_loopw [63] (fun i wr => ∃ (K : Nat) (E : Option Addr) (ec : Nat) (l1 : List PN), K ≤ T ∧ i = .int .u8 K ∧ SB wr g E k ec l1 ∧ SP l1 (900 * K) ∧ SB wr q A1 k c1 (fresh ws) ∧
          Rd wr 1 O (oth o k).length oc (i64s (oth o k)) ∧ Rd wr 1 B m d (i64s ds) ∧ Below w.heap.size w wr) (fun i _ => T - (intOf i).toNat)
      case atStart => exact ⟨0, A1, c1, fresh ws, Nat.zero_le _, rfl, HS4.out, HSP.out, HSq.out, HO4.out, HD4.out, HB4.out⟩
      case round =>
        clear HS4 HSq HO4 HD4 HB4
        obtain ⟨K, E, ec, l1, hK, rfl, hS, hs1, hq, hO, hD, hb⟩ := hrel
        have HS := hide hS
        have Hs1 := hide hs1
        have Hq := hide hq
        have HO := hide hO
        have HD := hide hD
        have HB := hide hb
        have s0 := hS.c0
        clear hS hs1 hq hO hD hb
        by_cases hlt : K < T
        · go_wp2_with fail
          refine (next_u E k ec B m d l1 ds (900 * K) _ HS.out.rd HD.out Hs1.out (by omega)).mono ?_
          rintro e w5 ⟨A2, c2, l2, bi, ok, rfl, hr2, hs2, hA2, hkeep, hb5⟩
          have hl1 := HS.out.rd.pairLen
          have hl2 := hr2.pairLen
          have Hfar2 := hide (show pvs l2 ≠ [] → ∀ ad, A2 = some ad → ad.block ≠ g from fun _ ad e => by
            rcases hA2 with rfl | h
            · refine HS.out.far ?_ ad e
              intro h0
              have := congrArg List.length h0
              simp at this
              rw [this] at hl1
              simp at hl1
              omega
            · have h1 := h ad e
              have h2 := HS.out.lt
              omega)
          have Hlen2 := hide hl2
          have Hs2 := hide hs2
          have Hkeep := hide hkeep
          have HN := hide (SB.new hr2)
          have HS5 := hide ((HS.out.step hb5).alloc (.cells #[.slice A2 k c2] 41))
          have Hq5 := hide ((Hq.out.step hb5).alloc (.cells #[.slice A2 k c2] 41))
          have HO5 := hide ((HO.out.below hb5).alloc (.cells #[.slice A2 k c2] 41))
          have HD5 := hide ((HD.out.below hb5).alloc (.cells #[.slice A2 k c2] 41))
          have HB5 := hide ((HB.out.trans (hb5.mono HB.out.size)).alloc (by have := HB.out.size; have := hb5.size; omega) (.cells #[.slice A2 k c2] 41))
          have hgr : g ≠ w5.heap.size := by have := (HS.out.step hb5).lt; omega
          clear hl1 hl2 hs2 hkeep hr2 hA2 hb5 HS Hq HO HD HB s0
          go_wp2_with fail
          generalize hW5 : w5.alloc (.cells #[.slice A2 k c2] 41) = W5 at *
          generalize hrr : w5.heap.size = r at *
          clear hW5 hrr w5 wr
          go_loopw [74] (fun i wr => ∃ j : Nat, j ≤ m ∧ i = .int .i64 j ∧ Below W5.heap.size W5 wr) (fun i _ => m - (intOf i).toNat)
          case atStart => exact ⟨0, Nat.zero_le _, rfl, Below.refl _ _⟩
          case round =>
            obtain ⟨j, hj, rfl, hbel⟩ := hrel
            by_cases hjm : j < m
            · obtain ⟨bd, rfl⟩ := HD5.out.isSome (by omega)
              obtain ⟨x, hx⟩ : ∃ x, ds.getD j 0 = x := ⟨_, rfl⟩
              have hcx : wr.cell? (bd.add j) = some (.int .i64 x) := by rw [← hx]; exact (HD5.out.below hbel).ints j hjm
              have Hx := hide hx
              have Hbel := hide hbel
              clear hx hbel
              by_cases hx0 : x < 0
              · have hx1 : decide (0 ≤ x) = false := by rw [decide_eq_false_iff_not]; omega
                go_wp2_with fail
                go_quiet (fail)
                go_wp2_with fail
                go_roundw
                case rel => exact ⟨j + 1, by omega, by go_num, Hbel.out.trans (below_drewN _ _ _)⟩
                case measure => simp [intOf]; omega
              · by_cases hxn : (k : Int) ≤ x
                · have hx1 : decide (0 ≤ x) = true := by rw [decide_eq_true_iff]; omega
                  have hx2 : decide (x < (k : Int)) = false := by rw [decide_eq_false_iff_not]; omega
                  go_wp2_with fail
                  go_quiet (fail)
                  go_wp2_with fail
                  go_roundw
                  case rel => exact ⟨j + 1, by omega, by go_num, Hbel.out.trans (below_drewN _ _ _)⟩
                  case measure => simp [intOf]; omega
                · obtain ⟨dd, rfl⟩ : ∃ dd : Nat, x = (dd : Int) := ⟨x.toNat, (Int.toNat_of_nonneg (by omega)).symm⟩
                  have hdn : dd < k := by omega
                  have hx1 : decide ((0 : Int) ≤ (dd : Int)) = true := by rw [decide_eq_true_iff]; omega
                  have hx2 : decide ((dd : Int) < (k : Int)) = true := by rw [decide_eq_true_iff]; omega
                  have hx3 : decide (dd < k) = true := by rw [decide_eq_true_iff]; omega
                  have hcont : ds.contains (dd : Int) = true := by
                    have hjl : j < ds.length := by rw [HD5.out.intLen]; exact hjm
                    have h1 := Hx.out
                    simp only [List.getD, hjl, List.getElem?_eq_getElem, Option.getD_some] at h1
                    rw [List.contains_iff_mem, ← h1]
                    exact List.getElem_mem hjl
                  have hkp := Hkeep.out dd hdn hcont
                  have Hld := hide hkp.1
                  have hbi := hkp.2
                  have hl1 := HS5.out.rd.pairLen
                  have hok := Hs1.out.hand dd (by omega)
                  have how := Hs1.out.weight dd (by omega)
                  obtain ⟨⟨x1, y1⟩, hlx⟩ : ∃ p : PN, l1.getD dd (0, 0) = p := ⟨_, rfl⟩
                  rw [hlx] at hok how
                  simp only at hok how
                  have hfx : x1.natAbs < 2 ^ 53 := by omega
                  have hfy : y1.natAbs < 2 ^ 53 := by omega
                  have o1 : FloatKind.f64.format.order (fl x1) (fl x1) = some .eq := by rw [ord_fl x1 x1 hfx hfx, cmp_same]
                  have o2 : FloatKind.f64.format.order (fl y1) (fl y1) = some .eq := by rw [ord_fl y1 y1 hfy hfy, cmp_same]
                  have Hlx := hide hlx
                  have HS := hide (HS5.out.step Hbel.out)
                  have HN := hide (HN.out.step Hbel.out)
                  clear hkp hl1 hok how hlx hfx hfy hcont hx0 hxn
                  cases ok with
                  | true =>
                    have hbf : (bi == (dd : Int)) = false := by rw [beq_eq_false_iff_ne]; exact hbi rfl
                    clear hbi
                    go_wp2_with fail
                    have a1 : wr.drew.cell? ⟨r, 0, none⟩ = some (.slice A2 k c2) := HN.out.c0
                    have a2 : wr.drew.cell? ⟨g, 0, none⟩ = some (.slice E k ec) := HS.out.c0
                    refine region_e 28 (fun w' => w'.cell? ⟨r, 0, none⟩ = some (.slice A2 k c2) ∧ w'.cell? ⟨g, 0, none⟩ = some (.slice E k ec)) (by kernel_rfl) ⟨a1, a2⟩ (fun hHeld => ?_)
                    refine' AnyE.take (i := 0) [8, 2, 1] rfl (by kernel_rfl) (fun _ _ _ h => h) (Or.inl ⟨by rfl, ?_⟩) (by assumption) ?_
                    rotate_left
                    · (intro w hSw; (try dsimp only at hSw); (obtain ⟨hS0, hS1⟩ := hSw); go_simp; try with_reducible rfl)
                    try simp only [Act.put, List.setIfInBounds_toArray, List.set_cons_zero, List.set_cons_succ]
                    refine' AnyE.take (i := 1) [8, 2] rfl (by kernel_rfl) (fun _ _ _ h => h) (Or.inl ⟨by rfl, ?_⟩) (by assumption) ?_
                    rotate_left
                    · (intro w hSw; (try dsimp only at hSw); (obtain ⟨hS0, hS1⟩ := hSw); go_simp; try with_reducible rfl)
                    try simp only [Act.put, List.setIfInBounds_toArray, List.set_cons_zero, List.set_cons_succ]
                    refine' AnyE.take (i := 2) [8] rfl (by kernel_rfl) (fun _ _ _ h => h) (Or.inl ⟨by rfl, ?_⟩) (by assumption) ?_
                    rotate_left
                    · (intro w hSw; (try dsimp only at hSw); (obtain ⟨hS0, hS1⟩ := hSw); go_simp; try with_reducible rfl)
                    try simp only [Act.put, List.setIfInBounds_toArray, List.set_cons_zero, List.set_cons_succ]
                    refine' AnyE.take (i := 3) [8, 7, 6] rfl (by kernel_rfl) (fun _ _ _ h => h) (Or.inl ⟨by rfl, ?_⟩) (by assumption) ?_
                    rotate_left
                    · (intro w hSw; (try dsimp only at hSw); (obtain ⟨hS0, hS1⟩ := hSw); go_simp; try with_reducible rfl)
                    try simp only [Act.put, List.setIfInBounds_toArray, List.set_cons_zero, List.set_cons_succ]
                    refine' AnyE.take (i := 4) [8, 7, 6, 5] rfl (by kernel_rfl) (fun _ _ _ h => h) (Or.inl ⟨by rfl, ?_⟩) (by assumption) ?_
                    rotate_left
                    · (intro w hSw; (try dsimp only at hSw); (obtain ⟨hS0, hS1⟩ := hSw); go_simp; try with_reducible rfl)
                    try simp only [Act.put, List.setIfInBounds_toArray, List.set_cons_zero, List.set_cons_succ]
                    refine' AnyE.take (i := 5) [8, 7, 6] rfl (by kernel_rfl) (fun _ _ _ h => h) (Or.inl ⟨by rfl, ?_⟩) (by assumption) ?_
                    rotate_left
                    · (intro w hSw; (try dsimp only at hSw); (obtain ⟨hS0, hS1⟩ := hSw); go_simp; try with_reducible rfl)
                    try simp only [Act.put, List.setIfInBounds_toArray, List.set_cons_zero, List.set_cons_succ]
                    refine' AnyE.take (i := 6) [8, 7] rfl (by kernel_rfl) (fun _ _ _ h => h) (Or.inl ⟨by rfl, ?_⟩) (by assumption) ?_
                    rotate_left
                    · (intro w hSw; (try dsimp only at hSw); (obtain ⟨hS0, hS1⟩ := hSw); go_simp; try with_reducible rfl)
                    try simp only [Act.put, List.setIfInBounds_toArray, List.set_cons_zero, List.set_cons_succ]
                    refine' AnyE.take (i := 7) [8] rfl (by kernel_rfl) (fun _ _ _ h => h) (Or.inl ⟨by rfl, ?_⟩) (by assumption) ?_
                    rotate_left
                    · (intro w hSw; (try dsimp only at hSw); (obtain ⟨hS0, hS1⟩ := hSw); go_simp; try with_reducible rfl)
                    try simp only [Act.put, List.setIfInBounds_toArray, List.set_cons_zero, List.set_cons_succ]
                    refine' AnyE.take (i := 8) [] rfl (by kernel_rfl) (fun _ _ _ h => h) (Or.inl ⟨by rfl, ?_⟩) (by assumption) ?_
                    rotate_left
                    · (intro w hSw; (try dsimp only at hSw); (obtain ⟨hS0, hS1⟩ := hSw); go_simp; try with_reducible rfl)
                    try simp only [Act.put, List.setIfInBounds_toArray, List.set_cons_zero, List.set_cons_succ]
                    refine' AnyE.take (i := 9) [27, 15, 10] rfl (by kernel_rfl) (fun _ _ _ h => h) (Or.inl ⟨by rfl, ?_⟩) (by assumption) ?_
                    rotate_left
                    · (intro w hSw; (try dsimp only at hSw); (obtain ⟨hS0, hS1⟩ := hSw); go_simp; try with_reducible rfl)
                    try simp only [Act.put, List.setIfInBounds_toArray, List.set_cons_zero, List.set_cons_succ]
                    refine' AnyE.take (i := 10) [27, 15] rfl (by kernel_rfl) (fun _ _ _ h => h) (Or.inl ⟨by rfl, ?_⟩) (by assumption) ?_
                    rotate_left
                    · (intro w hSw; (try dsimp only at hSw); (obtain ⟨hS0, hS1⟩ := hSw); go_simp; try with_reducible rfl)
                    try simp only [Act.put, List.setIfInBounds_toArray, List.set_cons_zero, List.set_cons_succ]
                    refine' AnyE.take (i := 11) [27, 15, 14, 13] rfl (by kernel_rfl) (fun _ _ _ h => h) (Or.inl ⟨by rfl, ?_⟩) (by assumption) ?_
                    rotate_left
                    · (intro w hSw; (try dsimp only at hSw); (obtain ⟨hS0, hS1⟩ := hSw); go_simp; try with_reducible rfl)
                    try simp only [Act.put, List.setIfInBounds_toArray, List.set_cons_zero, List.set_cons_succ]
                    refine' AnyE.take (i := 12) [27, 15, 14, 13] rfl (by kernel_rfl) (fun _ _ _ h => h) (Or.inl ⟨by rfl, ?_⟩) (by assumption) ?_
                    rotate_left
                    · (intro w hSw; (try dsimp only at hSw); (obtain ⟨hS0, hS1⟩ := hSw); go_simp; try with_reducible rfl)
                    try simp only [Act.put, List.setIfInBounds_toArray, List.set_cons_zero, List.set_cons_succ]
                    refine' AnyE.take (i := 13) [27, 15, 14] rfl (by kernel_rfl) (fun _ _ _ h => h) (Or.inl ⟨by rfl, ?_⟩) (by assumption) ?_
                    rotate_left
                    · (intro w hSw; (try dsimp only at hSw); (obtain ⟨hS0, hS1⟩ := hSw); go_simp; try with_reducible rfl)
                    try simp only [Act.put, List.setIfInBounds_toArray, List.set_cons_zero, List.set_cons_succ]
                    refine' AnyE.take (i := 14) [27, 15] rfl (by kernel_rfl) (fun _ _ _ h => h) (Or.inl ⟨by rfl, ?_⟩) (by assumption) ?_
                    rotate_left
                    · (intro w hSw; (try dsimp only at hSw); (obtain ⟨hS0, hS1⟩ := hSw); go_simp; try with_reducible rfl)
                    try simp only [Act.put, List.setIfInBounds_toArray, List.set_cons_zero, List.set_cons_succ]
                    refine' AnyE.take (i := 15) [27] rfl (by kernel_rfl) (fun _ _ _ h => h) (Or.inl ⟨by rfl, ?_⟩) (by assumption) ?_
                    rotate_left
                    · (intro w hSw; (try dsimp only at hSw); (obtain ⟨hS0, hS1⟩ := hSw); go_simp; try with_reducible rfl)
                    try simp only [Act.put, List.setIfInBounds_toArray, List.set_cons_zero, List.set_cons_succ]
                    refine' AnyE.take (i := 16) [27, 26, 20, 19, 17] rfl (by kernel_rfl) (fun _ _ _ h => h) (Or.inl ⟨by rfl, ?_⟩) (by assumption) ?_
                    rotate_left
                    · (intro w hSw; (try dsimp only at hSw); (obtain ⟨hS0, hS1⟩ := hSw); go_simp; try with_reducible rfl)
                    try simp only [Act.put, List.setIfInBounds_toArray, List.set_cons_zero, List.set_cons_succ]
                    refine' AnyE.take (i := 18) [27, 26, 20, 19] rfl (by kernel_rfl) (fun _ _ _ h => h) (Or.inl ⟨by rfl, ?_⟩) (by assumption) ?_
                    rotate_left
                    · (intro w hSw; (try dsimp only at hSw); (obtain ⟨hS0, hS1⟩ := hSw); go_simp; try with_reducible rfl)
                    try simp only [Act.put, List.setIfInBounds_toArray, List.set_cons_zero, List.set_cons_succ]
                    refine' AnyE.take (i := 21) [27, 26, 25, 24, 22] rfl (by kernel_rfl) (fun _ _ _ h => h) (Or.inl ⟨by rfl, ?_⟩) (by assumption) ?_
                    rotate_left
                    · (intro w hSw; (try dsimp only at hSw); (obtain ⟨hS0, hS1⟩ := hSw); go_simp; try with_reducible rfl)
                    try simp only [Act.put, List.setIfInBounds_toArray, List.set_cons_zero, List.set_cons_succ]
                    refine' AnyE.take (i := 23) [27, 26, 25, 24] rfl (by kernel_rfl) (fun _ _ _ h => h) (Or.inl ⟨by rfl, ?_⟩) (by assumption) ?_
                    rotate_left
                    · (intro w hSw; (try dsimp only at hSw); (obtain ⟨hS0, hS1⟩ := hSw); go_simp; try with_reducible rfl)
                    try simp only [Act.put, List.setIfInBounds_toArray, List.set_cons_zero, List.set_cons_succ]
                    refine AnyE.ready (rs := [17]) (by kernel_rfl) (ReadyE.cons rfl (fun K hK => ?_) ReadyE.nil)
                    go_simp
                    refine (pairs_any A2 k c2 l2 _ (HN.out.drew).rd (by omega)).mono ?_
                    rintro e w5 ⟨P5, c5, rfl, hr5, _, hb5⟩
                    obtain ⟨p5, rfl⟩ := hr5.isSome hn0
                    have x5 := hr5.pair dd hdn
                    rw [Hld.out, Hlx.out] at x5
                    have HB5 := hide ((below_drew wr.heap.size wr).trans hb5)
                    have HS5 := hide (HS.out.drew.step hb5)
                    replace a1 := cell_later hb5 a1
                    replace a2 := cell_later hb5 a2
                    clear hr5 hb5
                    go_wp2_with fail
                    refine hK.out _ _ ⟨a1, a2⟩ (fun hHeld => ?_)
                    clear hK K
                    try simp only [Act.put, List.setIfInBounds_toArray, List.set_cons_zero, List.set_cons_succ]
                    refine' AnyE.take (i := 19) [27, 26, 20] rfl (by kernel_rfl) (fun _ _ _ h => h) (Or.inl ⟨by rfl, ?_⟩) (by assumption) ?_
                    rotate_left
                    · (intro w hSw; (try dsimp only at hSw); (obtain ⟨hS0, hS1⟩ := hSw); go_simp; try with_reducible rfl)
                    try simp only [Act.put, List.setIfInBounds_toArray, List.set_cons_zero, List.set_cons_succ]
                    refine AnyE.ready (rs := [20, 22]) (by kernel_rfl) (ReadyE.cons rfl (fun K hK => ?_) (ReadyE.cons rfl (fun K hK => ?_) ReadyE.nil))
                    · go_simp
                      skip
                      refine hK.out _ _ ⟨a1, a2⟩ (fun hHeld => ?_)
                      clear hK K
                      try simp only [Act.put, List.setIfInBounds_toArray, List.set_cons_zero, List.set_cons_succ]
                      refine AnyE.ready (rs := [22]) (by kernel_rfl) (ReadyE.cons rfl (fun K hK => ?_) ReadyE.nil)
                      go_simp
                      refine (pairs_any E k ec l1 _ HS5.out.rd (by omega)).mono ?_
                      rintro e w6 ⟨P6, c6, rfl, hr6, _, hb6⟩
                      obtain ⟨p6, rfl⟩ := hr6.isSome hn0
                      have x6 := hr6.pair dd hdn
                      rw [Hlx.out] at x6
                      replace x5 := cell_later hb6 x5
                      have HB6 := hide (HB5.out.trans (hb6.mono HB5.out.size))
                      replace a1 := cell_later hb6 a1
                      replace a2 := cell_later hb6 a2
                      clear hr6 hb6
                      go_wp2_with fail
                      refine hK.out _ _ ⟨a1, a2⟩ (fun hHeld => ?_)
                      clear hK K
                      try simp only [Act.put, List.setIfInBounds_toArray, List.set_cons_zero, List.set_cons_succ]
                      refine' AnyE.take (i := 24) [27, 26, 25] rfl (by kernel_rfl) (fun _ _ _ h => h) (Or.inl ⟨by rfl, ?_⟩) (by assumption) ?_
                      rotate_left
                      · (intro w hSw; (try dsimp only at hSw); (obtain ⟨hS0, hS1⟩ := hSw); go_simp; try with_reducible rfl)
                      try simp only [Act.put, List.setIfInBounds_toArray, List.set_cons_zero, List.set_cons_succ]
                      refine AnyE.ready (rs := [25]) (by kernel_rfl) (ReadyE.cons rfl (fun K hK => ?_) ReadyE.nil)
                      go_simp
                      skip
                      refine hK.out _ _ ⟨a1, a2⟩ (fun hHeld => ?_)
                      clear hK K
                      try simp only [Act.put, List.setIfInBounds_toArray, List.set_cons_zero, List.set_cons_succ]
                      refine' AnyE.take (i := 26) [27] rfl (by kernel_rfl) (fun _ _ _ h => h) (Or.inl ⟨by rfl, ?_⟩) (by assumption) ?_
                      rotate_left
                      · (intro w hSw; (try dsimp only at hSw); (obtain ⟨hS0, hS1⟩ := hSw); go_simp; try with_reducible rfl)
                      try simp only [Act.put, List.setIfInBounds_toArray, List.set_cons_zero, List.set_cons_succ]
                      refine' AnyE.take (i := 27) [] rfl (by kernel_rfl) (fun _ _ _ h => h) (Or.inl ⟨by rfl, ?_⟩) (by assumption) ?_
                      rotate_left
                      · (intro w hSw; (try dsimp only at hSw); (obtain ⟨hS0, hS1⟩ := hSw); go_simp; try with_reducible rfl)
                      try simp only [Act.put, List.setIfInBounds_toArray, List.set_cons_zero, List.set_cons_succ]
                      refine AnyE.one (i := 28) rfl (by kernel_rfl) (fun K hK => ?_)
                      go_simp
                      refine hK.out _ _ ?_
                      clear hK K
                      try simp only [Act.put, List.setIfInBounds_toArray, List.set_cons_zero, List.set_cons_succ]
                      refine AnyE.done (by kernel_rfl) ?_
                      go_wp2_with fail
                      go_roundw
                      case rel => exact ⟨j + 1, by omega, by go_num, Hbel.out.trans (HB6.out.mono Hbel.out.size)⟩
                      case measure => simp [intOf]; omega
                    · go_simp
                      refine (pairs_any E k ec l1 _ HS5.out.rd (by omega)).mono ?_
                      rintro e w6 ⟨P6, c6, rfl, hr6, _, hb6⟩
                      obtain ⟨p6, rfl⟩ := hr6.isSome hn0
                      have x6 := hr6.pair dd hdn
                      rw [Hlx.out] at x6
                      replace x5 := cell_later hb6 x5
                      have HB6 := hide (HB5.out.trans (hb6.mono HB5.out.size))
                      replace a1 := cell_later hb6 a1
                      replace a2 := cell_later hb6 a2
                      clear hr6 hb6
                      go_wp2_with fail
                      refine hK.out _ _ ⟨a1, a2⟩ (fun hHeld => ?_)
                      clear hK K
                      try simp only [Act.put, List.setIfInBounds_toArray, List.set_cons_zero, List.set_cons_succ]
                      refine' AnyE.take (i := 24) [27, 26, 25] rfl (by kernel_rfl) (fun _ _ _ h => h) (Or.inl ⟨by rfl, ?_⟩) (by assumption) ?_
                      rotate_left
                      · (intro w hSw; (try dsimp only at hSw); (obtain ⟨hS0, hS1⟩ := hSw); go_simp; try with_reducible rfl)
                      try simp only [Act.put, List.setIfInBounds_toArray, List.set_cons_zero, List.set_cons_succ]
                      refine AnyE.ready (rs := [20, 25]) (by kernel_rfl) (ReadyE.cons rfl (fun K hK => ?_) (ReadyE.cons rfl (fun K hK => ?_) ReadyE.nil))
                      · go_simp
                        skip
                        refine hK.out _ _ ⟨a1, a2⟩ (fun hHeld => ?_)
                        clear hK K
                        try simp only [Act.put, List.setIfInBounds_toArray, List.set_cons_zero, List.set_cons_succ]
                        refine AnyE.ready (rs := [25]) (by kernel_rfl) (ReadyE.cons rfl (fun K hK => ?_) ReadyE.nil)
                        go_simp
                        skip
                        refine hK.out _ _ ⟨a1, a2⟩ (fun hHeld => ?_)
                        clear hK K
                        try simp only [Act.put, List.setIfInBounds_toArray, List.set_cons_zero, List.set_cons_succ]
                        refine' AnyE.take (i := 26) [27] rfl (by kernel_rfl) (fun _ _ _ h => h) (Or.inl ⟨by rfl, ?_⟩) (by assumption) ?_
                        rotate_left
                        · (intro w hSw; (try dsimp only at hSw); (obtain ⟨hS0, hS1⟩ := hSw); go_simp; try with_reducible rfl)
                        try simp only [Act.put, List.setIfInBounds_toArray, List.set_cons_zero, List.set_cons_succ]
                        refine' AnyE.take (i := 27) [] rfl (by kernel_rfl) (fun _ _ _ h => h) (Or.inl ⟨by rfl, ?_⟩) (by assumption) ?_
                        rotate_left
                        · (intro w hSw; (try dsimp only at hSw); (obtain ⟨hS0, hS1⟩ := hSw); go_simp; try with_reducible rfl)
                        try simp only [Act.put, List.setIfInBounds_toArray, List.set_cons_zero, List.set_cons_succ]
                        refine AnyE.one (i := 28) rfl (by kernel_rfl) (fun K hK => ?_)
                        go_simp
                        refine hK.out _ _ ?_
                        clear hK K
                        try simp only [Act.put, List.setIfInBounds_toArray, List.set_cons_zero, List.set_cons_succ]
                        refine AnyE.done (by kernel_rfl) ?_
                        go_wp2_with fail
                        go_roundw
                        case rel => exact ⟨j + 1, by omega, by go_num, Hbel.out.trans (HB6.out.mono Hbel.out.size)⟩
                        case measure => simp [intOf]; omega
                      · go_simp
                        skip
                        refine hK.out _ _ ⟨a1, a2⟩ (fun hHeld => ?_)
                        clear hK K
                        try simp only [Act.put, List.setIfInBounds_toArray, List.set_cons_zero, List.set_cons_succ]
                        refine AnyE.ready (rs := [20]) (by kernel_rfl) (ReadyE.cons rfl (fun K hK => ?_) ReadyE.nil)
                        go_simp
                        skip
                        refine hK.out _ _ ⟨a1, a2⟩ (fun hHeld => ?_)
                        clear hK K
                        try simp only [Act.put, List.setIfInBounds_toArray, List.set_cons_zero, List.set_cons_succ]
                        refine' AnyE.take (i := 26) [27] rfl (by kernel_rfl) (fun _ _ _ h => h) (Or.inl ⟨by rfl, ?_⟩) (by assumption) ?_
                        rotate_left
                        · (intro w hSw; (try dsimp only at hSw); (obtain ⟨hS0, hS1⟩ := hSw); go_simp; try with_reducible rfl)
                        try simp only [Act.put, List.setIfInBounds_toArray, List.set_cons_zero, List.set_cons_succ]
                        refine' AnyE.take (i := 27) [] rfl (by kernel_rfl) (fun _ _ _ h => h) (Or.inl ⟨by rfl, ?_⟩) (by assumption) ?_
                        rotate_left
                        · (intro w hSw; (try dsimp only at hSw); (obtain ⟨hS0, hS1⟩ := hSw); go_simp; try with_reducible rfl)
                        try simp only [Act.put, List.setIfInBounds_toArray, List.set_cons_zero, List.set_cons_succ]
                        refine AnyE.one (i := 28) rfl (by kernel_rfl) (fun K hK => ?_)
                        go_simp
                        refine hK.out _ _ ?_
                        clear hK K
                        try simp only [Act.put, List.setIfInBounds_toArray, List.set_cons_zero, List.set_cons_succ]
                        refine AnyE.done (by kernel_rfl) ?_
                        go_wp2_with fail
                        go_roundw
                        case rel => exact ⟨j + 1, by omega, by go_num, Hbel.out.trans (HB6.out.mono Hbel.out.size)⟩
                        case measure => simp [intOf]; omega
                  | false =>
                    clear hbi
                    go_wp2_with fail
                    have a1 : wr.drew.cell? ⟨r, 0, none⟩ = some (.slice A2 k c2) := HN.out.c0
                    have a2 : wr.drew.cell? ⟨g, 0, none⟩ = some (.slice E k ec) := HS.out.c0
                    refine region_e 28 (fun w' => w'.cell? ⟨r, 0, none⟩ = some (.slice A2 k c2) ∧ w'.cell? ⟨g, 0, none⟩ = some (.slice E k ec)) (by kernel_rfl) ⟨a1, a2⟩ (fun hHeld => ?_)
                    refine' AnyE.take (i := 0) [8, 2, 1] rfl (by kernel_rfl) (fun _ _ _ h => h) (Or.inl ⟨by rfl, ?_⟩) (by assumption) ?_
                    rotate_left
                    · (intro w hSw; (try dsimp only at hSw); (obtain ⟨hS0, hS1⟩ := hSw); go_simp; try with_reducible rfl)
                    try simp only [Act.put, List.setIfInBounds_toArray, List.set_cons_zero, List.set_cons_succ]
                    refine' AnyE.take (i := 1) [8, 2] rfl (by kernel_rfl) (fun _ _ _ h => h) (Or.inl ⟨by rfl, ?_⟩) (by assumption) ?_
                    rotate_left
                    · (intro w hSw; (try dsimp only at hSw); (obtain ⟨hS0, hS1⟩ := hSw); go_simp; try with_reducible rfl)
                    try simp only [Act.put, List.setIfInBounds_toArray, List.set_cons_zero, List.set_cons_succ]
                    refine' AnyE.take (i := 2) [8] rfl (by kernel_rfl) (fun _ _ _ h => h) (Or.inl ⟨by rfl, ?_⟩) (by assumption) ?_
                    rotate_left
                    · (intro w hSw; (try dsimp only at hSw); (obtain ⟨hS0, hS1⟩ := hSw); go_simp; try with_reducible rfl)
                    try simp only [Act.put, List.setIfInBounds_toArray, List.set_cons_zero, List.set_cons_succ]
                    refine' AnyE.take (i := 3) [8, 7, 6] rfl (by kernel_rfl) (fun _ _ _ h => h) (Or.inl ⟨by rfl, ?_⟩) (by assumption) ?_
                    rotate_left
                    · (intro w hSw; (try dsimp only at hSw); (obtain ⟨hS0, hS1⟩ := hSw); go_simp; try with_reducible rfl)
                    try simp only [Act.put, List.setIfInBounds_toArray, List.set_cons_zero, List.set_cons_succ]
                    refine' AnyE.take (i := 4) [8, 7, 6, 5] rfl (by kernel_rfl) (fun _ _ _ h => h) (Or.inl ⟨by rfl, ?_⟩) (by assumption) ?_
                    rotate_left
                    · (intro w hSw; (try dsimp only at hSw); (obtain ⟨hS0, hS1⟩ := hSw); go_simp; try with_reducible rfl)
                    try simp only [Act.put, List.setIfInBounds_toArray, List.set_cons_zero, List.set_cons_succ]
                    refine' AnyE.take (i := 5) [8, 7, 6] rfl (by kernel_rfl) (fun _ _ _ h => h) (Or.inl ⟨by rfl, ?_⟩) (by assumption) ?_
                    rotate_left
                    · (intro w hSw; (try dsimp only at hSw); (obtain ⟨hS0, hS1⟩ := hSw); go_simp; try with_reducible rfl)
                    try simp only [Act.put, List.setIfInBounds_toArray, List.set_cons_zero, List.set_cons_succ]
                    refine' AnyE.take (i := 6) [8, 7] rfl (by kernel_rfl) (fun _ _ _ h => h) (Or.inl ⟨by rfl, ?_⟩) (by assumption) ?_
                    rotate_left
                    · (intro w hSw; (try dsimp only at hSw); (obtain ⟨hS0, hS1⟩ := hSw); go_simp; try with_reducible rfl)
                    try simp only [Act.put, List.setIfInBounds_toArray, List.set_cons_zero, List.set_cons_succ]
                    refine' AnyE.take (i := 7) [8] rfl (by kernel_rfl) (fun _ _ _ h => h) (Or.inl ⟨by rfl, ?_⟩) (by assumption) ?_
                    rotate_left
                    · (intro w hSw; (try dsimp only at hSw); (obtain ⟨hS0, hS1⟩ := hSw); go_simp; try with_reducible rfl)
                    try simp only [Act.put, List.setIfInBounds_toArray, List.set_cons_zero, List.set_cons_succ]
                    refine' AnyE.take (i := 8) [] rfl (by kernel_rfl) (fun _ _ _ h => h) (Or.inl ⟨by rfl, ?_⟩) (by assumption) ?_
                    rotate_left
                    · (intro w hSw; (try dsimp only at hSw); (obtain ⟨hS0, hS1⟩ := hSw); go_simp; try with_reducible rfl)
                    try simp only [Act.put, List.setIfInBounds_toArray, List.set_cons_zero, List.set_cons_succ]
                    refine' AnyE.take (i := 9) [27, 15, 10] rfl (by kernel_rfl) (fun _ _ _ h => h) (Or.inl ⟨by rfl, ?_⟩) (by assumption) ?_
                    rotate_left
                    · (intro w hSw; (try dsimp only at hSw); (obtain ⟨hS0, hS1⟩ := hSw); go_simp; try with_reducible rfl)
                    try simp only [Act.put, List.setIfInBounds_toArray, List.set_cons_zero, List.set_cons_succ]
                    refine' AnyE.take (i := 10) [27, 15] rfl (by kernel_rfl) (fun _ _ _ h => h) (Or.inl ⟨by rfl, ?_⟩) (by assumption) ?_
                    rotate_left
                    · (intro w hSw; (try dsimp only at hSw); (obtain ⟨hS0, hS1⟩ := hSw); go_simp; try with_reducible rfl)
                    try simp only [Act.put, List.setIfInBounds_toArray, List.set_cons_zero, List.set_cons_succ]
                    refine' AnyE.take (i := 11) [27, 15, 14, 13] rfl (by kernel_rfl) (fun _ _ _ h => h) (Or.inr ⟨by rfl, rfl⟩) (by assumption) ?_
                    try simp only [Act.put, List.setIfInBounds_toArray, List.set_cons_zero, List.set_cons_succ]
                    refine' AnyE.take (i := 12) [27, 15, 14, 13] rfl (by kernel_rfl) (fun _ _ _ h => h) (Or.inr ⟨by rfl, rfl⟩) (by assumption) ?_
                    try simp only [Act.put, List.setIfInBounds_toArray, List.set_cons_zero, List.set_cons_succ]
                    refine' AnyE.take (i := 13) [27, 15, 14] rfl (by kernel_rfl) (fun _ _ _ h => h) (Or.inr ⟨by rfl, rfl⟩) (by assumption) ?_
                    try simp only [Act.put, List.setIfInBounds_toArray, List.set_cons_zero, List.set_cons_succ]
                    refine' AnyE.take (i := 14) [27, 15] rfl (by kernel_rfl) (fun _ _ _ h => h) (Or.inl ⟨by rfl, ?_⟩) (by assumption) ?_
                    rotate_left
                    · (intro w hSw; (try dsimp only at hSw); (obtain ⟨hS0, hS1⟩ := hSw); go_simp; try with_reducible rfl)
                    try simp only [Act.put, List.setIfInBounds_toArray, List.set_cons_zero, List.set_cons_succ]
                    refine' AnyE.take (i := 15) [27] rfl (by kernel_rfl) (fun _ _ _ h => h) (Or.inl ⟨by rfl, ?_⟩) (by assumption) ?_
                    rotate_left
                    · (intro w hSw; (try dsimp only at hSw); (obtain ⟨hS0, hS1⟩ := hSw); go_simp; try with_reducible rfl)
                    try simp only [Act.put, List.setIfInBounds_toArray, List.set_cons_zero, List.set_cons_succ]
                    refine' AnyE.take (i := 16) [27, 26, 20, 19, 17] rfl (by kernel_rfl) (fun _ _ _ h => h) (Or.inl ⟨by rfl, ?_⟩) (by assumption) ?_
                    rotate_left
                    · (intro w hSw; (try dsimp only at hSw); (obtain ⟨hS0, hS1⟩ := hSw); go_simp; try with_reducible rfl)
                    try simp only [Act.put, List.setIfInBounds_toArray, List.set_cons_zero, List.set_cons_succ]
                    refine' AnyE.take (i := 18) [27, 26, 20, 19] rfl (by kernel_rfl) (fun _ _ _ h => h) (Or.inl ⟨by rfl, ?_⟩) (by assumption) ?_
                    rotate_left
                    · (intro w hSw; (try dsimp only at hSw); (obtain ⟨hS0, hS1⟩ := hSw); go_simp; try with_reducible rfl)
                    try simp only [Act.put, List.setIfInBounds_toArray, List.set_cons_zero, List.set_cons_succ]
                    refine' AnyE.take (i := 21) [27, 26, 25, 24, 22] rfl (by kernel_rfl) (fun _ _ _ h => h) (Or.inl ⟨by rfl, ?_⟩) (by assumption) ?_
                    rotate_left
                    · (intro w hSw; (try dsimp only at hSw); (obtain ⟨hS0, hS1⟩ := hSw); go_simp; try with_reducible rfl)
                    try simp only [Act.put, List.setIfInBounds_toArray, List.set_cons_zero, List.set_cons_succ]
                    refine' AnyE.take (i := 23) [27, 26, 25, 24] rfl (by kernel_rfl) (fun _ _ _ h => h) (Or.inl ⟨by rfl, ?_⟩) (by assumption) ?_
                    rotate_left
                    · (intro w hSw; (try dsimp only at hSw); (obtain ⟨hS0, hS1⟩ := hSw); go_simp; try with_reducible rfl)
                    try simp only [Act.put, List.setIfInBounds_toArray, List.set_cons_zero, List.set_cons_succ]
                    refine AnyE.ready (rs := [17]) (by kernel_rfl) (ReadyE.cons rfl (fun K hK => ?_) ReadyE.nil)
                    go_simp
                    refine (pairs_any A2 k c2 l2 _ (HN.out.drew).rd (by omega)).mono ?_
                    rintro e w5 ⟨P5, c5, rfl, hr5, _, hb5⟩
                    obtain ⟨p5, rfl⟩ := hr5.isSome hn0
                    have x5 := hr5.pair dd hdn
                    rw [Hld.out, Hlx.out] at x5
                    have HB5 := hide ((below_drew wr.heap.size wr).trans hb5)
                    have HS5 := hide (HS.out.drew.step hb5)
                    replace a1 := cell_later hb5 a1
                    replace a2 := cell_later hb5 a2
                    clear hr5 hb5
                    go_wp2_with fail
                    refine hK.out _ _ ⟨a1, a2⟩ (fun hHeld => ?_)
                    clear hK K
                    try simp only [Act.put, List.setIfInBounds_toArray, List.set_cons_zero, List.set_cons_succ]
                    refine' AnyE.take (i := 19) [27, 26, 20] rfl (by kernel_rfl) (fun _ _ _ h => h) (Or.inl ⟨by rfl, ?_⟩) (by assumption) ?_
                    rotate_left
                    · (intro w hSw; (try dsimp only at hSw); (obtain ⟨hS0, hS1⟩ := hSw); go_simp; try with_reducible rfl)
                    try simp only [Act.put, List.setIfInBounds_toArray, List.set_cons_zero, List.set_cons_succ]
                    refine AnyE.ready (rs := [20, 22]) (by kernel_rfl) (ReadyE.cons rfl (fun K hK => ?_) (ReadyE.cons rfl (fun K hK => ?_) ReadyE.nil))
                    · go_simp
                      skip
                      refine hK.out _ _ ⟨a1, a2⟩ (fun hHeld => ?_)
                      clear hK K
                      try simp only [Act.put, List.setIfInBounds_toArray, List.set_cons_zero, List.set_cons_succ]
                      refine AnyE.ready (rs := [22]) (by kernel_rfl) (ReadyE.cons rfl (fun K hK => ?_) ReadyE.nil)
                      go_simp
                      refine (pairs_any E k ec l1 _ HS5.out.rd (by omega)).mono ?_
                      rintro e w6 ⟨P6, c6, rfl, hr6, _, hb6⟩
                      obtain ⟨p6, rfl⟩ := hr6.isSome hn0
                      have x6 := hr6.pair dd hdn
                      rw [Hlx.out] at x6
                      replace x5 := cell_later hb6 x5
                      have HB6 := hide (HB5.out.trans (hb6.mono HB5.out.size))
                      replace a1 := cell_later hb6 a1
                      replace a2 := cell_later hb6 a2
                      clear hr6 hb6
                      go_wp2_with fail
                      refine hK.out _ _ ⟨a1, a2⟩ (fun hHeld => ?_)
                      clear hK K
                      try simp only [Act.put, List.setIfInBounds_toArray, List.set_cons_zero, List.set_cons_succ]
                      refine' AnyE.take (i := 24) [27, 26, 25] rfl (by kernel_rfl) (fun _ _ _ h => h) (Or.inl ⟨by rfl, ?_⟩) (by assumption) ?_
                      rotate_left
                      · (intro w hSw; (try dsimp only at hSw); (obtain ⟨hS0, hS1⟩ := hSw); go_simp; try with_reducible rfl)
                      try simp only [Act.put, List.setIfInBounds_toArray, List.set_cons_zero, List.set_cons_succ]
                      refine AnyE.ready (rs := [25]) (by kernel_rfl) (ReadyE.cons rfl (fun K hK => ?_) ReadyE.nil)
                      go_simp
                      skip
                      refine hK.out _ _ ⟨a1, a2⟩ (fun hHeld => ?_)
                      clear hK K
                      try simp only [Act.put, List.setIfInBounds_toArray, List.set_cons_zero, List.set_cons_succ]
                      refine' AnyE.take (i := 26) [27] rfl (by kernel_rfl) (fun _ _ _ h => h) (Or.inl ⟨by rfl, ?_⟩) (by assumption) ?_
                      rotate_left
                      · (intro w hSw; (try dsimp only at hSw); (obtain ⟨hS0, hS1⟩ := hSw); go_simp; try with_reducible rfl)
                      try simp only [Act.put, List.setIfInBounds_toArray, List.set_cons_zero, List.set_cons_succ]
                      refine' AnyE.take (i := 27) [] rfl (by kernel_rfl) (fun _ _ _ h => h) (Or.inl ⟨by rfl, ?_⟩) (by assumption) ?_
                      rotate_left
                      · (intro w hSw; (try dsimp only at hSw); (obtain ⟨hS0, hS1⟩ := hSw); go_simp; try with_reducible rfl)
                      try simp only [Act.put, List.setIfInBounds_toArray, List.set_cons_zero, List.set_cons_succ]
                      refine AnyE.one (i := 28) rfl (by kernel_rfl) (fun K hK => ?_)
                      go_simp
                      refine hK.out _ _ ?_
                      clear hK K
                      try simp only [Act.put, List.setIfInBounds_toArray, List.set_cons_zero, List.set_cons_succ]
                      refine AnyE.done (by kernel_rfl) ?_
                      go_wp2_with fail
                      go_roundw
                      case rel => exact ⟨j + 1, by omega, by go_num, Hbel.out.trans (HB6.out.mono Hbel.out.size)⟩
                      case measure => simp [intOf]; omega
                    · go_simp
                      refine (pairs_any E k ec l1 _ HS5.out.rd (by omega)).mono ?_
                      rintro e w6 ⟨P6, c6, rfl, hr6, _, hb6⟩
                      obtain ⟨p6, rfl⟩ := hr6.isSome hn0
                      have x6 := hr6.pair dd hdn
                      rw [Hlx.out] at x6
                      replace x5 := cell_later hb6 x5
                      have HB6 := hide (HB5.out.trans (hb6.mono HB5.out.size))
                      replace a1 := cell_later hb6 a1
                      replace a2 := cell_later hb6 a2
                      clear hr6 hb6
                      go_wp2_with fail
                      refine hK.out _ _ ⟨a1, a2⟩ (fun hHeld => ?_)
                      clear hK K
                      try simp only [Act.put, List.setIfInBounds_toArray, List.set_cons_zero, List.set_cons_succ]
                      refine' AnyE.take (i := 24) [27, 26, 25] rfl (by kernel_rfl) (fun _ _ _ h => h) (Or.inl ⟨by rfl, ?_⟩) (by assumption) ?_
                      rotate_left
                      · (intro w hSw; (try dsimp only at hSw); (obtain ⟨hS0, hS1⟩ := hSw); go_simp; try with_reducible rfl)
                      try simp only [Act.put, List.setIfInBounds_toArray, List.set_cons_zero, List.set_cons_succ]
                      refine AnyE.ready (rs := [20, 25]) (by kernel_rfl) (ReadyE.cons rfl (fun K hK => ?_) (ReadyE.cons rfl (fun K hK => ?_) ReadyE.nil))
                      · go_simp
                        skip
                        refine hK.out _ _ ⟨a1, a2⟩ (fun hHeld => ?_)
                        clear hK K
                        try simp only [Act.put, List.setIfInBounds_toArray, List.set_cons_zero, List.set_cons_succ]
                        refine AnyE.ready (rs := [25]) (by kernel_rfl) (ReadyE.cons rfl (fun K hK => ?_) ReadyE.nil)
                        go_simp
                        skip
                        refine hK.out _ _ ⟨a1, a2⟩ (fun hHeld => ?_)
                        clear hK K
                        try simp only [Act.put, List.setIfInBounds_toArray, List.set_cons_zero, List.set_cons_succ]
                        refine' AnyE.take (i := 26) [27] rfl (by kernel_rfl) (fun _ _ _ h => h) (Or.inl ⟨by rfl, ?_⟩) (by assumption) ?_
                        rotate_left
                        · (intro w hSw; (try dsimp only at hSw); (obtain ⟨hS0, hS1⟩ := hSw); go_simp; try with_reducible rfl)
                        try simp only [Act.put, List.setIfInBounds_toArray, List.set_cons_zero, List.set_cons_succ]
                        refine' AnyE.take (i := 27) [] rfl (by kernel_rfl) (fun _ _ _ h => h) (Or.inl ⟨by rfl, ?_⟩) (by assumption) ?_
                        rotate_left
                        · (intro w hSw; (try dsimp only at hSw); (obtain ⟨hS0, hS1⟩ := hSw); go_simp; try with_reducible rfl)
                        try simp only [Act.put, List.setIfInBounds_toArray, List.set_cons_zero, List.set_cons_succ]
                        refine AnyE.one (i := 28) rfl (by kernel_rfl) (fun K hK => ?_)
                        go_simp
                        refine hK.out _ _ ?_
                        clear hK K
                        try simp only [Act.put, List.setIfInBounds_toArray, List.set_cons_zero, List.set_cons_succ]
                        refine AnyE.done (by kernel_rfl) ?_
                        go_wp2_with fail
                        go_roundw
                        case rel => exact ⟨j + 1, by omega, by go_num, Hbel.out.trans (HB6.out.mono Hbel.out.size)⟩
                        case measure => simp [intOf]; omega
                      · go_simp
                        skip
                        refine hK.out _ _ ⟨a1, a2⟩ (fun hHeld => ?_)
                        clear hK K
                        try simp only [Act.put, List.setIfInBounds_toArray, List.set_cons_zero, List.set_cons_succ]
                        refine AnyE.ready (rs := [20]) (by kernel_rfl) (ReadyE.cons rfl (fun K hK => ?_) ReadyE.nil)
                        go_simp
                        skip
                        refine hK.out _ _ ⟨a1, a2⟩ (fun hHeld => ?_)
                        clear hK K
                        try simp only [Act.put, List.setIfInBounds_toArray, List.set_cons_zero, List.set_cons_succ]
                        refine' AnyE.take (i := 26) [27] rfl (by kernel_rfl) (fun _ _ _ h => h) (Or.inl ⟨by rfl, ?_⟩) (by assumption) ?_
                        rotate_left
                        · (intro w hSw; (try dsimp only at hSw); (obtain ⟨hS0, hS1⟩ := hSw); go_simp; try with_reducible rfl)
                        try simp only [Act.put, List.setIfInBounds_toArray, List.set_cons_zero, List.set_cons_succ]
                        refine' AnyE.take (i := 27) [] rfl (by kernel_rfl) (fun _ _ _ h => h) (Or.inl ⟨by rfl, ?_⟩) (by assumption) ?_
                        rotate_left
                        · (intro w hSw; (try dsimp only at hSw); (obtain ⟨hS0, hS1⟩ := hSw); go_simp; try with_reducible rfl)
                        try simp only [Act.put, List.setIfInBounds_toArray, List.set_cons_zero, List.set_cons_succ]
                        refine AnyE.one (i := 28) rfl (by kernel_rfl) (fun K hK => ?_)
                        go_simp
                        refine hK.out _ _ ?_
                        clear hK K
                        try simp only [Act.put, List.setIfInBounds_toArray, List.set_cons_zero, List.set_cons_succ]
                        refine AnyE.done (by kernel_rfl) ?_
                        go_wp2_with fail
                        go_roundw
                        case rel => exact ⟨j + 1, by omega, by go_num, Hbel.out.trans (HB6.out.mono Hbel.out.size)⟩
                        case measure => simp [intOf]; omega
            · obtain rfl : j = m := by omega
              clear hjm hj
              have HN := hide (HN.out.step hbel)
              have HS := hide (HS5.out.step hbel)
              have Hq := hide (Hq5.out.step hbel)
              have HO := hide (HO5.out.below hbel)
              have HD := hide (HD5.out.below hbel)
              have HB := hide (HB5.out.trans (hbel.mono HB5.out.size))
              have n0 := HN.out.c0
              have s0 := HS.out.c0
              have s1 := HS.out.f0
              have q0 := Hq.out.c0
              have hgq : g ≠ q := by omega
              have hgw : g < wr.heap.size := HS.out.lt
              have hqw : q < wr.heap.size := Hq.out.lt
              clear hbel HS5 Hq5 HO5 HD5 HB5
              go_wp2_with fail
              have HS6 := hide (HS.out.store HN.out.rd Hfar2.out)
              have Hq6 := hide (Hq.out.other hgq hA1g.out (.slice A2 k c2))
              have HO6 := hide (HO.out.setCell (p := ⟨g, 0, none⟩) (.slice A2 k c2) (fun hx ad e he => hOg.out hx ad e he.symm))
              have HD6 := hide (HD.out.setCell (p := ⟨g, 0, none⟩) (.slice A2 k c2) (fun hx ad e he => hBg.out hx ad e he.symm))
              have HB6 := hide (HB.out.setCell (p := ⟨g, 0, none⟩) hgs (.slice A2 k c2))
              generalize hW6 : wr.setCell ⟨g, 0, none⟩ (.slice A2 k c2) = W6 at *
              clear hW6 HN HS Hq HO HD HB n0 s0 s1 q0 hgw hqw
              refine (alone_next A1 k c1 O oc o ws _ Hq6.out.rd HO6.out HSP.out hon).mono ?_
              rintro e w7 ⟨A3, c3, rfl, hr7, hb7⟩
              have q0 := cell_later hb7 Hq6.out.c0
              have hqw : q < w7.heap.size := World.block_lt_of_cell? _ _ q0
              have Hr7 := hide (hr7.alloc (.cells #[.slice A3 k c3] 41))
              have HS7 := hide ((HS6.out.step hb7).alloc (.cells #[.slice A3 k c3] 41))
              have Hq7 := hide ((Hq6.out.step hb7).alloc (.cells #[.slice A3 k c3] 41))
              have HO7 := hide ((HO6.out.below hb7).alloc (.cells #[.slice A3 k c3] 41))
              have HD7 := hide ((HD6.out.below hb7).alloc (.cells #[.slice A3 k c3] 41))
              have HB7 := hide ((HB6.out.trans (hb7.mono HB6.out.size)).alloc (by have := HB6.out.size; have := hb7.size; omega) (.cells #[.slice A3 k c3] 41))
              have hoo : ((o : Int) != (o : Int)) = false := by simp
              clear hr7 hb7 HS6 Hq6 HO6 HD6 HB6
              go_wp2_with fail
              refine (same_any A3 A1 k c3 c1 (fresh ws) _ Hr7.out Hq7.out.rd (HSP.out.ok (by omega))).mono ?_
              rintro e w8 ⟨rfl, hb8⟩
              have HS8 := hide (HS7.out.step hb8)
              have Hq8 := hide (Hq7.out.step hb8)
              have HO8 := hide (HO7.out.below hb8)
              have HD8 := hide (HD7.out.below hb8)
              have HB8 := hide (HB7.out.trans (hb8.mono HB7.out.size))
              clear hb8 q0 hqw Hr7 HS7 Hq7 HO7 HD7 HB7
              go_wp2_with fail
              go_roundw
              case rel => exact ⟨K + 1, A2, c2, l2, by omega, by go_num, HS8.out, Hs2.out.mono (by omega), Hq8.out, HO8.out, HD8.out, HB8.out⟩
              case measure => simp [intOf]; omega
        · obtain rfl : K = T := by omega
          go_wp2_with fail
          refine (len_any E k ec _).mono ?_
          rintro e w9 ⟨rfl, hb9⟩
          go_wp2_with fail
          go_ret
          exact ⟨rfl, HB.out.trans (hb9.mono HB.out.size)⟩
end Go.Proofs.Ytnabckcdffpimaa
