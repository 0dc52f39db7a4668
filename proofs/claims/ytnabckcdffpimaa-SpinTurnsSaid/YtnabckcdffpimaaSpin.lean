/-
  Contracts of a spin's functions: Next. Conditions: the slices can be read; the numbers are small.
-/
import Derived.Test.YtnabckcdffpimaaSpinLib
import Derived.Test.YtnabckcdffpimaaSpinMath
import Derived.Test.YtnabckcdffpimaaHeld
namespace Go.Proofs.Ytnabckcdffpimaa
open Go.RowKit Ieee

/-- A spin's value. -/
abbrev sv (A : Option Addr) (n c : Nat) : Value := .agg #[.slice A n c]

theorem add_z (a b c : Int) (w : World) (ha : a.natAbs ≤ 2000000000) (hb : b.natAbs ≤ 2000000000) (hc : c.natAbs ≤ 2000000000) :
    Calls Try.prog 15 #[pv a b, .complex .f64 (fl c) 0] w fun e w' => e = .returned (pv (a + c) b) ∧ w = w' := by
  have h := add_any a b c 0 w (by omega) (by omega) (by omega) (by decide)
  rw [show pv c 0 = Value.complex .f64 (fl c) 0 by simp only [pv, fl_zero]] at h
  refine h.mono ?_
  rintro e w' ⟨rfl, rfl⟩
  rw [hold_same (by omega), Int.add_zero, hold_same (by omega)]
  exact ⟨rfl, rfl⟩

theorem add_zz (a c : Int) (w : World) (ha : a.natAbs ≤ 2000000000) (hc : c.natAbs ≤ 2000000000) :
    Calls Try.prog 15 #[.complex .f64 (fl a) 0, .complex .f64 (fl c) 0] w fun e w' => e = .returned (.complex .f64 (fl (a + c)) 0) ∧ w = w' := by
  have h := add_z a 0 c w ha (by decide) hc
  rw [show pv a 0 = Value.complex .f64 (fl a) 0 by simp only [pv, fl_zero], show pv (a + c) 0 = Value.complex .f64 (fl (a + c)) 0 by simp only [pv, fl_zero]] at h
  exact h

theorem turn_z (S : Int) (w : World) (ha : S.natAbs ≤ 2000000000) : Calls Try.prog 13 #[.complex .f64 (fl S) 0, .int .i64 2] w fun e w' => e = .returned (.complex .f64 (fl (-S)) 0) ∧ w = w' := by
  have h := turn_any S 0 2 w (by omega) (by decide) (by omega)
  rw [show pv S 0 = Value.complex .f64 (fl S) 0 by simp only [pv, fl_zero]] at h
  refine h.mono ?_
  rintro e w' ⟨rfl, rfl⟩
  exact ⟨by simp [rot, pv, fl_zero], rfl⟩

set_option maxRecDepth 100000 in
set_option maxHeartbeats 4000000 in
theorem next_any (A : Option Addr) (n c : Nat) (B : Option Addr) (m d : Nat) (l : List PN) (D : List Int) (H : Nat) (w : World) (hr : Rd w 1 A n c (pvs l)) (hD : Rd w 1 B m d (i64s D)) (hs : SP l H) (hH : H ≤ 100000000) :
    Calls Try.prog 19 #[sv A n c, .slice B m d] w fun e w' => Below w.heap.size w w' ∧
      ((bestTo D l l.length = -1 ∧ e = .returned (.tuple #[sv A n c, .int .i64 0, .bool false])) ∨
       ∃ b A' c', bestTo D l l.length = (b : Nat) ∧ e = .returned (.tuple #[sv A' n c', .int .i64 b, .bool true]) ∧ Rd w' 1 A' n c' (pvs (after D l b)) ∧ ∀ ad, A' = some ad → w.heap.size ≤ ad.block) := by
  have hl := hr.pairLen
  have hn8 := hs.len
  rw [hl] at hn8
  have Hr := hide ((hr.alloc (.cells #[.slice A n c] 41)).alloc (.cells #[.slice none 0 0] 41))
  have HD := hide ((hD.alloc (.cells #[.slice A n c] 41)).alloc (.cells #[.slice none 0 0] 41))
  have HDlt0 : i64s D ≠ [] → ∀ ad, B = some ad → ad.block < w.heap.size := fun hx ad e => hD.lt hx e
  have Hs := hide hs
  have Hl := hide hl
  clear hr hD hs hl
  go_enter Try.func19, Try.ntmps19
  go_wp2_with fail
  refine (clone_any _ _ _ l _ Hr.out (by omega)).mono ?_
  rintro e w1 ⟨v, rfl, hown, hb1⟩
  obtain ⟨V, vc, rfl, hV⟩ := own_slice hown
  have a0 : w1.cell? ⟨w.heap.size, 0, none⟩ = some (.slice A n c) := cell_later hb1 (by go_simp)
  have r0 : w1.cell? ⟨w.heap.size + 1, 0, none⟩ = some (.slice none 0 0) := cell_later hb1 (by go_simp)
  have f0 : w1.frozen? ⟨w.heap.size + 1, 0, none⟩ = false := by rw [hb1.frozen (p := ⟨w.heap.size + 1, 0, none⟩) (by simp)]; go_simp
  have HD1 := hide (HD.out.below hb1)
  have HDlt := hide HDlt0
  clear HDlt0
  have HB1 := hide ((((Below.refl w.heap.size w).alloc (Nat.le_refl _) (.cells #[.slice A n c] 41)).alloc (by simp) (.cells #[.slice none 0 0] 41)).trans (hb1.mono (by simp; omega)))
  have Hown := hide (own_mono' hown (show w.heap.size + 1 + 1 ≤ _ by simp))
  have hsz : w.heap.size + 1 + 1 ≤ w1.heap.size := by have := hb1.size; simp at this; omega
  clear hown hb1 hV Hr HD
  go_wp2_with fail
  go_loopw [7, 9, 17] (fun z bst i wr => ∃ (k : Nat) (S bi : Int), k ≤ n ∧ i = .int .i64 k ∧ z = .complex .f64 (fl S) 0 ∧ S = sumTo D l k ∧ bst = .int .i64 bi ∧ bi = bestTo D l k ∧
      wr.ownsRow (w.heap.size + 1 + 1) 26 1 (.slice V n vc) n (pvs (mixed D l k)) ∧ w1.grownBy wr (Value.slice V n vc).ownBlock) (fun _ _ i _ => n - (intOf i).toNat)
  case atStart => exact ⟨0, 0, -1, Nat.zero_le _, rfl, by rw [fl_zero], rfl, rfl, rfl, by rw [mixed_zero]; exact Hown.out, World.grownBy.refl _ _⟩
  case round =>
    obtain ⟨k, S, bi, hk, rfl, rfl, hS, rfl, hbi, ho, hg⟩ := hrel
    have hrow : ∀ q, (Value.slice V n vc).ownBlock = some q → w.heap.size + 1 + 1 ≤ q := fun q e => (Hown.out.lt q e).1
    have HDr := hide (show Rd wr 1 B m d (i64s D) from HD1.out.grown hg (fun hx ad e he => by
      have h1 := hrow _ he
      have h2 := HDlt.out hx ad e
      omega))
    have Ho := hide ho
    have Hg := hide hg
    have HS := hide hS
    have Hrow := hide hrow
    clear ho hg hrow
    by_cases hlt : k < n
    · have hkl : k < l.length := by rw [Hl.out]; exact hlt
      obtain ⟨vg, vc2, hv, hvg, hvs⟩ := own_form Ho.out (by omega)
      injection hv with hv1 hv2 hv3
      subst hv1 hv3
      have hbs := bestTo_spec D l k
      rw [← hbi] at hbs
      obtain ⟨⟨h, t⟩, hht⟩ : ∃ p : PN, l.getD k (0, 0) = p := ⟨_, rfl⟩
      have hh := Hs.out.hand k hkl
      have ht := Hs.out.weight k hkl
      have hsum := Hs.out.sum D k (by omega)
      rw [← HS.out] at hsum
      rw [hht] at hh ht
      simp only at hh ht
      have hmk := mixed_at D l k k hkl
      rw [if_neg (Nat.lt_irrefl k), hht] at hmk
      have x0 := (Rd.of_own Ho.out).pair k hlt
      rw [hmk] at x0
      simp only [Addr.add_lit, Nat.zero_add] at x0
      have z0 := Ho.out.frozenAt k
      have Hht := hide hht
      have Hkl := hide hkl
      clear hmk hht hkl hS
      cases hd : D.contains (k : Int) with
      | true =>
        have Hd := hide hd
        have Hbi := hide hbi
        clear hd hbs hbi
        go_wp2_with fail
        refine (contains_yes _ _ _ D _ _ HDr.out Hd.out).mono ?_
        rintro e w2 ⟨rfl, rfl⟩
        go_wp2_with fail
        go_roundw
        case rel => exact ⟨k + 1, S, bi, by omega, by go_num, rfl, by rw [sumTo_down Hd.out]; exact HS.out, rfl, by rw [bestTo_down Hd.out]; exact Hbi.out, by rw [mixed_skip D l k Hkl.out Hd.out]; exact Ho.out, Hg.out⟩
        case measure => simp [intOf]; omega
      | false =>
        have Hd := hide hd
        have Hbi := hide hbi
        have Hbs := hide hbs
        clear hd hbs hbi
        go_wp2_with fail
        refine (contains_no _ _ _ D _ _ HDr.out Hd.out).mono ?_
        rintro e w2 ⟨rfl, rfl⟩
        go_wp2_with fail
        refine (add_z h t t _ (by omega) (by omega) (by omega)).mono ?_
        rintro e w2 ⟨rfl, rfl⟩
        have hst := fun (a : Addr) (w : World) => run_store Try.prog w a (.complex .f64 (fl (h + t)) (fl t)) .plain rfl
        go_wp2_with fail
        have h3 := Ho.out.stored k (pv (h + t) t)
        have Ho4 := hide h3.1
        have Hg4 := hide (Hg.out.trans h3.2)
        have hset : (pvs (mixed D l k)).set k (pv (h + t) t) = pvs (mixed D l (k + 1)) := by
          rw [mixed_succ D l k Hkl.out, Hht.out, upd_up _ Hd.out]
          simp [pvs, List.map_set]
        have Ho5 := hide (hset ▸ Ho4.out)
        clear h3 hset Ho4 x0 z0 hst
        generalize hW2 : wr.setCell ⟨vg, k, none⟩ (pv (h + t) t) = W2 at *
        clear hW2
        have hsu : sumTo D l (k + 1) = S + t := by rw [sumTo_up Hd.out, Hht.out, HS.out]
        have Hsu := hide hsu
        have hsb : S.natAbs ≤ 2000000000 := by omega
        have htb : t.natAbs ≤ 2000000000 := by omega
        clear hsu
        refine (add_zz S t _ hsb htb).mono ?_
        rintro e w2 ⟨rfl, rfl⟩
        rcases Hbs.out with ⟨hb1, _⟩ | ⟨b, hb1, hb2, _, _⟩
        · subst hb1
          go_wp2_with fail
          go_roundw
          case rel => exact ⟨k + 1, S + t, k, by omega, by go_num, rfl, Hsu.out.symm, rfl, (bestTo_first Hd.out (by rw [← Hbi.out]; decide)).symm, Ho5.out, Hg4.out⟩
          case measure => simp [intOf]; omega
        · subst hb1
          have hbl : b < l.length := Nat.lt_trans hb2 Hkl.out
          have hmb := mixed_at D l (k + 1) b hbl
          rw [if_pos (by omega)] at hmb
          have hub := Hs.out.upd D b hbl
          obtain ⟨⟨x, tx⟩, hx⟩ : ∃ p : PN, upd D b (l.getD b (0, 0)) = p := ⟨_, rfl⟩
          rw [hx] at hmb hub
          simp only at hub
          have x0 := (Rd.of_own Ho5.out).pair b (by omega)
          rw [hmb] at x0
          simp only [Addr.add_lit, Nat.zero_add] at x0
          have o1 := ord_fl (h + t) x (by omega) (by omega)
          have Hx := hide hx
          have Hb2 := hide hb2
          have hbn : decide ((b : Int) < 0) = false := by rw [decide_eq_false_iff_not]; omega
          have hb3 : (b : Int) < (n : Int) := by omega
          clear hmb hx hub hb2
          rcases cmp_cases (h + t) x with ⟨hc, hlt2⟩ | ⟨hc, hlt2⟩ | ⟨hc, hlt2⟩
          · rw [hc] at o1
            have hbt := bestTo_less Hd.out Hbi.out.symm (by rw [Hx.out, Hht.out]; simp only; omega)
            have Hbt := hide hbt
            clear hc hlt2 hbt hbl
            go_wp2_with fail
            go_roundw
            case rel => exact ⟨k + 1, S + t, b, by omega, by go_num, rfl, Hsu.out.symm, rfl, Hbt.out.symm, Ho5.out, Hg4.out⟩
            case measure => simp [intOf]; omega
          · rw [hc] at o1
            have hbt := bestTo_more Hd.out Hbi.out.symm (by rw [Hx.out, Hht.out]; simp only; omega)
            have Hbt := hide hbt
            clear hc hlt2 hbt hbl
            go_wp2_with fail
            go_roundw
            case rel => exact ⟨k + 1, S + t, k, by omega, by go_num, rfl, Hsu.out.symm, rfl, Hbt.out.symm, Ho5.out, Hg4.out⟩
            case measure => simp [intOf]; omega
          · rw [hc] at o1
            have hbt := bestTo_less Hd.out Hbi.out.symm (by rw [Hx.out, Hht.out]; simp only; omega)
            have Hbt := hide hbt
            clear hc hlt2 hbt hbl
            go_wp2_with fail
            go_roundw
            case rel => exact ⟨k + 1, S + t, b, by omega, by go_num, rfl, Hsu.out.symm, rfl, Hbt.out.symm, Ho5.out, Hg4.out⟩
            case measure => simp [intOf]; omega
    · obtain rfl : k = n := by omega
      have hne : ∀ q : Nat, q < w.heap.size + 1 + 1 → some q ≠ (Value.slice V k vc).ownBlock := fun q hq e => by have := Hrow.out q e.symm; omega
      have a1 := Hg.out.cell a0 (hne _ (by first | omega | (simp only; omega)))
      have r1 := Hg.out.cell r0 (hne _ (by first | omega | (simp only; omega)))
      have f1 : wr.frozen? ⟨w.heap.size + 1, 0, none⟩ = false := by
        rw [World.frozen?_of_block (Hg.out.block (w.heap.size + 1) (by omega) (hne _ (by first | omega | (simp only; omega))))]
        exact f0
      have hbs := bestTo_spec D l k
      rw [← hbi] at hbs
      have HBr := hide (HB1.out.grown Hg.out (by omega) (fun q e => by have := Hrow.out q e; omega))
      have hsz2 : w.heap.size + 1 + 1 ≤ wr.heap.size := by have := Hg.out.size; omega
      have Hbi := hide hbi
      rcases hbs with ⟨hb1, _⟩ | ⟨b, hb1, hb2, _, _⟩
      · subst hb1
        clear hlt hk hS hbi hne
        go_wp2_with fail
        refine bodyPost_ret (v := .tuple #[sv A k c, .int .i64 0, .bool false]) (by simp [results, Try.results19, go_sem, r1]) rfl ⟨?_, .inl ⟨by rw [Hl.out]; exact Hbi.out.symm, rfl⟩⟩
        exact HBr.out.setCell (p := ⟨w.heap.size + 1, 0, none⟩) (by simp) _
      · subst hb1
        clear hlt hk hS hbi hne
        have hbn : decide ((b : Int) < 0) = false := by rw [decide_eq_false_iff_not]; omega
        have hbl : b < l.length := by rw [Hl.out]; exact hb2
        have hb3 : (b : Int) < (k : Int) := by omega
        obtain ⟨vg, vc2, hv, hvg, hvs⟩ := own_form Ho.out (by omega)
        injection hv with hv1 hv2 hv3
        subst hv1 hv3
        have hmb := mixed_at D l k b hbl
        rw [if_pos hb2] at hmb
        have hub := Hs.out.upd D b hbl
        have hus := upd_snd D b (l.getD b (0, 0))
        have hwb := Hs.out.weight b hbl
        obtain ⟨⟨x, tx⟩, hx⟩ : ∃ p : PN, upd D b (l.getD b (0, 0)) = p := ⟨_, rfl⟩
        rw [hx] at hmb hub hus
        simp only at hub hus
        rw [← hus] at hwb
        have x0 := (Rd.of_own Ho.out).pair b (by omega)
        rw [hmb] at x0
        simp only [Addr.add_lit, Nat.zero_add] at x0
        have z0 := Ho.out.frozenAt b
        have hsum := Hs.out.sum D k (by rw [Hl.out]; exact Nat.le_refl _)
        rw [← HS.out] at hsum
        have hst := fun (a : Addr) (w : World) => run_store Try.prog w a (.complex .f64 (fl (x + -S)) (fl tx)) .plain rfl
        have Hmb := hide hmb
        clear hmb hx hus
        have hsb : S.natAbs ≤ 2000000000 := by omega
        have htb : tx.natAbs ≤ 2000000000 := by omega
        have hxb : x.natAbs ≤ 2000000000 := by omega
        clear hsum hub hwb
        have HT := hide fun w => turn_z S w hsb
        have HA := hide fun w => add_z x tx (-S) w hxb htb (by omega)
        clear hsb htb hxb
        go_wp2_with fail
        have x1 : wr.drew.cell? ⟨vg, b, none⟩ = some (pv x tx) := x0
        refine region_e 10 (fun w' => w'.cell? ⟨vg, b, none⟩ = some (pv x tx)) (by kernel_rfl) x1 (fun hHeld => ?_)
        refine' AnyE.take (i := 0) [9] rfl (by kernel_rfl) (fun _ _ _ h => h) (Or.inl ⟨by rfl, ?_⟩) (by assumption) ?_
        rotate_left
        · (intro w hSw; (try dsimp only at hSw); go_simp; try with_reducible rfl)
        try simp only [Act.put, List.setIfInBounds_toArray, List.set_cons_zero, List.set_cons_succ]
        refine' AnyE.take (i := 1) [9] rfl (by kernel_rfl) (fun _ _ _ h => h) (Or.inl ⟨by rfl, ?_⟩) (by assumption) ?_
        rotate_left
        · (intro w hSw; (try dsimp only at hSw); go_simp; try with_reducible rfl)
        try simp only [Act.put, List.setIfInBounds_toArray, List.set_cons_zero, List.set_cons_succ]
        refine' AnyE.take (i := 2) [8, 5, 4] rfl (by kernel_rfl) (fun _ _ _ h => h) (Or.inl ⟨by rfl, ?_⟩) (by assumption) ?_
        rotate_left
        · (intro w hSw; (try dsimp only at hSw); go_simp; try with_reducible rfl)
        try simp only [Act.put, List.setIfInBounds_toArray, List.set_cons_zero, List.set_cons_succ]
        refine' AnyE.take (i := 3) [8, 5, 4] rfl (by kernel_rfl) (fun _ _ _ h => h) (Or.inl ⟨by rfl, ?_⟩) (by assumption) ?_
        rotate_left
        · (intro w hSw; (try dsimp only at hSw); go_simp; try with_reducible rfl)
        try simp only [Act.put, List.setIfInBounds_toArray, List.set_cons_zero, List.set_cons_succ]
        refine' AnyE.take (i := 4) [8, 5] rfl (by kernel_rfl) (fun _ _ _ h => h) (Or.inl ⟨by rfl, ?_⟩) (by assumption) ?_
        rotate_left
        · (intro w hSw; (try dsimp only at hSw); go_simp; try with_reducible rfl)
        try simp only [Act.put, List.setIfInBounds_toArray, List.set_cons_zero, List.set_cons_succ]
        refine' AnyE.take (i := 5) [8] rfl (by kernel_rfl) (fun _ _ _ h => h) (Or.inl ⟨by rfl, ?_⟩) (by assumption) ?_
        rotate_left
        · (intro w hSw; (try dsimp only at hSw); go_simp; try with_reducible rfl)
        try simp only [Act.put, List.setIfInBounds_toArray, List.set_cons_zero, List.set_cons_succ]
        refine' AnyE.take (i := 6) [8, 7] rfl (by kernel_rfl) (fun _ _ _ h => h) (Or.inl ⟨by rfl, ?_⟩) (by assumption) ?_
        rotate_left
        · (intro w hSw; (try dsimp only at hSw); go_simp; try with_reducible rfl)
        try simp only [Act.put, List.setIfInBounds_toArray, List.set_cons_zero, List.set_cons_succ]
        refine AnyE.ready (rs := [7]) (by kernel_rfl) (ReadyE.cons rfl (fun K hK => ?_) ReadyE.nil)
        go_simp
        refine (HT.out _).mono ?_
        rintro e w5 ⟨rfl, rfl⟩
        go_wp2_with fail
        refine hK.out _ _ x1 (fun hHeld => ?_)
        clear hK K
        try simp only [Act.put, List.setIfInBounds_toArray, List.set_cons_zero, List.set_cons_succ]
        refine AnyE.ready (rs := [8]) (by kernel_rfl) (ReadyE.cons rfl (fun K hK => ?_) ReadyE.nil)
        go_simp
        refine (HA.out _).mono ?_
        rintro e w5 ⟨rfl, rfl⟩
        go_wp2_with fail
        refine hK.out _ _ x1 (fun hHeld => ?_)
        clear hK K
        try simp only [Act.put, List.setIfInBounds_toArray, List.set_cons_zero, List.set_cons_succ]
        refine' AnyE.take (i := 9) [] rfl (by kernel_rfl) (fun _ _ _ h => h) (Or.inl ⟨by rfl, ?_⟩) (by assumption) ?_
        rotate_left
        · (intro w hSw; (try dsimp only at hSw); go_simp; try with_reducible rfl)
        try simp only [Act.put, List.setIfInBounds_toArray, List.set_cons_zero, List.set_cons_succ]
        refine AnyE.one (i := 10) rfl (by kernel_rfl) (fun K hK => ?_)
        go_simp
        refine hK.out _ _ ?_
        clear hK K
        try simp only [Act.put, List.setIfInBounds_toArray, List.set_cons_zero, List.set_cons_succ]
        refine AnyE.done (by kernel_rfl) ?_
        have h3 := Ho.out.stored b (pv (x + -S) tx)
        have hset : (pvs (mixed D l k)).set b (pv (x + -S) tx) = pvs (after D l b) := by
          unfold after
          rw [Hl.out, Hmb.out, ← HS.out]
          simp [pvs, List.map_set, Int.sub_eq_add_neg]
        have h4 := hset ▸ h3.1
        have hne2 : ∀ q : Nat, q < w.heap.size + 1 + 1 → some q ≠ some vg := fun q hq e => by injection e with e; omega
        have r2 := h3.2.cell r1 (hne2 _ (by first | omega | (simp only; omega)))
        have f2 : (wr.setCell ⟨vg, b, none⟩ (pv (x + -S) tx)).frozen? ⟨w.heap.size + 1, 0, none⟩ = false := by
          rw [World.frozen?_of_block (h3.2.block (w.heap.size + 1) (by omega) (hne2 _ (by omega)))]
          exact f1
        have hsz3 := h3.2.size
        have Ho4 := hide h4
        have HB4 := hide (HBr.out.grown h3.2 (by omega) (fun q e => by injection e with e; omega))
        generalize hW3 : wr.setCell ⟨vg, b, none⟩ (pv (x + -S) tx) = W3 at *
        clear hW3 h3 h4 hset hne2 x0 x1 z0 hHeld hst
        go_wp2_with fail
        refine bodyPost_ret (v := .tuple #[sv (some ⟨vg, 0, none⟩) k vc, .int .i64 b, .bool true]) (by simp [results, Try.results19, go_sem, r2]) rfl ⟨?_, .inr ⟨b, some ⟨vg, 0, none⟩, vc, by rw [Hl.out]; exact Hbi.out.symm, rfl, ?_, fun ad e => ?_⟩⟩
        · exact (HB4.out.setCell (p := ⟨w.heap.size + 1, 0, none⟩) (by simp) _).trans (below_drew _ _)
        · exact ((Rd.of_own Ho4.out).setCell (p := ⟨w.heap.size + 1, 0, none⟩) _ (fun _ ad e => by injection e with e; subst e; simp only; omega)).drew
        · injection e with e
          subst e
          simp only
          omega
end Go.Proofs.Ytnabckcdffpimaa
