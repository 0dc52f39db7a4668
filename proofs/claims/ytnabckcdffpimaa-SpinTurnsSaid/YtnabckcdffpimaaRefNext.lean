/-
  Contract of the document's Next. Conditions: the slices can be read; the numbers are small.
-/
import Derived.Test.YtnabckcdffpimaaRefNextMath
import Derived.Test.YtnabckcdffpimaaHeld
import Derived.Deep.QuietTactic
import Derived.BigQuiet
import Derived.Outline
namespace Go.Proofs.Ytnabckcdffpimaa
open Go.RowKit Ieee

theorem NT.step {w W W' : World} {r s : Nat} {Hv Wv : Value} {hs ws : List Int} (h : NT w r s Hv Wv hs ws W) (hb : Below W.heap.size W W') : NT w r s Hv Wv hs ws W' := by
  have hg : W.grownBy W' none := ⟨hb.os, hb.tape, hb.output, hb.size, fun k hk _ => hb.block k hk⟩
  obtain ⟨a1, a2, a3, a4, a5, a6, a7, a8, a9, a10⟩ := h.grown hg (by simp)
  exact ⟨a1, a2, a3, a4, a5, a6, a7, a8, own_below h.oh hb (Nat.le_refl _), own_below h.ow hb (Nat.le_refl _), h.ap, h.rs, h.wr, a9, a10⟩
theorem NT.drew {w W : World} {r s : Nat} {Hv Wv : Value} {hs ws : List Int} (h : NT w r s Hv Wv hs ws W) : NT w r s Hv Wv hs ws W.drew := h.step (below_drew _ _)

set_option maxRecDepth 100000 in
set_option maxHeartbeats 16000000 in
theorem refNext_any (Hp : Option Addr) (n hc : Nat) (Wp : Option Addr) (wc : Nat) (B : Option Addr) (m d : Nat) (l : List PN) (D : List Int) (Hb : Nat) (w : World) (hH : Rd w 1 Hp n hc (i64s (l.map Prod.fst))) (hW : Rd w 1 Wp n wc (i64s (l.map Prod.snd)))
    (hD : Rd w 1 B m d (i64s D)) (hs : SP l Hb) (hHb : Hb ≤ 100000000) :
    Calls Try.prog 28 #[rv Hp n hc Wp n wc, .slice B m d] w fun e w' => Below w.heap.size w w' ∧
      ((bestTo D l l.length = -1 ∧ e = .returned (.tuple #[rv Hp n hc Wp n wc, .int .i64 (-1)])) ∨
       ∃ (b : Nat) (v : Value), bestTo D l l.length = (b : Int) ∧ e = .returned (.tuple #[v, .int .i64 b]) ∧ RefRd w.heap.size w' v n (after D l b)) := by
  obtain ⟨i0, hi0, hz0, hz1, hz2⟩ := info_parts Try.info3
  have hl : l.length = n := by have := hH.intLen; simpa using this
  have hn8 := hs.len
  rw [hl] at hn8
  have Hl := hide hl
  have Hs := hide hs
  have hB : Below w.heap.size w (w.alloc (.cells #[.slice Hp n hc, .slice Wp n wc] 55)) := (Below.refl w.heap.size w).alloc (Nat.le_refl _) _
  have HH := hide (hH.alloc (.cells #[.slice Hp n hc, .slice Wp n wc] 55))
  have HW := hide (hW.alloc (.cells #[.slice Hp n hc, .slice Wp n wc] 55))
  have HD := hide (hD.alloc (.cells #[.slice Hp n hc, .slice Wp n wc] 55))
  have hN := NT.start (w.alloc (.cells #[.slice Hp n hc, .slice Wp n wc] 55))
  have c0 : (w.alloc (.cells #[.slice Hp n hc, .slice Wp n wc] 55)).cell? ⟨w.heap.size, 0, none⟩ = some (.slice Hp n hc) := by go_simp
  have c1 : (w.alloc (.cells #[.slice Hp n hc, .slice Wp n wc] 55)).cell? ⟨w.heap.size, 1, none⟩ = some (.slice Wp n wc) := by go_simp
  have hgs : (w.alloc (.cells #[.slice Hp n hc, .slice Wp n wc] 55)).heap.size = w.heap.size + 1 := World.size_alloc _ _
  rw [hgs] at hN
  have HB := hide hB
  have HN := hide hN
  have Hc0 := hide c0
  have Hc1 := hide c1
  have Hgs := hide hgs
  have HWlt := hide (show i64s (l.map Prod.snd) ≠ [] → ∀ ad, Wp = some ad → ad.block < w.heap.size from fun hx ad e => hW.lt hx e)
  clear hl hs hH hW hD c0 c1 hgs hN hB
  go_enter Try.func28, Try.ntmps28
  go_wp2_with fail
  generalize hW2 : ((w.alloc (.cells #[.slice Hp n hc, .slice Wp n wc] 55)).alloc (.cells #[.slice none 0 0, .slice none 0 0] 55)).alloc (.cells #[.slice none 0 0, .slice none 0 0] 55) = W2 at *
  clear hW2
  generalize hw1 : w.alloc (.cells #[.slice Hp n hc, .slice Wp n wc] 55) = w1 at *
  clear hw1
  go_loopw [8, 15] (fun z i wr => ∃ (k : Nat) (S : Int) (Hv Wv : Value), k ≤ n ∧ i = .int .i64 k ∧ z = .int .i64 S ∧ S = sumTo D l k ∧ NT w1 (w.heap.size + 1) (w.heap.size + 1 + 1) Hv Wv (hsTo D l k) (wsTo l k) wr) (fun _ i _ => n - (intOf i).toNat)
  case atStart => exact ⟨0, 0, _, _, Nat.zero_le _, rfl, rfl, rfl, HN.out⟩
  case round =>
    clear HN
    obtain ⟨k, S, Hv, Wv, hk, rfl, rfl, hS, hN⟩ := hrel
    obtain ⟨VH, ch, rfl, hVH⟩ := own_slice hN.oh
    obtain ⟨VW, cw, rfl, hVW⟩ := own_slice hN.ow
    have HVWlt := hide (show ∀ q, (Value.slice VW (wsTo l k).length cw).ownBlock = some q → w.heap.size + 1 + 1 + 1 ≤ q from fun q e => (hN.ow.lt q e).1)
    have c0 := cell_later hN.below Hc0.out
    have c1 := cell_later hN.below Hc1.out
    have HHr := hide (HH.out.below hN.below)
    have HWr := hide (HW.out.below hN.below)
    have HDr := hide (HD.out.below hN.below)
    have s0 := hN.s0
    have s1 := hN.s1
    have hsz := hN.size
    rw [hsTo_len] at s0
    rw [wsTo_len] at s1
    have HN := hide hN
    have HS := hide hS
    clear hN hVH hVW
    by_cases hlt : k < n
    · have hkl : k < l.length := by rw [Hl.out]; exact hlt
      obtain ⟨⟨hb, ho, hsp⟩, rfl⟩ := HHr.out.isSome (by omega)
      obtain ⟨⟨wb, wo, wsp⟩, rfl⟩ := HWr.out.isSome (by omega)
      have x0 := HHr.out.ints k hlt
      have t0 := HWr.out.ints k hlt
      obtain rfl : hsp = none := HHr.out.spot (by intro e; have := congrArg List.length e; simp [Hl.out] at this; omega)
      obtain rfl : wsp = none := HWr.out.spot (by intro e; have := congrArg List.length e; simp [Hl.out] at this; omega)
      rw [map_fst_at] at x0
      rw [map_snd_at] at t0
      obtain ⟨⟨h, t⟩, hht⟩ : ∃ p : PN, l.getD k (0, 0) = p := ⟨_, rfl⟩
      have hh := Hs.out.hand k hkl
      have ht := Hs.out.weight k hkl
      have hsum := Hs.out.sum D k (by omega)
      rw [← HS.out] at hsum
      rw [hht] at hh ht x0 t0
      simp only at hh ht x0 t0
      simp only [Addr.add_lit] at x0 t0
      have Hht := hide hht
      have hwb := HWlt.out (by intro e; have := congrArg List.length e; simp [Hl.out] at this; omega) _ rfl
      simp only at hwb
      clear hht hS
      cases hd : D.contains (k : Int) with
      | true =>
        have Hd := hide hd
        have HS2 := hide (show S = sumTo D l (k + 1) from by rw [sumTo_down hd]; exact HS.out)
        clear hd
        go_wp2_with fail
        refine (has_yes _ _ _ D _ _ HDr.out Hd.out).mono ?_
        rintro e w2 ⟨rfl, rfl⟩
        have hy : (upd D k (h, t)).1 = h := by rw [upd_down _ Hd.out]
        have Hy := hide hy
        clear hy
        have HA := hide (show (wr.alloc (.cells #[.int .i64 h] 3)).ownsRow (w.heap.size + 1 + 1 + 1) 3 1 (.slice VH k ch) k (i64s (hsTo D l k)) from by
          have h := (HN.out.alloc (.cells #[.int .i64 h] 3)).oh
          rw [hsTo_len] at h
          exact h)
        go_wp2_with (first
          | (at_builtin
             refine wpList_append_rd _ rfl (.tmp 42) (.tmp 44) 39 rfl (w.heap.size + 1 + 1 + 1) 3 i0 _ 1 8 Try.underlying39 hi0 hz0 hz1 hz2 rfl (by omega) (.slice VH k ch) k (i64s (hsTo D l k)) rfl HA.out _ 1 1 [.int .i64 h] rfl (rd_new _ _ _) (i64s_one [h]) (by simp only [maxLen]; omega) (by omega) (by simp; omega) ?_
             intro v2 w2 hown2 hg2 hat2
             obtain ⟨V2, c2, rfl, hV2⟩ := own_slice hown2
             have hp := (HN.out.alloc (.cells #[.int .i64 h] 3)).push_h (x := h) (by rw [hsTo_len]; exact hown2) (by rw [hsTo_len]; exact hg2) (by rw [hsTo_len]; exact hat2)
             clear s0 s1
             have s0 := hp.1
             have sf0 := hp.2.1
             have hsz2 := hp.2.2.1
             have HN2 := hide hp.2.2.2.1
             rw [hsTo_len] at s0
             clear hp hown2 hg2 hat2 HA hV2 x0 t0 c0 c1)
          | fail)
        generalize hW3 : w2.setCell ⟨w.heap.size + 1 + 1, 0, none⟩ (.slice V2 (k + 1) c2) = W3 at *
        clear hW3
        have hs3 := HN2.out.s1
        rw [wsTo_len] at hs3
        have b1 : W3.drew.cell? ⟨w.heap.size + 1 + 1, 1, none⟩ = some (.slice VW k cw) := hs3
        have b2 : W3.drew.frozen? ⟨w.heap.size + 1 + 1, 1, none⟩ = false := HN2.out.sf1
        have a2d : W3.drew.cell? ⟨w.heap.size, 1, none⟩ = some (.slice (some ⟨wb, wo, none⟩) n wc) := cell_later HN2.out.drew.below Hc1.out
        have a3d : W3.drew.cell? ⟨wb, wo + k, none⟩ = some (.int .i64 t) := by
          have h := (HW.out.below HN2.out.drew.below).ints k hlt
          rw [map_snd_at, Hht.out] at h
          simpa only [Addr.add_lit] using h
        have HA2 := hide (show ((W3.alloc (.cells #[.int .i64 t] 3)).drew).ownsRow (w.heap.size + 1 + 1 + 1) 3 1 (.slice VW k cw) k (i64s (wsTo l k)) from by
          have h := ((HN2.out.alloc (.cells #[.int .i64 t] 3)).drew).ow
          rw [wsTo_len] at h
          exact h)
        have HVWlt2 := hide (show ∀ q, (Value.slice VW k cw).ownBlock = some q → w.heap.size + 1 + 1 + 1 ≤ q from fun q e => HVWlt.out q (by rw [wsTo_len]; exact e))
        have hsz4 : w.heap.size + 1 + 1 + 1 ≤ W3.drew.heap.size := HN2.out.size
        clear hs3
        have a1 := b1
        have a2 := a2d
        have a3 := a3d
        have a4 := b2
        refine region_e 10 (fun w' => w'.cell? ⟨w.heap.size + 1 + 1, 1, none⟩ = some (.slice VW k cw) ∧ w'.cell? ⟨w.heap.size, 1, none⟩ = some (.slice (some ⟨wb, wo, none⟩) n wc) ∧ w'.cell? ⟨wb, wo + k, none⟩ = some (.int .i64 t)) (by kernel_rfl) ⟨a1, a2, a3⟩ (fun hHeld => ?_)
        refine' AnyE.take (i := 0) [] rfl (by kernel_rfl) (fun _ _ _ h => h) (Or.inl ⟨by rfl, ?_⟩) (by assumption) ?_
        rotate_left
        · (intro w hSw; (try dsimp only at hSw); (obtain ⟨hS0, hS1, hS2⟩ := hSw); go_simp; try with_reducible rfl)
        try simp only [Act.put, List.setIfInBounds_toArray, List.set_cons_zero, List.set_cons_succ]
        refine' AnyE.take (i := 1) [] rfl (by kernel_rfl) (fun _ _ _ h => h) (Or.inl ⟨by rfl, ?_⟩) (by assumption) ?_
        rotate_left
        · (intro w hSw; (try dsimp only at hSw); (obtain ⟨hS0, hS1, hS2⟩ := hSw); go_simp; try with_reducible rfl)
        try simp only [Act.put, List.setIfInBounds_toArray, List.set_cons_zero, List.set_cons_succ]
        refine' AnyE.take (i := 2) [] rfl (by kernel_rfl) (fun _ _ _ h => h) (Or.inl ⟨by rfl, ?_⟩) (by assumption) ?_
        rotate_left
        · (intro w hSw; (try dsimp only at hSw); (obtain ⟨hS0, hS1, hS2⟩ := hSw); go_simp; try with_reducible rfl)
        try simp only [Act.put, List.setIfInBounds_toArray, List.set_cons_zero, List.set_cons_succ]
        refine' AnyE.take (i := 3) [] rfl (by kernel_rfl) (fun _ _ _ h => h) (Or.inl ⟨by rfl, ?_⟩) (by assumption) ?_
        rotate_left
        · (intro w hSw; (try dsimp only at hSw); (obtain ⟨hS0, hS1, hS2⟩ := hSw); go_simp; try with_reducible rfl)
        try simp only [Act.put, List.setIfInBounds_toArray, List.set_cons_zero, List.set_cons_succ]
        refine' AnyE.take (i := 4) [] rfl (by kernel_rfl) (fun _ _ _ h => h) (Or.inl ⟨by rfl, ?_⟩) (by assumption) ?_
        rotate_left
        · (intro w hSw; (try dsimp only at hSw); (obtain ⟨hS0, hS1, hS2⟩ := hSw); go_simp; try with_reducible rfl)
        try simp only [Act.put, List.setIfInBounds_toArray, List.set_cons_zero, List.set_cons_succ]
        refine' AnyE.take (i := 5) [] rfl (by kernel_rfl) (fun _ _ _ h => h) (Or.inl ⟨by rfl, ?_⟩) (by assumption) ?_
        rotate_left
        · (intro w hSw; (try dsimp only at hSw); (obtain ⟨hS0, hS1, hS2⟩ := hSw); go_simp; try with_reducible rfl)
        try simp only [Act.put, List.setIfInBounds_toArray, List.set_cons_zero, List.set_cons_succ]
        refine' AnyE.take (i := 6) [] rfl (by kernel_rfl) (fun _ _ _ h => h) (Or.inl ⟨by rfl, ?_⟩) (by assumption) ?_
        rotate_left
        · (intro w hSw; (try dsimp only at hSw); (obtain ⟨hS0, hS1, hS2⟩ := hSw); go_simp; try with_reducible rfl)
        try simp only [Act.put, List.setIfInBounds_toArray, List.set_cons_zero, List.set_cons_succ]
        refine AnyE.ready (rs := [7]) (by kernel_rfl) (ReadyE.cons rfl (fun K hK => ?_) ReadyE.nil)
        go_simp
        have a1 := cell_later ((Below.refl _ _).alloc (Nat.le_refl _) (.cells #[.int .i64 t] 3)) a1
        have a2 := cell_later ((Below.refl _ _).alloc (Nat.le_refl _) (.cells #[.int .i64 t] 3)) a2
        have a3 := cell_later ((Below.refl _ _).alloc (Nat.le_refl _) (.cells #[.int .i64 t] 3)) a3
        refine hK.out _ _ ⟨a1, a2, a3⟩ (fun hHeld => ?_)
        clear hK K
        try simp only [Act.put, List.setIfInBounds_toArray, List.set_cons_zero, List.set_cons_succ]
        refine AnyE.ready (rs := [8]) (by kernel_rfl) (ReadyE.cons rfl (fun K hK => ?_) ReadyE.nil)
        refine step_append_rd _ rfl (.tmp 48) (.tmp 54) 39 rfl (w.heap.size + 1 + 1 + 1) 3 i0 _ 1 8 Try.underlying39 hi0 hz0 hz1 hz2 rfl (by omega) (.slice VW k cw) k (i64s (wsTo l k)) rfl HA2.out _ 1 1 [.int .i64 t] rfl (rd_new W3 _ _).drew (i64s_one [t]) (by simp only [maxLen]; omega) (by omega) (by have := HN2.out.size; simp; omega) ?_
        intro v3 w3 hown3 hg3 hat3
        obtain ⟨V3, c3, rfl, hV3⟩ := own_slice hown3
        have hp := ((HN2.out.alloc (.cells #[.int .i64 t] 3)).drew).push_w (x := t) (by rw [wsTo_len]; exact hown3) (by rw [wsTo_len]; exact hg3) (by rw [wsTo_len]; exact hat3)
        have s1 := hp.1
        have sf1 := hp.2.1
        have hsz3 := hp.2.2.1
        have HN3 := hide hp.2.2.2
        have hb3 := HN3.out.below
        rw [wsTo_len] at s1
        have hgg := hg3
        clear hp hown3 hat3 HA2 hV3 a1 a2 a3
        have a1 := s1
        have a2 : w3.cell? ⟨w.heap.size, 1, none⟩ = some (.slice (some ⟨wb, wo, none⟩) n wc) := hg3.cell (cell_later ((Below.refl _ _).alloc (Nat.le_refl _) (.cells #[.int .i64 t] 3)) a2d) (fun e => by have := HVWlt2.out _ e.symm; dsimp only at this; omega)
        have a3 : w3.cell? ⟨wb, wo + k, none⟩ = some (.int .i64 t) := hg3.cell (cell_later ((Below.refl _ _).alloc (Nat.le_refl _) (.cells #[.int .i64 t] 3)) a3d) (fun e => by have := HVWlt2.out _ e.symm; dsimp only at this; omega)
        clear hg3 hgg
        refine hK.out _ _ ⟨a1, a2, a3⟩ (fun hHeld => ?_)
        clear hK K
        try simp only [Act.put, List.setIfInBounds_toArray, List.set_cons_zero, List.set_cons_succ]
        refine' AnyE.take (i := 9) [] rfl (by kernel_rfl) (fun _ _ _ h => h) (Or.inl ⟨by rfl, ?_⟩) (by assumption) ?_
        rotate_left
        · (intro w hSw; (try dsimp only at hSw); (obtain ⟨hS0, hS1, hS2⟩ := hSw); go_simp; try with_reducible rfl)
        try simp only [Act.put, List.setIfInBounds_toArray, List.set_cons_zero, List.set_cons_succ]
        refine AnyE.one (i := 10) rfl (by kernel_rfl) (fun K hK => ?_)
        go_simp
        refine hK.out _ _ ?_
        clear hK K
        try simp only [Act.put, List.setIfInBounds_toArray, List.set_cons_zero, List.set_cons_succ]
        refine AnyE.done (by kernel_rfl) ?_
        go_wp2_with fail
        go_roundw
        case rel => exact ⟨k + 1, _, .slice V2 (k + 1) c2, .slice V3 (k + 1) c3, by omega, by go_num, rfl, HS2.out, by rw [hsTo, wsTo, Hht.out, Hy.out]; exact HN3.out⟩
        case measure => simp [intOf]; omega
      | false =>
        have Hd := hide hd
        have HS2 := hide (show S + t = sumTo D l (k + 1) from by rw [sumTo_up hd, Hht.out, HS.out])
        clear hd
        go_wp2_with fail
        refine (has_no _ _ _ D _ _ HDr.out Hd.out).mono ?_
        rintro e w2 ⟨rfl, rfl⟩
        have hy : (upd D k (h, t)).1 = h + t := by rw [upd_up _ Hd.out]
        have Hy := hide hy
        clear hy
        have HA := hide (show (wr.alloc (.cells #[.int .i64 (h + t)] 3)).ownsRow (w.heap.size + 1 + 1 + 1) 3 1 (.slice VH k ch) k (i64s (hsTo D l k)) from by
          have h := (HN.out.alloc (.cells #[.int .i64 (h + t)] 3)).oh
          rw [hsTo_len] at h
          exact h)
        go_wp2_with (first
          | (at_builtin
             refine wpList_append_rd _ rfl (.tmp 42) (.tmp 44) 39 rfl (w.heap.size + 1 + 1 + 1) 3 i0 _ 1 8 Try.underlying39 hi0 hz0 hz1 hz2 rfl (by omega) (.slice VH k ch) k (i64s (hsTo D l k)) rfl HA.out _ 1 1 [.int .i64 (h + t)] rfl (rd_new _ _ _) (i64s_one [(h + t)]) (by simp only [maxLen]; omega) (by omega) (by simp; omega) ?_
             intro v2 w2 hown2 hg2 hat2
             obtain ⟨V2, c2, rfl, hV2⟩ := own_slice hown2
             have hp := (HN.out.alloc (.cells #[.int .i64 (h + t)] 3)).push_h (x := (h + t)) (by rw [hsTo_len]; exact hown2) (by rw [hsTo_len]; exact hg2) (by rw [hsTo_len]; exact hat2)
             clear s0 s1
             have s0 := hp.1
             have sf0 := hp.2.1
             have hsz2 := hp.2.2.1
             have HN2 := hide hp.2.2.2.1
             rw [hsTo_len] at s0
             clear hp hown2 hg2 hat2 HA hV2 x0 t0 c0 c1)
          | fail)
        generalize hW3 : w2.setCell ⟨w.heap.size + 1 + 1, 0, none⟩ (.slice V2 (k + 1) c2) = W3 at *
        clear hW3
        have hs3 := HN2.out.s1
        rw [wsTo_len] at hs3
        have b1 : W3.drew.cell? ⟨w.heap.size + 1 + 1, 1, none⟩ = some (.slice VW k cw) := hs3
        have b2 : W3.drew.frozen? ⟨w.heap.size + 1 + 1, 1, none⟩ = false := HN2.out.sf1
        have a2d : W3.drew.cell? ⟨w.heap.size, 1, none⟩ = some (.slice (some ⟨wb, wo, none⟩) n wc) := cell_later HN2.out.drew.below Hc1.out
        have a3d : W3.drew.cell? ⟨wb, wo + k, none⟩ = some (.int .i64 t) := by
          have h := (HW.out.below HN2.out.drew.below).ints k hlt
          rw [map_snd_at, Hht.out] at h
          simpa only [Addr.add_lit] using h
        have HA2 := hide (show ((W3.alloc (.cells #[.int .i64 t] 3)).drew).ownsRow (w.heap.size + 1 + 1 + 1) 3 1 (.slice VW k cw) k (i64s (wsTo l k)) from by
          have h := ((HN2.out.alloc (.cells #[.int .i64 t] 3)).drew).ow
          rw [wsTo_len] at h
          exact h)
        have HVWlt2 := hide (show ∀ q, (Value.slice VW k cw).ownBlock = some q → w.heap.size + 1 + 1 + 1 ≤ q from fun q e => HVWlt.out q (by rw [wsTo_len]; exact e))
        have hsz4 : w.heap.size + 1 + 1 + 1 ≤ W3.drew.heap.size := HN2.out.size
        clear hs3
        have a1 := b1
        have a2 := a2d
        have a3 := a3d
        have a4 := b2
        refine region_e 10 (fun w' => w'.cell? ⟨w.heap.size + 1 + 1, 1, none⟩ = some (.slice VW k cw) ∧ w'.cell? ⟨w.heap.size, 1, none⟩ = some (.slice (some ⟨wb, wo, none⟩) n wc) ∧ w'.cell? ⟨wb, wo + k, none⟩ = some (.int .i64 t)) (by kernel_rfl) ⟨a1, a2, a3⟩ (fun hHeld => ?_)
        refine' AnyE.take (i := 0) [] rfl (by kernel_rfl) (fun _ _ _ h => h) (Or.inl ⟨by rfl, ?_⟩) (by assumption) ?_
        rotate_left
        · (intro w hSw; (try dsimp only at hSw); (obtain ⟨hS0, hS1, hS2⟩ := hSw); go_simp; try with_reducible rfl)
        try simp only [Act.put, List.setIfInBounds_toArray, List.set_cons_zero, List.set_cons_succ]
        refine' AnyE.take (i := 1) [] rfl (by kernel_rfl) (fun _ _ _ h => h) (Or.inl ⟨by rfl, ?_⟩) (by assumption) ?_
        rotate_left
        · (intro w hSw; (try dsimp only at hSw); (obtain ⟨hS0, hS1, hS2⟩ := hSw); go_simp; try with_reducible rfl)
        try simp only [Act.put, List.setIfInBounds_toArray, List.set_cons_zero, List.set_cons_succ]
        refine' AnyE.take (i := 2) [] rfl (by kernel_rfl) (fun _ _ _ h => h) (Or.inl ⟨by rfl, ?_⟩) (by assumption) ?_
        rotate_left
        · (intro w hSw; (try dsimp only at hSw); (obtain ⟨hS0, hS1, hS2⟩ := hSw); go_simp; try with_reducible rfl)
        try simp only [Act.put, List.setIfInBounds_toArray, List.set_cons_zero, List.set_cons_succ]
        refine' AnyE.take (i := 3) [] rfl (by kernel_rfl) (fun _ _ _ h => h) (Or.inl ⟨by rfl, ?_⟩) (by assumption) ?_
        rotate_left
        · (intro w hSw; (try dsimp only at hSw); (obtain ⟨hS0, hS1, hS2⟩ := hSw); go_simp; try with_reducible rfl)
        try simp only [Act.put, List.setIfInBounds_toArray, List.set_cons_zero, List.set_cons_succ]
        refine' AnyE.take (i := 4) [] rfl (by kernel_rfl) (fun _ _ _ h => h) (Or.inl ⟨by rfl, ?_⟩) (by assumption) ?_
        rotate_left
        · (intro w hSw; (try dsimp only at hSw); (obtain ⟨hS0, hS1, hS2⟩ := hSw); go_simp; try with_reducible rfl)
        try simp only [Act.put, List.setIfInBounds_toArray, List.set_cons_zero, List.set_cons_succ]
        refine' AnyE.take (i := 5) [] rfl (by kernel_rfl) (fun _ _ _ h => h) (Or.inl ⟨by rfl, ?_⟩) (by assumption) ?_
        rotate_left
        · (intro w hSw; (try dsimp only at hSw); (obtain ⟨hS0, hS1, hS2⟩ := hSw); go_simp; try with_reducible rfl)
        try simp only [Act.put, List.setIfInBounds_toArray, List.set_cons_zero, List.set_cons_succ]
        refine' AnyE.take (i := 6) [] rfl (by kernel_rfl) (fun _ _ _ h => h) (Or.inl ⟨by rfl, ?_⟩) (by assumption) ?_
        rotate_left
        · (intro w hSw; (try dsimp only at hSw); (obtain ⟨hS0, hS1, hS2⟩ := hSw); go_simp; try with_reducible rfl)
        try simp only [Act.put, List.setIfInBounds_toArray, List.set_cons_zero, List.set_cons_succ]
        refine AnyE.ready (rs := [7]) (by kernel_rfl) (ReadyE.cons rfl (fun K hK => ?_) ReadyE.nil)
        go_simp
        have a1 := cell_later ((Below.refl _ _).alloc (Nat.le_refl _) (.cells #[.int .i64 t] 3)) a1
        have a2 := cell_later ((Below.refl _ _).alloc (Nat.le_refl _) (.cells #[.int .i64 t] 3)) a2
        have a3 := cell_later ((Below.refl _ _).alloc (Nat.le_refl _) (.cells #[.int .i64 t] 3)) a3
        refine hK.out _ _ ⟨a1, a2, a3⟩ (fun hHeld => ?_)
        clear hK K
        try simp only [Act.put, List.setIfInBounds_toArray, List.set_cons_zero, List.set_cons_succ]
        refine AnyE.ready (rs := [8]) (by kernel_rfl) (ReadyE.cons rfl (fun K hK => ?_) ReadyE.nil)
        refine step_append_rd _ rfl (.tmp 48) (.tmp 54) 39 rfl (w.heap.size + 1 + 1 + 1) 3 i0 _ 1 8 Try.underlying39 hi0 hz0 hz1 hz2 rfl (by omega) (.slice VW k cw) k (i64s (wsTo l k)) rfl HA2.out _ 1 1 [.int .i64 t] rfl (rd_new W3 _ _).drew (i64s_one [t]) (by simp only [maxLen]; omega) (by omega) (by have := HN2.out.size; simp; omega) ?_
        intro v3 w3 hown3 hg3 hat3
        obtain ⟨V3, c3, rfl, hV3⟩ := own_slice hown3
        have hp := ((HN2.out.alloc (.cells #[.int .i64 t] 3)).drew).push_w (x := t) (by rw [wsTo_len]; exact hown3) (by rw [wsTo_len]; exact hg3) (by rw [wsTo_len]; exact hat3)
        have s1 := hp.1
        have sf1 := hp.2.1
        have hsz3 := hp.2.2.1
        have HN3 := hide hp.2.2.2
        have hb3 := HN3.out.below
        rw [wsTo_len] at s1
        have hgg := hg3
        clear hp hown3 hat3 HA2 hV3 a1 a2 a3
        have a1 := s1
        have a2 : w3.cell? ⟨w.heap.size, 1, none⟩ = some (.slice (some ⟨wb, wo, none⟩) n wc) := hg3.cell (cell_later ((Below.refl _ _).alloc (Nat.le_refl _) (.cells #[.int .i64 t] 3)) a2d) (fun e => by have := HVWlt2.out _ e.symm; dsimp only at this; omega)
        have a3 : w3.cell? ⟨wb, wo + k, none⟩ = some (.int .i64 t) := hg3.cell (cell_later ((Below.refl _ _).alloc (Nat.le_refl _) (.cells #[.int .i64 t] 3)) a3d) (fun e => by have := HVWlt2.out _ e.symm; dsimp only at this; omega)
        clear hg3 hgg
        refine hK.out _ _ ⟨a1, a2, a3⟩ (fun hHeld => ?_)
        clear hK K
        try simp only [Act.put, List.setIfInBounds_toArray, List.set_cons_zero, List.set_cons_succ]
        refine' AnyE.take (i := 9) [] rfl (by kernel_rfl) (fun _ _ _ h => h) (Or.inl ⟨by rfl, ?_⟩) (by assumption) ?_
        rotate_left
        · (intro w hSw; (try dsimp only at hSw); (obtain ⟨hS0, hS1, hS2⟩ := hSw); go_simp; try with_reducible rfl)
        try simp only [Act.put, List.setIfInBounds_toArray, List.set_cons_zero, List.set_cons_succ]
        refine AnyE.one (i := 10) rfl (by kernel_rfl) (fun K hK => ?_)
        go_simp
        refine hK.out _ _ ?_
        clear hK K
        try simp only [Act.put, List.setIfInBounds_toArray, List.set_cons_zero, List.set_cons_succ]
        refine AnyE.done (by kernel_rfl) ?_
        go_wp2_with fail
        go_roundw
        case rel => exact ⟨k + 1, _, .slice V2 (k + 1) c2, .slice V3 (k + 1) c3, by omega, by go_num, rfl, HS2.out, by rw [hsTo, wsTo, Hht.out, Hy.out]; exact HN3.out⟩
        case measure => simp [intOf]; omega
    · obtain rfl : k = n := by omega
      clear hlt hk
      have hoh := HN.out.oh
      rw [hsTo_len] at hoh
      have Hoh := hide hoh
      have HVH0 := hide (Rd.of_own hoh)
      clear hoh hsz hS
      go_wp2_with fail
      obtain ⟨wo, ewo⟩ : ∃ wo : World, wo = wr := ⟨_, rfl⟩
      subst ewo
      go_loopw [7, 61] (fun bst i wx => ∃ (j q : Nat) (bi : Int), j ≤ k ∧ i = .int .i64 j ∧ bst = .int .i64 bi ∧ bi = bestTo D l j ∧ wx = wo.drewN q) (fun _ i _ => k - (intOf i).toNat)
      case atStart => exact ⟨0, 0, -1, Nat.zero_le _, rfl, rfl, rfl, rfl⟩
      case round =>
        obtain ⟨j, q, bi, hj, rfl, rfl, hbi, rfl⟩ := hrel
        by_cases hjk : j < k
        · have hjl : j < l.length := by rw [Hl.out]; exact hjk
          obtain ⟨vg, ch2, hv, hvg, hvs⟩ := own_form Hoh.out (by omega)
          injection hv with hv1 hv2 hv3
          subst hv1 hv3
          have x0 := HVH0.out.ints j hjk
          rw [hsTo_at D l k j hjk] at x0
          simp only [Addr.add_lit, Nat.zero_add] at x0
          obtain ⟨xj, hxj⟩ : ∃ x, (upd D j (l.getD j (0, 0))).1 = x := ⟨_, rfl⟩
          rw [hxj] at x0
          have HQ := hide hbi
          have Hxj := hide hxj
          clear hbi hxj
          cases hd : D.contains (j : Int) with
          | true =>
            have Hd := hide hd
            clear hd
            go_wp2_with fail
            have a1 : (wo.drewN q).drew.cell? ⟨w.heap.size + 1 + 1, 0, none⟩ = some (.slice (some ⟨vg, 0, none⟩) k ch) := s0
            have a2 : (wo.drewN q).drew.cell? ⟨vg, j, none⟩ = some (.int .i64 xj) := x0
            skip
            refine region_e 20 (fun w' => w'.cell? ⟨w.heap.size + 1 + 1, 0, none⟩ = some (.slice (some ⟨vg, 0, none⟩) k ch) ∧ w'.cell? ⟨vg, j, none⟩ = some (.int .i64 xj)) (by kernel_rfl) ⟨a1, a2⟩ (fun hHeld => ?_)
            refine' AnyE.take (i := 0) [4, 2] rfl (by kernel_rfl) (fun _ _ _ h => h) (Or.inl ⟨by rfl, ?_⟩) (by assumption) ?_
            rotate_left
            · (intro w hSw; (try dsimp only at hSw); (obtain ⟨hS0, hS1⟩ := hSw); go_simp; try with_reducible rfl)
            try simp only [Act.put, List.setIfInBounds_toArray, List.set_cons_zero, List.set_cons_succ]
            refine' AnyE.take (i := 1) [4, 2] rfl (by kernel_rfl) (fun _ _ _ h => h) (Or.inl ⟨by rfl, ?_⟩) (by assumption) ?_
            rotate_left
            · (intro w hSw; (try dsimp only at hSw); (obtain ⟨hS0, hS1⟩ := hSw); go_simp; try with_reducible rfl)
            try simp only [Act.put, List.setIfInBounds_toArray, List.set_cons_zero, List.set_cons_succ]
            refine AnyE.ready (rs := [2]) (by kernel_rfl) (ReadyE.cons rfl (fun K hK => ?_) ReadyE.nil)
            go_simp
            refine (has_yes _ _ _ D _ _ ((HDr.out.drewN q).drew) Hd.out).mono ?_
            rintro e w2 ⟨rfl, rfl⟩
            go_wp2_with fail
            refine hK.out _ _ ⟨a1, a2⟩ (fun hHeld => ?_)
            clear hK K
            try simp only [Act.put, List.setIfInBounds_toArray, List.set_cons_zero, List.set_cons_succ]
            refine' AnyE.take (i := 3) [4] rfl (by kernel_rfl) (fun _ _ _ h => h) (Or.inl ⟨by rfl, ?_⟩) (by assumption) ?_
            rotate_left
            · (intro w hSw; (try dsimp only at hSw); (obtain ⟨hS0, hS1⟩ := hSw); go_simp; try with_reducible rfl)
            try simp only [Act.put, List.setIfInBounds_toArray, List.set_cons_zero, List.set_cons_succ]
            refine' AnyE.take (i := 4) [] rfl (by kernel_rfl) (fun _ _ _ h => h) (Or.inl ⟨by rfl, ?_⟩) (by assumption) ?_
            rotate_left
            · (intro w hSw; (try dsimp only at hSw); (obtain ⟨hS0, hS1⟩ := hSw); go_simp; try with_reducible rfl)
            try simp only [Act.put, List.setIfInBounds_toArray, List.set_cons_zero, List.set_cons_succ]
            refine' AnyE.take (i := 5) [19, 7, 6] rfl (by kernel_rfl) (fun _ _ _ h => h) (Or.inr ⟨by rfl, rfl⟩) (by assumption) ?_
            try simp only [Act.put, List.setIfInBounds_toArray, List.set_cons_zero, List.set_cons_succ]
            refine' AnyE.take (i := 6) [19, 7] rfl (by kernel_rfl) (fun _ _ _ h => h) (Or.inr ⟨by rfl, rfl⟩) (by assumption) ?_
            try simp only [Act.put, List.setIfInBounds_toArray, List.set_cons_zero, List.set_cons_succ]
            refine' AnyE.take (i := 7) [19] rfl (by kernel_rfl) (fun _ _ _ h => h) (Or.inr ⟨by rfl, rfl⟩) (by assumption) ?_
            try simp only [Act.put, List.setIfInBounds_toArray, List.set_cons_zero, List.set_cons_succ]
            refine' AnyE.take (i := 8) [19, 18, 12, 11, 9] rfl (by kernel_rfl) (fun _ _ _ h => h) (Or.inr ⟨by rfl, rfl⟩) (by assumption) ?_
            try simp only [Act.put, List.setIfInBounds_toArray, List.set_cons_zero, List.set_cons_succ]
            refine' AnyE.take (i := 9) [19, 18, 12, 11] rfl (by kernel_rfl) (fun _ _ _ h => h) (Or.inr ⟨by rfl, rfl⟩) (by assumption) ?_
            try simp only [Act.put, List.setIfInBounds_toArray, List.set_cons_zero, List.set_cons_succ]
            refine' AnyE.take (i := 10) [19, 18, 12, 11] rfl (by kernel_rfl) (fun _ _ _ h => h) (Or.inr ⟨by rfl, rfl⟩) (by assumption) ?_
            try simp only [Act.put, List.setIfInBounds_toArray, List.set_cons_zero, List.set_cons_succ]
            refine' AnyE.take (i := 11) [19, 18, 12] rfl (by kernel_rfl) (fun _ _ _ h => h) (Or.inr ⟨by rfl, rfl⟩) (by assumption) ?_
            try simp only [Act.put, List.setIfInBounds_toArray, List.set_cons_zero, List.set_cons_succ]
            refine' AnyE.take (i := 12) [19, 18] rfl (by kernel_rfl) (fun _ _ _ h => h) (Or.inr ⟨by rfl, rfl⟩) (by assumption) ?_
            try simp only [Act.put, List.setIfInBounds_toArray, List.set_cons_zero, List.set_cons_succ]
            refine' AnyE.take (i := 13) [19, 18, 17, 16, 14] rfl (by kernel_rfl) (fun _ _ _ h => h) (Or.inr ⟨by rfl, rfl⟩) (by assumption) ?_
            try simp only [Act.put, List.setIfInBounds_toArray, List.set_cons_zero, List.set_cons_succ]
            refine' AnyE.take (i := 14) [19, 18, 17, 16] rfl (by kernel_rfl) (fun _ _ _ h => h) (Or.inr ⟨by rfl, rfl⟩) (by assumption) ?_
            try simp only [Act.put, List.setIfInBounds_toArray, List.set_cons_zero, List.set_cons_succ]
            refine' AnyE.take (i := 15) [19, 18, 17, 16] rfl (by kernel_rfl) (fun _ _ _ h => h) (Or.inr ⟨by rfl, rfl⟩) (by assumption) ?_
            try simp only [Act.put, List.setIfInBounds_toArray, List.set_cons_zero, List.set_cons_succ]
            refine' AnyE.take (i := 16) [19, 18, 17] rfl (by kernel_rfl) (fun _ _ _ h => h) (Or.inr ⟨by rfl, rfl⟩) (by assumption) ?_
            try simp only [Act.put, List.setIfInBounds_toArray, List.set_cons_zero, List.set_cons_succ]
            refine' AnyE.take (i := 17) [19, 18] rfl (by kernel_rfl) (fun _ _ _ h => h) (Or.inr ⟨by rfl, rfl⟩) (by assumption) ?_
            try simp only [Act.put, List.setIfInBounds_toArray, List.set_cons_zero, List.set_cons_succ]
            refine' AnyE.take (i := 18) [19] rfl (by kernel_rfl) (fun _ _ _ h => h) (Or.inr ⟨by rfl, rfl⟩) (by assumption) ?_
            try simp only [Act.put, List.setIfInBounds_toArray, List.set_cons_zero, List.set_cons_succ]
            refine' AnyE.take (i := 19) [] rfl (by kernel_rfl) (fun _ _ _ h => h) (Or.inr ⟨by rfl, rfl⟩) (by assumption) ?_
            try simp only [Act.put, List.setIfInBounds_toArray, List.set_cons_zero, List.set_cons_succ]
            refine AnyE.one (i := 20) rfl (by kernel_rfl) (fun K hK => ?_)
            go_simp
            refine hK.out _ _ ?_
            clear hK K
            try simp only [Act.put, List.setIfInBounds_toArray, List.set_cons_zero, List.set_cons_succ]
            refine AnyE.done (by kernel_rfl) ?_
            go_wp2_with fail
            go_roundw
            case rel => exact ⟨j + 1, q + 1, bi, by omega, by go_num, rfl, by rw [bestTo_down Hd.out]; exact HQ.out, by first | rfl | simp [World.drewN_drewN]⟩
            case measure => simp [intOf]; omega
          | false =>
            have Hd := hide hd
            have hsu := upd_up (l.getD j (0, 0)) hd
            have hxs : (l.getD j (0, 0)).1 + (l.getD j (0, 0)).2 = xj := by rw [← Hxj.out, hsu]
            have hbs := bestTo_spec D l j
            rw [← HQ.out] at hbs
            clear hd hsu
            rcases hbs with ⟨hb1, _⟩ | ⟨b, hb1, hb2, _, _⟩
            · subst hb1
              clear hxs
              go_wp2_with fail
              have a1 : (wo.drewN q).drew.cell? ⟨w.heap.size + 1 + 1, 0, none⟩ = some (.slice (some ⟨vg, 0, none⟩) k ch) := s0
              have a2 : (wo.drewN q).drew.cell? ⟨vg, j, none⟩ = some (.int .i64 xj) := x0
              skip
              refine region_e 20 (fun w' => w'.cell? ⟨w.heap.size + 1 + 1, 0, none⟩ = some (.slice (some ⟨vg, 0, none⟩) k ch) ∧ w'.cell? ⟨vg, j, none⟩ = some (.int .i64 xj)) (by kernel_rfl) ⟨a1, a2⟩ (fun hHeld => ?_)
              refine' AnyE.take (i := 0) [4, 2] rfl (by kernel_rfl) (fun _ _ _ h => h) (Or.inl ⟨by rfl, ?_⟩) (by assumption) ?_
              rotate_left
              · (intro w hSw; (try dsimp only at hSw); (obtain ⟨hS0, hS1⟩ := hSw); go_simp; try with_reducible rfl)
              try simp only [Act.put, List.setIfInBounds_toArray, List.set_cons_zero, List.set_cons_succ]
              refine' AnyE.take (i := 1) [4, 2] rfl (by kernel_rfl) (fun _ _ _ h => h) (Or.inl ⟨by rfl, ?_⟩) (by assumption) ?_
              rotate_left
              · (intro w hSw; (try dsimp only at hSw); (obtain ⟨hS0, hS1⟩ := hSw); go_simp; try with_reducible rfl)
              try simp only [Act.put, List.setIfInBounds_toArray, List.set_cons_zero, List.set_cons_succ]
              refine AnyE.ready (rs := [2]) (by kernel_rfl) (ReadyE.cons rfl (fun K hK => ?_) ReadyE.nil)
              go_simp
              refine (has_no _ _ _ D _ _ ((HDr.out.drewN q).drew) Hd.out).mono ?_
              rintro e w2 ⟨rfl, rfl⟩
              go_wp2_with fail
              refine hK.out _ _ ⟨a1, a2⟩ (fun hHeld => ?_)
              clear hK K
              try simp only [Act.put, List.setIfInBounds_toArray, List.set_cons_zero, List.set_cons_succ]
              refine' AnyE.take (i := 3) [4] rfl (by kernel_rfl) (fun _ _ _ h => h) (Or.inl ⟨by rfl, ?_⟩) (by assumption) ?_
              rotate_left
              · (intro w hSw; (try dsimp only at hSw); (obtain ⟨hS0, hS1⟩ := hSw); go_simp; try with_reducible rfl)
              try simp only [Act.put, List.setIfInBounds_toArray, List.set_cons_zero, List.set_cons_succ]
              refine' AnyE.take (i := 4) [] rfl (by kernel_rfl) (fun _ _ _ h => h) (Or.inl ⟨by rfl, ?_⟩) (by assumption) ?_
              rotate_left
              · (intro w hSw; (try dsimp only at hSw); (obtain ⟨hS0, hS1⟩ := hSw); go_simp; try with_reducible rfl)
              try simp only [Act.put, List.setIfInBounds_toArray, List.set_cons_zero, List.set_cons_succ]
              refine' AnyE.take (i := 5) [19, 7, 6] rfl (by kernel_rfl) (fun _ _ _ h => h) (Or.inl ⟨by rfl, ?_⟩) (by assumption) ?_
              rotate_left
              · (intro w hSw; (try dsimp only at hSw); (obtain ⟨hS0, hS1⟩ := hSw); go_simp; try with_reducible rfl)
              try simp only [Act.put, List.setIfInBounds_toArray, List.set_cons_zero, List.set_cons_succ]
              refine' AnyE.take (i := 6) [19, 7] rfl (by kernel_rfl) (fun _ _ _ h => h) (Or.inl ⟨by rfl, ?_⟩) (by assumption) ?_
              rotate_left
              · (intro w hSw; (try dsimp only at hSw); (obtain ⟨hS0, hS1⟩ := hSw); go_simp; try with_reducible rfl)
              try simp only [Act.put, List.setIfInBounds_toArray, List.set_cons_zero, List.set_cons_succ]
              refine' AnyE.take (i := 7) [19] rfl (by kernel_rfl) (fun _ _ _ h => h) (Or.inl ⟨by rfl, ?_⟩) (by assumption) ?_
              rotate_left
              · (intro w hSw; (try dsimp only at hSw); (obtain ⟨hS0, hS1⟩ := hSw); go_simp; try with_reducible rfl)
              try simp only [Act.put, List.setIfInBounds_toArray, List.set_cons_zero, List.set_cons_succ]
              refine' AnyE.take (i := 8) [19, 18, 12, 11, 9] rfl (by kernel_rfl) (fun _ _ _ h => h) (Or.inr ⟨by rfl, rfl⟩) (by assumption) ?_
              try simp only [Act.put, List.setIfInBounds_toArray, List.set_cons_zero, List.set_cons_succ]
              refine' AnyE.take (i := 9) [19, 18, 12, 11] rfl (by kernel_rfl) (fun _ _ _ h => h) (Or.inr ⟨by rfl, rfl⟩) (by assumption) ?_
              try simp only [Act.put, List.setIfInBounds_toArray, List.set_cons_zero, List.set_cons_succ]
              refine' AnyE.take (i := 10) [19, 18, 12, 11] rfl (by kernel_rfl) (fun _ _ _ h => h) (Or.inr ⟨by rfl, rfl⟩) (by assumption) ?_
              try simp only [Act.put, List.setIfInBounds_toArray, List.set_cons_zero, List.set_cons_succ]
              refine' AnyE.take (i := 11) [19, 18, 12] rfl (by kernel_rfl) (fun _ _ _ h => h) (Or.inr ⟨by rfl, rfl⟩) (by assumption) ?_
              try simp only [Act.put, List.setIfInBounds_toArray, List.set_cons_zero, List.set_cons_succ]
              refine' AnyE.take (i := 12) [19, 18] rfl (by kernel_rfl) (fun _ _ _ h => h) (Or.inr ⟨by rfl, rfl⟩) (by assumption) ?_
              try simp only [Act.put, List.setIfInBounds_toArray, List.set_cons_zero, List.set_cons_succ]
              refine' AnyE.take (i := 13) [19, 18, 17, 16, 14] rfl (by kernel_rfl) (fun _ _ _ h => h) (Or.inr ⟨by rfl, rfl⟩) (by assumption) ?_
              try simp only [Act.put, List.setIfInBounds_toArray, List.set_cons_zero, List.set_cons_succ]
              refine' AnyE.take (i := 14) [19, 18, 17, 16] rfl (by kernel_rfl) (fun _ _ _ h => h) (Or.inr ⟨by rfl, rfl⟩) (by assumption) ?_
              try simp only [Act.put, List.setIfInBounds_toArray, List.set_cons_zero, List.set_cons_succ]
              refine' AnyE.take (i := 15) [19, 18, 17, 16] rfl (by kernel_rfl) (fun _ _ _ h => h) (Or.inr ⟨by rfl, rfl⟩) (by assumption) ?_
              try simp only [Act.put, List.setIfInBounds_toArray, List.set_cons_zero, List.set_cons_succ]
              refine' AnyE.take (i := 16) [19, 18, 17] rfl (by kernel_rfl) (fun _ _ _ h => h) (Or.inr ⟨by rfl, rfl⟩) (by assumption) ?_
              try simp only [Act.put, List.setIfInBounds_toArray, List.set_cons_zero, List.set_cons_succ]
              refine' AnyE.take (i := 17) [19, 18] rfl (by kernel_rfl) (fun _ _ _ h => h) (Or.inr ⟨by rfl, rfl⟩) (by assumption) ?_
              try simp only [Act.put, List.setIfInBounds_toArray, List.set_cons_zero, List.set_cons_succ]
              refine' AnyE.take (i := 18) [19] rfl (by kernel_rfl) (fun _ _ _ h => h) (Or.inr ⟨by rfl, rfl⟩) (by assumption) ?_
              try simp only [Act.put, List.setIfInBounds_toArray, List.set_cons_zero, List.set_cons_succ]
              refine' AnyE.take (i := 19) [] rfl (by kernel_rfl) (fun _ _ _ h => h) (Or.inl ⟨by rfl, ?_⟩) (by assumption) ?_
              rotate_left
              · (intro w hSw; (try dsimp only at hSw); (obtain ⟨hS0, hS1⟩ := hSw); go_simp; try with_reducible rfl)
              try simp only [Act.put, List.setIfInBounds_toArray, List.set_cons_zero, List.set_cons_succ]
              refine AnyE.one (i := 20) rfl (by kernel_rfl) (fun K hK => ?_)
              go_simp
              refine hK.out _ _ ?_
              clear hK K
              try simp only [Act.put, List.setIfInBounds_toArray, List.set_cons_zero, List.set_cons_succ]
              refine AnyE.done (by kernel_rfl) ?_
              go_wp2_with fail
              go_roundw
              case rel => exact ⟨j + 1, q + 1, j, by omega, by go_num, rfl, by rw [bestTo_first Hd.out (by rw [← HQ.out]; decide)], by first | rfl | simp [World.drewN_drewN]⟩
              case measure => simp [intOf]; omega
            · subst hb1
              have y0 := HVH0.out.ints b (by omega)
              rw [hsTo_at D l k b (by omega)] at y0
              simp only [Addr.add_lit, Nat.zero_add] at y0
              obtain ⟨xb, hxb⟩ : ∃ x, (upd D b (l.getD b (0, 0))).1 = x := ⟨_, rfl⟩
              rw [hxb] at y0
              have hbn : decide ((b : Int) < 0) = false := by rw [decide_eq_false_iff_not]; omega
              have hb3 : (b : Int) < (k : Int) := by omega
              by_cases hm : xb < xj
              · have hm2 : decide (xb < xj) = true := by rw [decide_eq_true_iff]; exact hm
                have Hbt := hide (bestTo_more Hd.out HQ.out.symm (by rw [hxb, hxs]; exact hm))
                clear hxb hxs hb2 hm
                go_wp2_with fail
                have a1 : (wo.drewN q).drew.cell? ⟨w.heap.size + 1 + 1, 0, none⟩ = some (.slice (some ⟨vg, 0, none⟩) k ch) := s0
                have a2 : (wo.drewN q).drew.cell? ⟨vg, j, none⟩ = some (.int .i64 xj) := x0
                have a3 : (wo.drewN q).drew.cell? ⟨vg, b, none⟩ = some (.int .i64 xb) := y0
                refine region_e 20 (fun w' => w'.cell? ⟨w.heap.size + 1 + 1, 0, none⟩ = some (.slice (some ⟨vg, 0, none⟩) k ch) ∧ w'.cell? ⟨vg, j, none⟩ = some (.int .i64 xj) ∧ w'.cell? ⟨vg, b, none⟩ = some (.int .i64 xb)) (by kernel_rfl) ⟨a1, a2, a3⟩ (fun hHeld => ?_)
                refine' AnyE.take (i := 0) [4, 2] rfl (by kernel_rfl) (fun _ _ _ h => h) (Or.inl ⟨by rfl, ?_⟩) (by assumption) ?_
                rotate_left
                · (intro w hSw; (try dsimp only at hSw); (obtain ⟨hS0, hS1, hS2⟩ := hSw); go_simp; try with_reducible rfl)
                try simp only [Act.put, List.setIfInBounds_toArray, List.set_cons_zero, List.set_cons_succ]
                refine' AnyE.take (i := 1) [4, 2] rfl (by kernel_rfl) (fun _ _ _ h => h) (Or.inl ⟨by rfl, ?_⟩) (by assumption) ?_
                rotate_left
                · (intro w hSw; (try dsimp only at hSw); (obtain ⟨hS0, hS1, hS2⟩ := hSw); go_simp; try with_reducible rfl)
                try simp only [Act.put, List.setIfInBounds_toArray, List.set_cons_zero, List.set_cons_succ]
                refine AnyE.ready (rs := [2]) (by kernel_rfl) (ReadyE.cons rfl (fun K hK => ?_) ReadyE.nil)
                go_simp
                refine (has_no _ _ _ D _ _ ((HDr.out.drewN q).drew) Hd.out).mono ?_
                rintro e w2 ⟨rfl, rfl⟩
                go_wp2_with fail
                refine hK.out _ _ ⟨a1, a2, a3⟩ (fun hHeld => ?_)
                clear hK K
                try simp only [Act.put, List.setIfInBounds_toArray, List.set_cons_zero, List.set_cons_succ]
                refine' AnyE.take (i := 3) [4] rfl (by kernel_rfl) (fun _ _ _ h => h) (Or.inl ⟨by rfl, ?_⟩) (by assumption) ?_
                rotate_left
                · (intro w hSw; (try dsimp only at hSw); (obtain ⟨hS0, hS1, hS2⟩ := hSw); go_simp; try with_reducible rfl)
                try simp only [Act.put, List.setIfInBounds_toArray, List.set_cons_zero, List.set_cons_succ]
                refine' AnyE.take (i := 4) [] rfl (by kernel_rfl) (fun _ _ _ h => h) (Or.inl ⟨by rfl, ?_⟩) (by assumption) ?_
                rotate_left
                · (intro w hSw; (try dsimp only at hSw); (obtain ⟨hS0, hS1, hS2⟩ := hSw); go_simp; try with_reducible rfl)
                try simp only [Act.put, List.setIfInBounds_toArray, List.set_cons_zero, List.set_cons_succ]
                refine' AnyE.take (i := 5) [19, 7, 6] rfl (by kernel_rfl) (fun _ _ _ h => h) (Or.inl ⟨by rfl, ?_⟩) (by assumption) ?_
                rotate_left
                · (intro w hSw; (try dsimp only at hSw); (obtain ⟨hS0, hS1, hS2⟩ := hSw); go_simp; try with_reducible rfl)
                try simp only [Act.put, List.setIfInBounds_toArray, List.set_cons_zero, List.set_cons_succ]
                refine' AnyE.take (i := 6) [19, 7] rfl (by kernel_rfl) (fun _ _ _ h => h) (Or.inl ⟨by rfl, ?_⟩) (by assumption) ?_
                rotate_left
                · (intro w hSw; (try dsimp only at hSw); (obtain ⟨hS0, hS1, hS2⟩ := hSw); go_simp; try with_reducible rfl)
                try simp only [Act.put, List.setIfInBounds_toArray, List.set_cons_zero, List.set_cons_succ]
                refine' AnyE.take (i := 7) [19] rfl (by kernel_rfl) (fun _ _ _ h => h) (Or.inl ⟨by rfl, ?_⟩) (by assumption) ?_
                rotate_left
                · (intro w hSw; (try dsimp only at hSw); (obtain ⟨hS0, hS1, hS2⟩ := hSw); go_simp; try with_reducible rfl)
                try simp only [Act.put, List.setIfInBounds_toArray, List.set_cons_zero, List.set_cons_succ]
                refine' AnyE.take (i := 8) [19, 18, 12, 11, 9] rfl (by kernel_rfl) (fun _ _ _ h => h) (Or.inl ⟨by rfl, ?_⟩) (by assumption) ?_
                rotate_left
                · (intro w hSw; (try dsimp only at hSw); (obtain ⟨hS0, hS1, hS2⟩ := hSw); go_simp; try with_reducible rfl)
                try simp only [Act.put, List.setIfInBounds_toArray, List.set_cons_zero, List.set_cons_succ]
                refine' AnyE.take (i := 9) [19, 18, 12, 11] rfl (by kernel_rfl) (fun _ _ _ h => h) (Or.inl ⟨by rfl, ?_⟩) (by assumption) ?_
                rotate_left
                · (intro w hSw; (try dsimp only at hSw); (obtain ⟨hS0, hS1, hS2⟩ := hSw); go_simp; try with_reducible rfl)
                try simp only [Act.put, List.setIfInBounds_toArray, List.set_cons_zero, List.set_cons_succ]
                refine' AnyE.take (i := 10) [19, 18, 12, 11] rfl (by kernel_rfl) (fun _ _ _ h => h) (Or.inl ⟨by rfl, ?_⟩) (by assumption) ?_
                rotate_left
                · (intro w hSw; (try dsimp only at hSw); (obtain ⟨hS0, hS1, hS2⟩ := hSw); go_simp; try with_reducible rfl)
                try simp only [Act.put, List.setIfInBounds_toArray, List.set_cons_zero, List.set_cons_succ]
                refine' AnyE.take (i := 11) [19, 18, 12] rfl (by kernel_rfl) (fun _ _ _ h => h) (Or.inl ⟨by rfl, ?_⟩) (by assumption) ?_
                rotate_left
                · (intro w hSw; (try dsimp only at hSw); (obtain ⟨hS0, hS1, hS2⟩ := hSw); go_simp; try with_reducible rfl)
                try simp only [Act.put, List.setIfInBounds_toArray, List.set_cons_zero, List.set_cons_succ]
                refine' AnyE.take (i := 12) [19, 18] rfl (by kernel_rfl) (fun _ _ _ h => h) (Or.inl ⟨by rfl, ?_⟩) (by assumption) ?_
                rotate_left
                · (intro w hSw; (try dsimp only at hSw); (obtain ⟨hS0, hS1, hS2⟩ := hSw); go_simp; try with_reducible rfl)
                try simp only [Act.put, List.setIfInBounds_toArray, List.set_cons_zero, List.set_cons_succ]
                refine' AnyE.take (i := 13) [19, 18, 17, 16, 14] rfl (by kernel_rfl) (fun _ _ _ h => h) (Or.inl ⟨by rfl, ?_⟩) (by assumption) ?_
                rotate_left
                · (intro w hSw; (try dsimp only at hSw); (obtain ⟨hS0, hS1, hS2⟩ := hSw); go_simp; try with_reducible rfl)
                try simp only [Act.put, List.setIfInBounds_toArray, List.set_cons_zero, List.set_cons_succ]
                refine' AnyE.take (i := 14) [19, 18, 17, 16] rfl (by kernel_rfl) (fun _ _ _ h => h) (Or.inl ⟨by rfl, ?_⟩) (by assumption) ?_
                rotate_left
                · (intro w hSw; (try dsimp only at hSw); (obtain ⟨hS0, hS1, hS2⟩ := hSw); go_simp; try with_reducible rfl)
                try simp only [Act.put, List.setIfInBounds_toArray, List.set_cons_zero, List.set_cons_succ]
                refine' AnyE.take (i := 15) [19, 18, 17, 16] rfl (by kernel_rfl) (fun _ _ _ h => h) (Or.inl ⟨by rfl, ?_⟩) (by assumption) ?_
                rotate_left
                · (intro w hSw; (try dsimp only at hSw); (obtain ⟨hS0, hS1, hS2⟩ := hSw); go_simp; try with_reducible rfl)
                try simp only [Act.put, List.setIfInBounds_toArray, List.set_cons_zero, List.set_cons_succ]
                refine' AnyE.take (i := 16) [19, 18, 17] rfl (by kernel_rfl) (fun _ _ _ h => h) (Or.inl ⟨by rfl, ?_⟩) (by assumption) ?_
                rotate_left
                · (intro w hSw; (try dsimp only at hSw); (obtain ⟨hS0, hS1, hS2⟩ := hSw); go_simp; try with_reducible rfl)
                try simp only [Act.put, List.setIfInBounds_toArray, List.set_cons_zero, List.set_cons_succ]
                refine' AnyE.take (i := 17) [19, 18] rfl (by kernel_rfl) (fun _ _ _ h => h) (Or.inl ⟨by rfl, ?_⟩) (by assumption) ?_
                rotate_left
                · (intro w hSw; (try dsimp only at hSw); (obtain ⟨hS0, hS1, hS2⟩ := hSw); go_simp; try with_reducible rfl)
                try simp only [Act.put, List.setIfInBounds_toArray, List.set_cons_zero, List.set_cons_succ]
                refine' AnyE.take (i := 18) [19] rfl (by kernel_rfl) (fun _ _ _ h => h) (Or.inl ⟨by rfl, ?_⟩) (by assumption) ?_
                rotate_left
                · (intro w hSw; (try dsimp only at hSw); (obtain ⟨hS0, hS1, hS2⟩ := hSw); go_simp; try with_reducible rfl)
                try simp only [Act.put, List.setIfInBounds_toArray, List.set_cons_zero, List.set_cons_succ]
                refine' AnyE.take (i := 19) [] rfl (by kernel_rfl) (fun _ _ _ h => h) (Or.inl ⟨by rfl, ?_⟩) (by assumption) ?_
                rotate_left
                · (intro w hSw; (try dsimp only at hSw); (obtain ⟨hS0, hS1, hS2⟩ := hSw); go_simp; try with_reducible rfl)
                try simp only [Act.put, List.setIfInBounds_toArray, List.set_cons_zero, List.set_cons_succ]
                refine AnyE.one (i := 20) rfl (by kernel_rfl) (fun K hK => ?_)
                go_simp
                refine hK.out _ _ ?_
                clear hK K
                try simp only [Act.put, List.setIfInBounds_toArray, List.set_cons_zero, List.set_cons_succ]
                refine AnyE.done (by kernel_rfl) ?_
                go_wp2_with fail
                go_roundw
                case rel => exact ⟨j + 1, q + 1, _, by omega, by go_num, rfl, Hbt.out.symm, by first | rfl | simp [World.drewN_drewN]⟩
                case measure => simp [intOf]; omega
              · have hm2 : decide (xb < xj) = false := by rw [decide_eq_false_iff_not]; exact hm
                have Hbt := hide (bestTo_less Hd.out HQ.out.symm (by rw [hxb, hxs]; exact hm))
                clear hxb hxs hb2 hm
                go_wp2_with fail
                have a1 : (wo.drewN q).drew.cell? ⟨w.heap.size + 1 + 1, 0, none⟩ = some (.slice (some ⟨vg, 0, none⟩) k ch) := s0
                have a2 : (wo.drewN q).drew.cell? ⟨vg, j, none⟩ = some (.int .i64 xj) := x0
                have a3 : (wo.drewN q).drew.cell? ⟨vg, b, none⟩ = some (.int .i64 xb) := y0
                refine region_e 20 (fun w' => w'.cell? ⟨w.heap.size + 1 + 1, 0, none⟩ = some (.slice (some ⟨vg, 0, none⟩) k ch) ∧ w'.cell? ⟨vg, j, none⟩ = some (.int .i64 xj) ∧ w'.cell? ⟨vg, b, none⟩ = some (.int .i64 xb)) (by kernel_rfl) ⟨a1, a2, a3⟩ (fun hHeld => ?_)
                refine' AnyE.take (i := 0) [4, 2] rfl (by kernel_rfl) (fun _ _ _ h => h) (Or.inl ⟨by rfl, ?_⟩) (by assumption) ?_
                rotate_left
                · (intro w hSw; (try dsimp only at hSw); (obtain ⟨hS0, hS1, hS2⟩ := hSw); go_simp; try with_reducible rfl)
                try simp only [Act.put, List.setIfInBounds_toArray, List.set_cons_zero, List.set_cons_succ]
                refine' AnyE.take (i := 1) [4, 2] rfl (by kernel_rfl) (fun _ _ _ h => h) (Or.inl ⟨by rfl, ?_⟩) (by assumption) ?_
                rotate_left
                · (intro w hSw; (try dsimp only at hSw); (obtain ⟨hS0, hS1, hS2⟩ := hSw); go_simp; try with_reducible rfl)
                try simp only [Act.put, List.setIfInBounds_toArray, List.set_cons_zero, List.set_cons_succ]
                refine AnyE.ready (rs := [2]) (by kernel_rfl) (ReadyE.cons rfl (fun K hK => ?_) ReadyE.nil)
                go_simp
                refine (has_no _ _ _ D _ _ ((HDr.out.drewN q).drew) Hd.out).mono ?_
                rintro e w2 ⟨rfl, rfl⟩
                go_wp2_with fail
                refine hK.out _ _ ⟨a1, a2, a3⟩ (fun hHeld => ?_)
                clear hK K
                try simp only [Act.put, List.setIfInBounds_toArray, List.set_cons_zero, List.set_cons_succ]
                refine' AnyE.take (i := 3) [4] rfl (by kernel_rfl) (fun _ _ _ h => h) (Or.inl ⟨by rfl, ?_⟩) (by assumption) ?_
                rotate_left
                · (intro w hSw; (try dsimp only at hSw); (obtain ⟨hS0, hS1, hS2⟩ := hSw); go_simp; try with_reducible rfl)
                try simp only [Act.put, List.setIfInBounds_toArray, List.set_cons_zero, List.set_cons_succ]
                refine' AnyE.take (i := 4) [] rfl (by kernel_rfl) (fun _ _ _ h => h) (Or.inl ⟨by rfl, ?_⟩) (by assumption) ?_
                rotate_left
                · (intro w hSw; (try dsimp only at hSw); (obtain ⟨hS0, hS1, hS2⟩ := hSw); go_simp; try with_reducible rfl)
                try simp only [Act.put, List.setIfInBounds_toArray, List.set_cons_zero, List.set_cons_succ]
                refine' AnyE.take (i := 5) [19, 7, 6] rfl (by kernel_rfl) (fun _ _ _ h => h) (Or.inl ⟨by rfl, ?_⟩) (by assumption) ?_
                rotate_left
                · (intro w hSw; (try dsimp only at hSw); (obtain ⟨hS0, hS1, hS2⟩ := hSw); go_simp; try with_reducible rfl)
                try simp only [Act.put, List.setIfInBounds_toArray, List.set_cons_zero, List.set_cons_succ]
                refine' AnyE.take (i := 6) [19, 7] rfl (by kernel_rfl) (fun _ _ _ h => h) (Or.inl ⟨by rfl, ?_⟩) (by assumption) ?_
                rotate_left
                · (intro w hSw; (try dsimp only at hSw); (obtain ⟨hS0, hS1, hS2⟩ := hSw); go_simp; try with_reducible rfl)
                try simp only [Act.put, List.setIfInBounds_toArray, List.set_cons_zero, List.set_cons_succ]
                refine' AnyE.take (i := 7) [19] rfl (by kernel_rfl) (fun _ _ _ h => h) (Or.inl ⟨by rfl, ?_⟩) (by assumption) ?_
                rotate_left
                · (intro w hSw; (try dsimp only at hSw); (obtain ⟨hS0, hS1, hS2⟩ := hSw); go_simp; try with_reducible rfl)
                try simp only [Act.put, List.setIfInBounds_toArray, List.set_cons_zero, List.set_cons_succ]
                refine' AnyE.take (i := 8) [19, 18, 12, 11, 9] rfl (by kernel_rfl) (fun _ _ _ h => h) (Or.inl ⟨by rfl, ?_⟩) (by assumption) ?_
                rotate_left
                · (intro w hSw; (try dsimp only at hSw); (obtain ⟨hS0, hS1, hS2⟩ := hSw); go_simp; try with_reducible rfl)
                try simp only [Act.put, List.setIfInBounds_toArray, List.set_cons_zero, List.set_cons_succ]
                refine' AnyE.take (i := 9) [19, 18, 12, 11] rfl (by kernel_rfl) (fun _ _ _ h => h) (Or.inl ⟨by rfl, ?_⟩) (by assumption) ?_
                rotate_left
                · (intro w hSw; (try dsimp only at hSw); (obtain ⟨hS0, hS1, hS2⟩ := hSw); go_simp; try with_reducible rfl)
                try simp only [Act.put, List.setIfInBounds_toArray, List.set_cons_zero, List.set_cons_succ]
                refine' AnyE.take (i := 10) [19, 18, 12, 11] rfl (by kernel_rfl) (fun _ _ _ h => h) (Or.inl ⟨by rfl, ?_⟩) (by assumption) ?_
                rotate_left
                · (intro w hSw; (try dsimp only at hSw); (obtain ⟨hS0, hS1, hS2⟩ := hSw); go_simp; try with_reducible rfl)
                try simp only [Act.put, List.setIfInBounds_toArray, List.set_cons_zero, List.set_cons_succ]
                refine' AnyE.take (i := 11) [19, 18, 12] rfl (by kernel_rfl) (fun _ _ _ h => h) (Or.inl ⟨by rfl, ?_⟩) (by assumption) ?_
                rotate_left
                · (intro w hSw; (try dsimp only at hSw); (obtain ⟨hS0, hS1, hS2⟩ := hSw); go_simp; try with_reducible rfl)
                try simp only [Act.put, List.setIfInBounds_toArray, List.set_cons_zero, List.set_cons_succ]
                refine' AnyE.take (i := 12) [19, 18] rfl (by kernel_rfl) (fun _ _ _ h => h) (Or.inl ⟨by rfl, ?_⟩) (by assumption) ?_
                rotate_left
                · (intro w hSw; (try dsimp only at hSw); (obtain ⟨hS0, hS1, hS2⟩ := hSw); go_simp; try with_reducible rfl)
                try simp only [Act.put, List.setIfInBounds_toArray, List.set_cons_zero, List.set_cons_succ]
                refine' AnyE.take (i := 13) [19, 18, 17, 16, 14] rfl (by kernel_rfl) (fun _ _ _ h => h) (Or.inl ⟨by rfl, ?_⟩) (by assumption) ?_
                rotate_left
                · (intro w hSw; (try dsimp only at hSw); (obtain ⟨hS0, hS1, hS2⟩ := hSw); go_simp; try with_reducible rfl)
                try simp only [Act.put, List.setIfInBounds_toArray, List.set_cons_zero, List.set_cons_succ]
                refine' AnyE.take (i := 14) [19, 18, 17, 16] rfl (by kernel_rfl) (fun _ _ _ h => h) (Or.inl ⟨by rfl, ?_⟩) (by assumption) ?_
                rotate_left
                · (intro w hSw; (try dsimp only at hSw); (obtain ⟨hS0, hS1, hS2⟩ := hSw); go_simp; try with_reducible rfl)
                try simp only [Act.put, List.setIfInBounds_toArray, List.set_cons_zero, List.set_cons_succ]
                refine' AnyE.take (i := 15) [19, 18, 17, 16] rfl (by kernel_rfl) (fun _ _ _ h => h) (Or.inl ⟨by rfl, ?_⟩) (by assumption) ?_
                rotate_left
                · (intro w hSw; (try dsimp only at hSw); (obtain ⟨hS0, hS1, hS2⟩ := hSw); go_simp; try with_reducible rfl)
                try simp only [Act.put, List.setIfInBounds_toArray, List.set_cons_zero, List.set_cons_succ]
                refine' AnyE.take (i := 16) [19, 18, 17] rfl (by kernel_rfl) (fun _ _ _ h => h) (Or.inl ⟨by rfl, ?_⟩) (by assumption) ?_
                rotate_left
                · (intro w hSw; (try dsimp only at hSw); (obtain ⟨hS0, hS1, hS2⟩ := hSw); go_simp; try with_reducible rfl)
                try simp only [Act.put, List.setIfInBounds_toArray, List.set_cons_zero, List.set_cons_succ]
                refine' AnyE.take (i := 17) [19, 18] rfl (by kernel_rfl) (fun _ _ _ h => h) (Or.inl ⟨by rfl, ?_⟩) (by assumption) ?_
                rotate_left
                · (intro w hSw; (try dsimp only at hSw); (obtain ⟨hS0, hS1, hS2⟩ := hSw); go_simp; try with_reducible rfl)
                try simp only [Act.put, List.setIfInBounds_toArray, List.set_cons_zero, List.set_cons_succ]
                refine' AnyE.take (i := 18) [19] rfl (by kernel_rfl) (fun _ _ _ h => h) (Or.inl ⟨by rfl, ?_⟩) (by assumption) ?_
                rotate_left
                · (intro w hSw; (try dsimp only at hSw); (obtain ⟨hS0, hS1, hS2⟩ := hSw); go_simp; try with_reducible rfl)
                try simp only [Act.put, List.setIfInBounds_toArray, List.set_cons_zero, List.set_cons_succ]
                refine' AnyE.take (i := 19) [] rfl (by kernel_rfl) (fun _ _ _ h => h) (Or.inl ⟨by rfl, ?_⟩) (by assumption) ?_
                rotate_left
                · (intro w hSw; (try dsimp only at hSw); (obtain ⟨hS0, hS1, hS2⟩ := hSw); go_simp; try with_reducible rfl)
                try simp only [Act.put, List.setIfInBounds_toArray, List.set_cons_zero, List.set_cons_succ]
                refine AnyE.one (i := 20) rfl (by kernel_rfl) (fun K hK => ?_)
                go_simp
                refine hK.out _ _ ?_
                clear hK K
                try simp only [Act.put, List.setIfInBounds_toArray, List.set_cons_zero, List.set_cons_succ]
                refine AnyE.done (by kernel_rfl) ?_
                go_wp2_with fail
                go_roundw
                case rel => exact ⟨j + 1, q + 1, _, by omega, by go_num, rfl, Hbt.out.symm, by first | rfl | simp [World.drewN_drewN]⟩
                case measure => simp [intOf]; omega
        · obtain rfl : j = k := by omega
          have hbs := bestTo_spec D l j
          rw [← hbi] at hbs
          have HBi := hide hbi
          clear hbi
          rcases hbs with ⟨hb1, _⟩ | ⟨b, hb1, hb2, _, _⟩
          · subst hb1
            have r0 := HN.out.r0
            have r1 := HN.out.r1
            have rf0 := HN.out.rf0
            have rf1 := HN.out.rf1
            have c0 := cell_later HN.out.below Hc0.out
            have c1 := cell_later HN.out.below Hc1.out
            have hbb := HN.out.below
            have HBB := hide hbb
            clear hbb s0 s1
            go_wp2_with fail
            refine bodyPost_ret (v := .tuple #[rv Hp j hc Wp j wc, .int .i64 (-1)]) (by simp [results, Try.results28, go_sem, r0, r1]) rfl ⟨?_, .inl ⟨by rw [Hl.out]; exact HBi.out.symm, rfl⟩⟩
            have h0 := HB.out.trans (HBB.out.mono (by rw [Hgs.out]; omega))
            exact ((h0.setCell (p := ⟨w.heap.size + 1, 0, none⟩) (by simp) _).setCell (p := ⟨w.heap.size + 1, 1, none⟩) (by simp) _).trans (below_drewN _ _ _)
          · subst hb1
            have hbn : decide ((b : Int) < 0) = false := by rw [decide_eq_false_iff_not]; omega
            obtain ⟨vg, ch2, hv, hvg, hvs⟩ := own_form Hoh.out (by omega)
            injection hv with hv1 hv2 hv3
            subst hv1 hv3
            have y0 := HVH0.out.ints b (by omega)
            rw [hsTo_at D l j b (by omega)] at y0
            simp only [Addr.add_lit, Nat.zero_add] at y0
            obtain ⟨x, hx⟩ : ∃ x, (upd D b (l.getD b (0, 0))).1 = x := ⟨_, rfl⟩
            rw [hx] at y0
            have hb3 : (b : Int) < (j : Int) := by omega
            have Hx := hide hx
            have hub := Hs.out.upd D b (by rw [Hl.out]; omega)
            rw [hx] at hub
            have hsum := Hs.out.sum D j (by rw [Hl.out]; exact Nat.le_refl _)
            rw [← HS.out] at hsum
            have z0 := Hoh.out.frozenAt b
            clear hx hb2
            go_wp2_with fail
            have b0 : (wo.drewN q).drew.cell? ⟨w.heap.size + 1 + 1, 0, none⟩ = some (.slice (some ⟨vg, 0, none⟩) j ch) := s0
            have x0 : (wo.drewN q).drew.cell? ⟨vg, b, none⟩ = some (.int .i64 x) := y0
            refine region_e 11 (fun w' => w'.cell? ⟨w.heap.size + 1 + 1, 0, none⟩ = some (.slice (some ⟨vg, 0, none⟩) j ch) ∧ w'.cell? ⟨vg, b, none⟩ = some (.int .i64 x)) (by kernel_rfl) ⟨b0, x0⟩ (fun hHeld => ?_)
            refine' AnyE.take (i := 0) [] rfl (by kernel_rfl) (fun _ _ _ h => h) (Or.inl ⟨by rfl, ?_⟩) (by assumption) ?_
            rotate_left
            · (intro w hSw; (try dsimp only at hSw); (obtain ⟨hS0, hS1⟩ := hSw); go_simp; try with_reducible rfl)
            try simp only [Act.put, List.setIfInBounds_toArray, List.set_cons_zero, List.set_cons_succ]
            refine' AnyE.take (i := 1) [] rfl (by kernel_rfl) (fun _ _ _ h => h) (Or.inl ⟨by rfl, ?_⟩) (by assumption) ?_
            rotate_left
            · (intro w hSw; (try dsimp only at hSw); (obtain ⟨hS0, hS1⟩ := hSw); go_simp; try with_reducible rfl)
            try simp only [Act.put, List.setIfInBounds_toArray, List.set_cons_zero, List.set_cons_succ]
            refine' AnyE.take (i := 2) [] rfl (by kernel_rfl) (fun _ _ _ h => h) (Or.inl ⟨by rfl, ?_⟩) (by assumption) ?_
            rotate_left
            · (intro w hSw; (try dsimp only at hSw); (obtain ⟨hS0, hS1⟩ := hSw); go_simp; try with_reducible rfl)
            try simp only [Act.put, List.setIfInBounds_toArray, List.set_cons_zero, List.set_cons_succ]
            refine' AnyE.take (i := 3) [] rfl (by kernel_rfl) (fun _ _ _ h => h) (Or.inl ⟨by rfl, ?_⟩) (by assumption) ?_
            rotate_left
            · (intro w hSw; (try dsimp only at hSw); (obtain ⟨hS0, hS1⟩ := hSw); go_simp; try with_reducible rfl)
            try simp only [Act.put, List.setIfInBounds_toArray, List.set_cons_zero, List.set_cons_succ]
            refine' AnyE.take (i := 4) [] rfl (by kernel_rfl) (fun _ _ _ h => h) (Or.inl ⟨by rfl, ?_⟩) (by assumption) ?_
            rotate_left
            · (intro w hSw; (try dsimp only at hSw); (obtain ⟨hS0, hS1⟩ := hSw); go_simp; try with_reducible rfl)
            try simp only [Act.put, List.setIfInBounds_toArray, List.set_cons_zero, List.set_cons_succ]
            refine' AnyE.take (i := 5) [] rfl (by kernel_rfl) (fun _ _ _ h => h) (Or.inl ⟨by rfl, ?_⟩) (by assumption) ?_
            rotate_left
            · (intro w hSw; (try dsimp only at hSw); (obtain ⟨hS0, hS1⟩ := hSw); go_simp; try with_reducible rfl)
            try simp only [Act.put, List.setIfInBounds_toArray, List.set_cons_zero, List.set_cons_succ]
            refine' AnyE.take (i := 6) [] rfl (by kernel_rfl) (fun _ _ _ h => h) (Or.inl ⟨by rfl, ?_⟩) (by assumption) ?_
            rotate_left
            · (intro w hSw; (try dsimp only at hSw); (obtain ⟨hS0, hS1⟩ := hSw); go_simp; try with_reducible rfl)
            try simp only [Act.put, List.setIfInBounds_toArray, List.set_cons_zero, List.set_cons_succ]
            refine' AnyE.take (i := 7) [] rfl (by kernel_rfl) (fun _ _ _ h => h) (Or.inl ⟨by rfl, ?_⟩) (by assumption) ?_
            rotate_left
            · (intro w hSw; (try dsimp only at hSw); (obtain ⟨hS0, hS1⟩ := hSw); go_simp; try with_reducible rfl)
            try simp only [Act.put, List.setIfInBounds_toArray, List.set_cons_zero, List.set_cons_succ]
            refine' AnyE.take (i := 8) [] rfl (by kernel_rfl) (fun _ _ _ h => h) (Or.inl ⟨by rfl, ?_⟩) (by assumption) ?_
            rotate_left
            · (intro w hSw; (try dsimp only at hSw); (obtain ⟨hS0, hS1⟩ := hSw); go_simp; try with_reducible rfl)
            try simp only [Act.put, List.setIfInBounds_toArray, List.set_cons_zero, List.set_cons_succ]
            refine' AnyE.take (i := 9) [] rfl (by kernel_rfl) (fun _ _ _ h => h) (Or.inl ⟨by rfl, ?_⟩) (by assumption) ?_
            rotate_left
            · (intro w hSw; (try dsimp only at hSw); (obtain ⟨hS0, hS1⟩ := hSw); go_simp; try with_reducible rfl)
            try simp only [Act.put, List.setIfInBounds_toArray, List.set_cons_zero, List.set_cons_succ]
            refine' AnyE.take (i := 10) [] rfl (by kernel_rfl) (fun _ _ _ h => h) (Or.inl ⟨by rfl, ?_⟩) (by assumption) ?_
            rotate_left
            · (intro w hSw; (try dsimp only at hSw); (obtain ⟨hS0, hS1⟩ := hSw); go_simp; try with_reducible rfl)
            try simp only [Act.put, List.setIfInBounds_toArray, List.set_cons_zero, List.set_cons_succ]
            refine AnyE.one (i := 11) rfl (by kernel_rfl) (fun K hK => ?_)
            go_simp
            refine hK.out _ _ ?_
            clear hK K
            try simp only [Act.put, List.setIfInBounds_toArray, List.set_cons_zero, List.set_cons_succ]
            refine AnyE.done (by kernel_rfl) ?_
            rw [show IntKind.i64.wrap (x - S) = x - S from IntWalk.i64_in _ (by omega), show (wo.drewN (q + 1)).setCell ⟨vg, b, none⟩ (.int .i64 (x - S)) = (wo.setCell ⟨vg, b, none⟩ (.int .i64 (x - S))).drewN (q + 1) from rfl]
            have h3 := Hoh.out.stored b (.int .i64 (x - S))
            have hset : (i64s (hsTo D l j)).set b (.int .i64 (x - S)) = i64s ((after D l b).map Prod.fst) := by
              rw [after_fst D l b (by rw [Hl.out]; omega), Hx.out, Hl.out, ← HS.out]
              simp [i64s, List.map_set]
            have h4 := hset ▸ h3.1
            obtain ⟨r0, r1, rf0, rf1, t0, t1, _, _, hsz3, hb3w⟩ := HN.out.grown h3.2 (fun p e => by injection e with e; omega)
            have how := HN.out.ow.kept h3.2 (by
              cases hw : (Value.slice VW (wsTo l j).length cw).ownBlock with
              | none => exact .inl rfl
              | some p => exact .inr fun e => HN.out.ap p (by rw [hsTo_len]; exact e.symm) hw)
            rw [wsTo_len] at how t1
            rw [hsTo_len] at t0
            have How := hide how
            have Ho4 := hide h4
            have HB4 := hide hb3w
            generalize hW3 : wo.setCell ⟨vg, b, none⟩ (.int .i64 (x - S)) = W3 at *
            clear hW3 h3 h4 hset hb3w how b0 x0 y0 hHeld
            go_wp2_with fail
            refine bodyPost_ret (v := .tuple #[rv (some ⟨vg, 0, none⟩) j ch VW j cw, .int .i64 b]) (by simp [results, Try.results28, go_sem, r0, r1]) rfl ⟨?_, .inr ⟨b, _, by rw [Hl.out]; exact HBi.out.symm, rfl, some ⟨vg, 0, none⟩, ch, VW, cw, rfl, ?_, ?_, fun ad e => by injection e with e; subst e; simp only; omega, fun ad e => by have := HVWlt.out ad.block (by rw [e]; rfl); omega⟩⟩
            · have h0 := HB.out.trans (HB4.out.mono (by rw [Hgs.out]; omega))
              exact ((h0.setCell (p := ⟨w.heap.size + 1, 0, none⟩) (by simp) _).setCell (p := ⟨w.heap.size + 1, 1, none⟩) (by simp) _).trans (below_drewN _ _ _)
            · exact (((Rd.of_own Ho4.out).setCell (p := ⟨w.heap.size + 1, 0, none⟩) _ (fun _ ad e => by injection e with e; subst e; simp only; omega)).setCell (p := ⟨w.heap.size + 1, 1, none⟩) _ (fun _ ad e => by injection e with e; subst e; simp only; omega)).drewN _
            · rw [after_snd, Hl.out]
              exact (((Rd.of_own How.out).setCell (p := ⟨w.heap.size + 1, 0, none⟩) _ (fun _ ad e => by have := HVWlt.out ad.block (by rw [e]; rfl); simp only; omega)).setCell (p := ⟨w.heap.size + 1, 1, none⟩) _ (fun _ ad e => by have := HVWlt.out ad.block (by rw [e]; rfl); simp only; omega)).drewN _
end Go.Proofs.Ytnabckcdffpimaa
