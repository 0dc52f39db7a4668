/-
  QueueJoins: one queue behind another; who is left over: the walk. Conditions: both scripts can be read.
-/
import Derived.Test.YtghmjfinmbgjiaaJoin2
import Derived.Test.YtghmjfinmbgjiaaOf
namespace Go.Proofs.Ytghmjfinmbgjiaa
open Go.RowKit

set_option maxHeartbeats 4000000 in
theorem joins_long (S T : Option Addr) (m sc n tc : Nat) (a b : Int) (w : World) (h : 60 < m ∨ 60 < n ∨ 64 < a ∨ 64 < b) :
    Calls Try.prog 5 #[.slice S m sc, .slice T n tc, .int .u8 a, .int .u8 b] w fun e w' => e = .returned (.bool true) ∧ Below w.heap.size w w' := by
  by_cases h1 : (60 : Int) < m
  · clear h
    go_enter Try.func5, Try.ntmps5
    go_wp2_with fail
    refine (awake_any _).mono ?_
    rintro e w1 ⟨rfl, hb1⟩
    go_wp2_with fail
    go_ret
    exact ⟨rfl, hb1⟩
  by_cases h2 : (60 : Int) < n
  · clear h
    go_enter Try.func5, Try.ntmps5
    go_wp2_with fail
    refine (awake_any _).mono ?_
    rintro e w1 ⟨rfl, hb1⟩
    go_wp2_with fail
    go_ret
    exact ⟨rfl, hb1⟩
  by_cases h3 : (64 : Int) < a
  · clear h
    go_enter Try.func5, Try.ntmps5
    go_wp2_with fail
    refine (awake_any _).mono ?_
    rintro e w1 ⟨rfl, hb1⟩
    go_wp2_with fail
    go_ret
    exact ⟨rfl, hb1⟩
  · have h4 : (64 : Int) < b := by omega
    clear h
    go_enter Try.func5, Try.ntmps5
    go_wp2_with fail
    refine (awake_any _).mono ?_
    rintro e w1 ⟨rfl, hb1⟩
    go_wp2_with fail
    go_ret
    exact ⟨rfl, hb1⟩

/-- One is left over, by the document. -/
theorem refPut_left (room : Int) (A : Option Addr) (n c : Nat) (zs : List Int) (x : Int) (w : World) (hr : Rd w 1 A n c (u64s zs)) (h : zs.contains x = true ∨ room ≤ (n : Int)) :
    Calls Try.prog 15 #[.slice A n c, .int .i64 room, .int .u64 x] w fun e w' => ∃ q : Int, (q != 0) = true ∧ e = .returned (.tuple #[.slice A n c, .int .i64 q]) ∧ w = w' := by
  cases hin : zs.contains x with
  | true => exact (refPut_twice room A n c zs x w hr hin).mono fun e w' ⟨he, hb⟩ => ⟨11, rfl, he, hb⟩
  | false =>
    rw [hin] at h
    exact (refPut_full room A n c zs x w hr hin (h.resolve_left (by simp))).mono fun e w' ⟨he, hb⟩ => ⟨17, rfl, he, hb⟩

set_option maxRecDepth 100000 in
set_option maxHeartbeats 8000000 in
theorem joins_short (S T : Option Addr) (m sc n tc : Nat) (a b : Int) (as1 bs1 : List (Int × Int)) (w : World) (hs : Rd w 2 S m sc (actCells as1)) (ht : Rd w 2 T n tc (actCells bs1))
    (hm : m ≤ 60) (hn : n ≤ 60) (ha0 : 0 ≤ a) (ha : a ≤ 64) (hb0 : 0 ≤ b) (hb : b ≤ 64)
    (hds : ∀ k, 0 ≤ (as1.getD k (0, 0)).1 ∧ (as1.getD k (0, 0)).1 ≤ 255) (hdt : ∀ k, 0 ≤ (bs1.getD k (0, 0)).1 ∧ (bs1.getD k (0, 0)).1 ≤ 255) :
    Calls Try.prog 5 #[.slice S m sc, .slice T n tc, .int .u8 a, .int .u8 b] w fun e w' => e = .returned (.bool true) ∧ Below w.heap.size w w' := by
  obtain ⟨i0, hi0, hz0, hz1, hz2⟩ := info_parts Try.info29
  have Hs := hide hs
  have Ht := hide ht
  have Hds := hide hds
  have Hdt := hide hdt
  have g1 : ¬ (60 : Int) < m := by omega
  have g2 : ¬ (60 : Int) < n := by omega
  have g3 : ¬ (64 : Int) < a := by omega
  have g4 : ¬ (64 : Int) < b := by omega
  clear hs ht hds hdt
  go_enter Try.func5, Try.ntmps5
  go_wp2_with fail
  refine (awake_any _).mono ?_
  rintro e w1 ⟨rfl, hb1⟩
  have Hb := hide hb1
  have Hs := hide (Hs.out.below hb1)
  have Ht := hide (Ht.out.below hb1)
  clear hb1
  go_wp2_with fail
  refine (of_ok a S m sc as1 _ ha0 ha Hs.out (by omega) Hds.out).mono ?_
  rintro e w2 ⟨A, na, ca, U, uc, zs, rfl, hA, hU, hna, hb2⟩
  have Hb := hide ((Hb.out.trans (hb2.mono Hb.out.size)).alloc (by have := Hb.out.size; have := hb2.size; omega) (.cells #[.int .i64 a, .slice A na ca] 25))
  have HA := hide (hA.alloc (.cells #[.int .i64 a, .slice A na ca] 25))
  have HU := hide (hU.alloc (.cells #[.int .i64 a, .slice A na ca] 25))
  have Ht := hide ((Ht.out.below hb2).alloc (.cells #[.int .i64 a, .slice A na ca] 25))
  clear hA hU hb2 Hs
  go_wp2_with fail
  have p0 : (w2.alloc (.cells #[.int .i64 a, .slice A na ca] 25)).cell? ⟨w2.heap.size, 0, none⟩ = some (.int .i64 a) := by go_simp
  have p1 : (w2.alloc (.cells #[.int .i64 a, .slice A na ca] 25)).cell? ⟨w2.heap.size, 1, none⟩ = some (.slice A na ca) := by go_simp
  generalize hW2 : w2.alloc (.cells #[.int .i64 a, .slice A na ca] 25) = W2 at *
  clear hW2
  refine (of_ok b T n tc bs1 _ hb0 hb Ht.out (by omega) Hdt.out).mono ?_
  rintro e w3 ⟨B, nb, cb, V, vc, ys, rfl, hB, hV, hnb, hb3⟩
  have p0 := cell_later hb3 p0
  have p1 := cell_later hb3 p1
  have p0 := cell_later ((Below.refl _ _).alloc (Nat.le_refl _) (.cells #[.int .i64 b, .slice B nb cb] 25)) p0
  have p1 := cell_later ((Below.refl _ _).alloc (Nat.le_refl _) (.cells #[.int .i64 b, .slice B nb cb] 25)) p1
  have q0 : (w3.alloc (.cells #[.int .i64 b, .slice B nb cb] 25)).cell? ⟨w3.heap.size, 0, none⟩ = some (.int .i64 b) := by go_simp
  have q1 : (w3.alloc (.cells #[.int .i64 b, .slice B nb cb] 25)).cell? ⟨w3.heap.size, 1, none⟩ = some (.slice B nb cb) := by go_simp
  have Hb := hide ((Hb.out.trans (hb3.mono Hb.out.size)).alloc (by have := Hb.out.size; have := hb3.size; omega) (.cells #[.int .i64 b, .slice B nb cb] 25))
  have HA := hide ((HA.out.below hb3).alloc (.cells #[.int .i64 b, .slice B nb cb] 25))
  have HU := hide ((HU.out.below hb3).alloc (.cells #[.int .i64 b, .slice B nb cb] 25))
  have HB := hide (hB.alloc (.cells #[.int .i64 b, .slice B nb cb] 25))
  have HV := hide (hV.alloc (.cells #[.int .i64 b, .slice B nb cb] 25))
  clear hB hV hb3 Ht
  obtain ⟨⟨zf, rf⟩, hP⟩ : ∃ P, jfold a zs ys = P := ⟨_, rfl⟩
  go_wp2_with fail
  generalize hW3 : w3.alloc (.cells #[.int .i64 b, .slice B nb cb] 25) = W3 at *
  clear hW3
  refine (join_any a b A na ca B nb cb zs ys _ HA.out HB.out (by omega) (by omega) zf rf hP).mono ?_
  rintro e w4 ⟨X, xc, L, lc, rfl, hX, hL, hb4⟩
  have HX := hide (hX.alloc (.cells #[.int .i64 a, .slice X zf.length xc] 25))
  have HL := hide (hL.alloc (.cells #[.int .i64 a, .slice X zf.length xc] 25))
  have HU := hide ((HU.out.below hb4).alloc (.cells #[.int .i64 a, .slice X zf.length xc] 25))
  have HB := hide ((HB.out.below hb4).alloc (.cells #[.int .i64 a, .slice X zf.length xc] 25))
  have HV := hide ((HV.out.below hb4).alloc (.cells #[.int .i64 a, .slice X zf.length xc] 25))
  have Hb := hide ((Hb.out.trans (hb4.mono Hb.out.size)).alloc (by have := Hb.out.size; have := hb4.size; omega) (.cells #[.int .i64 a, .slice X zf.length xc] 25))
  have q0 := cell_later ((Below.refl _ _).alloc (Nat.le_refl _) (.cells #[.int .i64 a, .slice X zf.length xc] 25)) (cell_later hb4 q0)
  have q1 := cell_later ((Below.refl _ _).alloc (Nat.le_refl _) (.cells #[.int .i64 a, .slice X zf.length xc] 25)) (cell_later hb4 q1)
  have x0 : (w4.alloc (.cells #[.int .i64 a, .slice X zf.length xc] 25)).cell? ⟨w4.heap.size, 0, none⟩ = some (.int .i64 a) := by go_simp
  have x1 : (w4.alloc (.cells #[.int .i64 a, .slice X zf.length xc] 25)).cell? ⟨w4.heap.size, 1, none⟩ = some (.slice X zf.length xc) := by go_simp
  clear hX hL hb4 HA p0 p1
  have HP := hide hP
  have Hx0 := hide x0
  have Hx1 := hide x1
  have Hq0 := hide q0
  have Hq1 := hide q1
  have hzl := HU.out.intLen
  have hyl := HV.out.intLen
  clear hP q0 q1
  go_wp2_with fail
  generalize hW4 : w4.alloc (.cells #[.int .i64 a, .slice X zf.length xc] 25) = W4 at *
  clear hW4
  go_loopw [10, 17, 70] (fun u v i wr => ∃ (k : Nat) (D : Option Addr) (dc : Nat) (ls r : List Int), k ≤ nb ∧ i = .int .i64 k ∧ u = .slice D ls.length dc ∧ jfold a zs (ys.take k) = (ls, r) ∧
      Rd wr 1 D ls.length dc (u64s ls) ∧ wr.ownsRow W4.heap.size 29 1 v r.length (u64s r) ∧ (u64s ls ≠ [] → ∀ ad, D = some ad → v.ownBlock ≠ some ad.block) ∧ Below W4.heap.size W4 wr) (fun _ _ i _ => nb - (intOf i).toNat)
  case atStart => exact ⟨0, U, uc, zs, [], Nat.zero_le _, rfl, by rw [hzl], rfl, hzl.symm ▸ HU.out, World.ownsRow_nil _ _ _ _, (fun _ _ _ h => by cases h), Below.refl _ _⟩
  case round =>
    obtain ⟨k, D, dc, ls, r, hk, rfl, rfl, hf, hD, ho, hap, hbel⟩ := hrel
    obtain ⟨R, rc, rfl, hR⟩ := own_slice ho
    have hlen := jfold_len a zs ys k
    rw [hf] at hlen
    simp only at hlen
    have HD := hide hD
    have HO := hide ho
    have HAp := hide hap
    have HBel := hide hbel
    have HRr := hide hR
    have Hf := hide hf
    have Hlen := hide hlen
    clear hD ho hap hbel hR hf hlen
    by_cases hlt : k < nb
    · obtain ⟨⟨vb, vo, vsp⟩, rfl⟩ := HV.out.isSome (by omega)
      obtain ⟨y, hy⟩ : ∃ y, ys.getD k 0 = y := ⟨_, rfl⟩
      have hcell : wr.cell? ((⟨vb, vo, vsp⟩ : Addr).add k) = some (.int .u64 y) := by
        rw [← hy]
        exact cell_later HBel.out (HV.out.ints k hlt)
      have hst := jfold_succ a zs ys k (by omega)
      rw [Hf.out, hy] at hst
      have Hst := hide hst
      have hsz := HBel.out.size
      clear hst hy
      by_cases hc : ls.contains y = true ∨ a ≤ (ls.length : Int)
      · have Hc := hide hc
        have hj : jstep a (ls, r) y = (ls, r ++ [y]) := by unfold jstep; rw [if_pos hc]
        rw [hj] at Hst
        clear hc hj
        go_wp2_with fail
        refine (refPut_left a D ls.length dc ls y _ HD.out Hc.out).mono ?_
        rintro e w5 ⟨q, hq, rfl, rfl⟩
        have hrl := Hlen.out
        go_wp2_with ((at_builtin
                      refine wpList_append_rd _ rfl (.tmp 85) (.tmp 87) 22 rfl W4.heap.size 29 i0 _ 1 8 Try.underlying22 hi0 hz0 hz1 hz2 rfl (by omega) (.slice R r.length rc) r.length (u64s r) rfl (HO.out.alloc _) _ 1 1 [.int .u64 y] rfl (rd_new' _ _ _ _ (by simp)) (u64s_one [y]) (by simp only [maxLen]; omega) (by omega) (by simp; omega) ?_
                      intro v2 w2 hown2 hg2 hat2
                      have HB2 := hide ((HBel.out.alloc HBel.out.size _).grown hg2 (by have := HBel.out.size; simp; omega) (fun k e => (HO.out.lt k e).1))
                      have HD2 := hide ((HD.out.alloc _).grown hg2 HAp.out)
                      have HA2 : Hid (u64s ls ≠ [] → ∀ ad, D = some ad → v2.ownBlock ≠ some ad.block) := hide (fun hne ad e h => by
                        rcases hat2 with h2 | h2
                        · exact HAp.out hne ad e (h2 ▸ h)
                        · rw [h2] at h
                          have h3 := HD.out.lt hne e
                          injection h with h
                          simp at h h3
                          omega)
                      have HO2 := hide (snoc_u64s r y ▸ hown2)
                      clear hown2 hg2 hat2))
        go_roundw
        case rel => exact ⟨k + 1, D, dc, ls, r ++ [y], by omega, by go_num, rfl, Hst.out, HD2.out, by rw [List.length_append]; exact HO2.out, HA2.out, HB2.out⟩
        case measure => simp [intOf]; omega
      · have hj : jstep a (ls, r) y = (ls ++ [y], r) := by unfold jstep; rw [if_neg hc]
        have Hc1 := hide (show ls.contains y = false from by cases h : ls.contains y with
          | false => rfl
          | true => exact absurd (.inl h) hc)
        have Hc2 := hide (show (ls.length : Int) < a from by
          have : ¬ a ≤ (ls.length : Int) := fun h => hc (.inr h)
          omega)
        rw [hj] at Hst
        clear hc hj
        go_wp2_with fail
        refine (refPut_ok a D ls.length dc ls y _ HD.out (by have := Hlen.out; omega) Hc1.out Hc2.out).mono ?_
        rintro e w5 ⟨D5, dc5, rfl, hr5, hf5, hb5⟩
        have HD5 := hide hr5
        have HF5 := hide hf5
        have HO5 := hide (own_below HO.out hb5 (Nat.le_refl _))
        have HB5 := hide (HBel.out.trans (hb5.mono HBel.out.size))
        clear hr5 hf5 hb5
        go_wp2_with fail
        go_roundw
        case rel => exact ⟨k + 1, D5, dc5, ls ++ [y], r, by omega, by go_num, by simp, Hst.out, by rw [List.length_append]; exact HD5.out, HO5.out, fun _ ad e h => by have := HF5.out ad e; have := (HO.out.lt _ h).2; omega, HB5.out⟩
        case measure => simp [intOf]; omega
    · obtain rfl : k = nb := by omega
      have hfin : (ls, r) = (zf, rf) := by rw [← Hf.out, ← HP.out, List.take_of_length_le (by omega)]
      injection hfin with e1 e2
      subst e1 e2
      have x0 := cell_later HBel.out Hx0.out
      have x1 := cell_later HBel.out Hx1.out
      go_wp2_with fail
      have hzb := Hlen.out
      refine (all_any a X _ xc ls _ (HX.out.below HBel.out) (by omega)).mono ?_
      rintro e w6 ⟨A6, c6, rfl, ho6, hb6⟩
      have H6 := hide (Rd.of_own ho6)
      have HD6 := hide (HD.out.below hb6)
      have HR6 := hide (HRr.out.below hb6)
      have HL6 := hide ((HL.out.below HBel.out).below hb6)
      have HB6 := hide ((HB.out.below HBel.out).below hb6)
      have HV6 := hide ((HV.out.below HBel.out).below hb6)
      have Hq60 := hide (cell_later hb6 (cell_later HBel.out Hq0.out))
      have Hq61 := hide (cell_later hb6 (cell_later HBel.out Hq1.out))
      have Hbel6 := hide ((Hb.out.trans (HBel.out.mono Hb.out.size)).trans (hb6.mono (Nat.le_trans Hb.out.size HBel.out.size)))
      clear ho6 hb6 x0 x1
      go_wp2_with fail
      refine (equal_same _ _ _ _ _ _ _ _ H6.out HD6.out).mono ?_
      rintro e w7 ⟨rfl, q7, rfl⟩
      go_wp2_with fail
      refine (equal_same _ _ _ _ _ _ _ _ (HL6.out.drewN q7) (HR6.out.drewN q7)).mono ?_
      rintro e w8 ⟨rfl, q8, rfl⟩
      have y0 : w6.cell? ⟨w3.heap.size, 0, none⟩ = some (.int .i64 b) := Hq60.out
      have y1 : w6.cell? ⟨w3.heap.size, 1, none⟩ = some (.slice B k cb) := Hq61.out
      go_wp2_with fail
      refine (all_any b B k cb ys _ (HB6.out.drewN (q7 + q8)) (by omega)).mono ?_
      rintro e w9 ⟨A9, c9, rfl, ho9, hb9⟩
      have H9 := hide (Rd.of_own ho9)
      have HV9 := hide ((HV6.out.drewN (q7 + q8)).below hb9)
      have Hbel9 := hide ((Hbel6.out.trans (below_drewN _ _ (q7 + q8))).trans (hb9.mono (by simpa using Hbel6.out.size)))
      clear ho9 hb9 y0 y1
      go_wp2_with fail
      refine (equal_same _ _ _ _ _ _ _ _ H9.out HV9.out).mono ?_
      rintro e w10 ⟨rfl, q10, rfl⟩
      go_wp2_with fail
      go_ret
      exact ⟨rfl, Hbel9.out.trans (below_drewN _ _ _)⟩

theorem joins_any (S T : Option Addr) (m sc n tc : Nat) (a b : Int) (as1 bs1 : List (Int × Int)) (w : World) (hs : Rd w 2 S m sc (actCells as1)) (ht : Rd w 2 T n tc (actCells bs1))
    (ha0 : 0 ≤ a) (hb0 : 0 ≤ b) (hds : ∀ k, 0 ≤ (as1.getD k (0, 0)).1 ∧ (as1.getD k (0, 0)).1 ≤ 255) (hdt : ∀ k, 0 ≤ (bs1.getD k (0, 0)).1 ∧ (bs1.getD k (0, 0)).1 ≤ 255) :
    Calls Try.prog 5 #[.slice S m sc, .slice T n tc, .int .u8 a, .int .u8 b] w fun e w' => e = .returned (.bool true) ∧ Below w.heap.size w w' := by
  by_cases h : 60 < m ∨ 60 < n ∨ 64 < a ∨ 64 < b
  · exact joins_long S T m sc n tc a b w h
  · exact joins_short S T m sc n tc a b as1 bs1 w hs ht (by omega) (by omega) ha0 (by omega) hb0 (by omega) hds hdt
end Go.Proofs.Ytghmjfinmbgjiaa
