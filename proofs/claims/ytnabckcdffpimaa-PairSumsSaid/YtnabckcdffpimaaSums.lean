/-
  PairSums: the sum of any pairs, one behind the other: the walk. Conditions: the numbers can be read.
-/
import Derived.Test.YtnabckcdffpimaaPair3
import Derived.Test.YtnabckcdffpimaaOwn
import Derived.Deep.RegionHeld3
namespace Go.Proofs.Ytnabckcdffpimaa
open Go.RowKit Ieee

/-- The cells of numbers, two by two. -/
abbrev numCells (l : List PN) : List Value := l.flatMap fun p => [Value.int .i64 p.1, Value.int .i64 p.2]
theorem num_len (l : List PN) : (numCells l).length = l.length * 2 := by
  induction l with
  | nil => rfl
  | cons a l ih => simp [numCells, List.flatMap_cons] at ih ⊢
                   omega
theorem num_at (l : List PN) (k : Nat) (a : PN) (hk : l[k]? = some a) : (numCells l)[k * 2]? = some (.int .i64 a.1) ∧ (numCells l)[k * 2 + 1]? = some (.int .i64 a.2) := by
  induction l generalizing k with
  | nil => simp at hk
  | cons b l ih =>
    cases k with
    | zero => simp at hk; subst hk; simp [numCells, List.flatMap_cons]
    | succ k =>
      have h := ih k (by simpa using hk)
      rw [show (k + 1) * 2 = (k * 2) + 1 + 1 by omega]
      simpa [numCells, List.flatMap_cons] using h
theorem Rd.num {w : World} {n c : Nat} {l : List PN} {b o : Nat} {sp : Option Nat} (h : Rd w 2 (some ⟨b, o, sp⟩) n c (numCells l)) (k : Nat) (a : PN) (hk : l[k]? = some a) :
    sp = none ∧ w.cell? ⟨b, o + k * 2, none⟩ = some (.int .i64 a.1) ∧ w.cell? ⟨b, o + k * 2 + 1, none⟩ = some (.int .i64 a.2) := by
  have hsp : sp = none := h.spot (fun e => by
    have h1 := num_len l
    rw [e] at h1
    have := (List.getElem?_eq_some_iff.1 hk).1
    simp at h1
    omega)
  subst hsp
  obtain ⟨g0, g1⟩ := num_at l k a hk
  have h0 := h.cell _ rfl _ _ g0
  have h1 := h.cell _ rfl _ _ g1
  rw [Addr.add_lit] at h0 h1
  exact ⟨rfl, h0, h1⟩

abbrev holdP (p : PN) : PN := (hold p.1, hold p.2)
theorem Try.info26 : (Try.prog.info? 26).map (fun i => (i.zero, i.size, i.bytes)) = some (some (.complex .f64 0 0), 1, 16) := by kernel_rfl

set_option maxRecDepth 100000 in
set_option maxHeartbeats 8000000 in
theorem sums_short (S : Option Addr) (n sc : Nat) (l : List PN) (w : World) (hs : Rd w 2 S n sc (numCells l)) (hn : n ≤ 50) :
    Calls Try.prog 3 #[.slice S n sc] w fun e w' => e = .returned (.bool true) ∧ Below w.heap.size w w' := by
  obtain ⟨i0, hi0, hz0, hz1, hz2⟩ := info_parts Try.info26
  have hl : l.length = n := by have := hs.len; rw [num_len] at this; omega
  have Hs := hide hs
  have Hl := hide hl
  clear hs hl
  go_enter Try.func3, Try.ntmps3
  go_wp2_with fail
  refine (awake_any _).mono ?_
  rintro e w1 ⟨rfl, rfl⟩
  go_wp2_with fail
  go_loopw [3, 4, 5, 17] (fun v x y i wr => ∃ (k : Nat) (a b : Int), k ≤ n ∧ i = .int .i64 k ∧ x = .int .i64 a ∧ y = .int .i64 b ∧ sumP ((l.take k).map holdP) = (a, b) ∧
      wr.ownsRow w.heap.size 26 1 v k (pvs ((l.take k).map holdP)) ∧ Below w.heap.size w wr) (fun _ _ _ i _ => n - (intOf i).toNat)
  case atStart => exact ⟨0, 0, 0, Nat.zero_le _, rfl, rfl, rfl, rfl, World.ownsRow_nil _ _ _ _, Below.refl _ _⟩
  case round =>
    obtain ⟨k, a, b, hk, rfl, rfl, rfl, hab, ho, hbel⟩ := hrel
    have hok : okP (a, b) := hab ▸ sumP_ok ((l.take k).map holdP) (0, 0) ⟨by decide, by decide⟩
    obtain ⟨V, vc, rfl, hV⟩ := own_slice ho
    have HO := hide ho
    have HV := hide hV
    have HB := hide hbel
    have Hok := hide hok
    have Hab := hide hab
    clear ho hV hok hab
    by_cases hlt : k < n
    · obtain ⟨⟨sb, so, sp⟩, rfl⟩ := Hs.out.isSome (by omega)
      have hkl : k < l.length := by rw [Hl.out]; exact hlt
      obtain ⟨⟨x, y⟩, hx⟩ : ∃ p, l[k]? = some p := ⟨l[k], by simp [hkl]⟩
      obtain ⟨rfl, q0, q1⟩ := Hs.out.num k _ hx
      simp only at q0 q1
      have q0 := cell_later hbel q0
      have q1 := cell_later hbel q1
      have htk : (l.take (k + 1)).map holdP = (l.take k).map holdP ++ [(hold x, hold y)] := by
        rw [List.take_succ_eq_append_getElem hkl, List.map_append]
        rw [List.getElem?_eq_getElem hkl] at hx
        injection hx with hx
        rw [hx]
        rfl
      have hsum : sumP ((l.take (k + 1)).map holdP) = (hold (a + hold x), hold (b + hold y)) := by
        rw [htk]
        unfold sumP
        rw [List.foldl_append]
        have := Hab.out
        unfold sumP at this
        rw [this]
        rfl
      have hw1 : IntKind.i64.wrap (a + hold x) = a + hold x := by have := Hok.out.1; have := hold_le x; rw [IntKind.wrap_i64]; omega
      have hw2 : IntKind.i64.wrap (b + hold y) = b + hold y := by have := Hok.out.2; have := hold_le y; rw [IntKind.wrap_i64]; omega
      have Htk := hide htk
      have Hsum := hide hsum
      have hsz := hbel.size
      clear htk hsum hx hkl hbel
      go_wp2_with fail
      have b0 : (wr.alloc (.cells #[.int .i64 x, .int .i64 y] 25)).cell? ⟨wr.heap.size, 0, none⟩ = some (.int .i64 x) := by go_simp
      have b1 : (wr.alloc (.cells #[.int .i64 x, .int .i64 y] 25)).cell? ⟨wr.heap.size, 1, none⟩ = some (.int .i64 y) := by go_simp
      have HO1 := hide (HO.out.alloc (.cells #[.int .i64 x, .int .i64 y] 25))
      have HB1 := hide (HB.out.alloc HB.out.size (.cells #[.int .i64 x, .int .i64 y] 25))
      clear q0 q1
      have hk50 : k < 50 := by omega
      have Hg := hide (show wr.heap.size < (wr.alloc (.cells #[.int .i64 x, .int .i64 y] 25)).heap.size by simp)
      generalize hW : wr.alloc (.cells #[.int .i64 x, .int .i64 y] 25) = W at *
      generalize hg : wr.heap.size = g at *
      have HO0 := HO
      clear hW HO HB HV
      go_region_held3 (fun w' => w'.cell? ⟨g, 0, none⟩ = some (.int .i64 x) ∧ w'.cell? ⟨g, 1, none⟩ = some (.int .i64 y)) (go_keep)
        (first
          | (go_at_call 10
             (with_reducible refine (hold_any _ _).mono ?_)
             rintro e w5 ⟨rfl, rfl⟩)
          | (go_at_call 9
             (with_reducible refine (of_any _ _ _ (hold_le _) (hold_le _)).mono ?_)
             rintro e w5 ⟨rfl, rfl⟩)
          | fail)
      have b0 : W.drew.cell? ⟨g, 0, none⟩ = some (.int .i64 x) := b0
      have b1 : W.drew.cell? ⟨g, 1, none⟩ = some (.int .i64 y) := b1
      have Hne := hide (show (Value.slice V k vc).ownBlock ≠ some g from fun e => by have := (HO0.out.lt _ e).2; omega)
      have HO1 := hide (own_below HO1.out (below_drew _ W) (Nat.le_refl _))
      have HB1 := hide (HB1.out.trans (below_drew _ W))
      generalize hWd : W.drew = Wd at *
      clear hWd Hg HO0
      have Hsz := hide (show w.heap.size ≤ Wd.heap.size from HB1.out.size)
      go_wp2_with ((at_builtin
                    refine wpList_append_rd _ rfl (.tmp 33) (.tmp 35) 24 rfl w.heap.size 26 i0 _ 1 16 Try.underlying24 hi0 hz0 hz1 hz2 rfl (by omega) (.slice V k vc) k (pvs ((l.take k).map holdP)) rfl (HO1.out.alloc _) _ 1 1 (pvs [(hold x, hold y)]) rfl (rd_new' _ _ _ _ (by simp)) (pvs_one _) (by simp only [maxLen]; omega) (by omega) (by have := Hsz.out; simp; omega) ?_
                    intro v2 w2 hown2 hg2 hat2
                    have HB2 := hide ((HB1.out.alloc HB1.out.size _).grown hg2 (by have := Hsz.out; simp; omega) (fun k e => (HO1.out.lt k e).1))
                    have b0 : w2.cell? ⟨g, 0, none⟩ = some (.int .i64 x) := hg2.cell (cell_later ((Below.refl _ _).alloc (Nat.le_refl _) _) b0) (fun e => Hne.out e.symm)
                    have b1 : w2.cell? ⟨g, 1, none⟩ = some (.int .i64 y) := hg2.cell (cell_later ((Below.refl _ _).alloc (Nat.le_refl _) _) b1) (fun e => Hne.out e.symm)
                    have HO2 := hide hown2
                    clear hown2 hg2 hat2))
      go_region_held3 (fun w' => w'.cell? ⟨g, 0, none⟩ = some (.int .i64 x) ∧ w'.cell? ⟨g, 1, none⟩ = some (.int .i64 y)) (go_keep)
        (first
          | (go_at_call 10
             (with_reducible refine (hold_any _ _).mono ?_)
             rintro e w5 ⟨rfl, rfl⟩)
          | fail)
      obtain ⟨V2, c2, rfl, _⟩ := own_slice HO2.out
      go_wp2_with fail
      go_roundw
      case rel => exact ⟨k + 1, _, _, by omega, by go_num, rfl, rfl, by first | exact Hsum.out | (rw [hw1, hw2]; exact Hsum.out), by rw [Htk.out]; simpa [pvs, List.map_append] using own_below HO2.out (below_drew _ _) (Nat.le_refl _), HB2.out.trans (below_drew _ _)⟩
      case measure => simp [intOf]; omega
    · obtain rfl : k = n := by omega
      clear hlt hk
      go_wp2_with fail
      refine (sum_any V k vc _ _ HV.out (fun p hp => by
        obtain ⟨r, _, rfl⟩ := List.mem_map.1 hp
        exact ⟨hold_le _, hold_le _⟩)).mono ?_
      rintro e w2 ⟨rfl, rfl⟩
      rw [Hab.out]
      simp only
      go_wp2_with fail
      refine (is_any a b _ Hok.out.1 Hok.out.2).mono ?_
      rintro e w3 ⟨rfl, rfl⟩
      go_wp2_with fail
      go_ret
      exact ⟨rfl, HB.out⟩
end Go.Proofs.Ytnabckcdffpimaa
