/-
  PipeRoom: of more than 64 that are sent the last 64 are on their way; those for one that are cleared are gone: the walk. Conditions: the texts can be read.
-/
import Derived.Test.YtoocklaoedcbjaaIs
import Derived.SliceStrings
namespace Go.Proofs.Ytoocklaoedcbjaa
open Go.RowKit

/-- A pipe in the variable whose block is g. -/
structure PB (w : World) (g : Nat) (A : Option Addr) (n c : Nat) (l : List Item) : Prop where
  c0 : w.cell? ⟨g, 0, none⟩ = some (.slice A n c)
  f0 : w.frozen? ⟨g, 0, none⟩ = false
  rd : Rd w 2 A n c (itemCells l)
  far : ∀ ad, A = some ad → g < ad.block

section
variable {w w' : World} {g : Nat} {A : Option Addr} {n c : Nat} {l : List Item}
theorem PB.lt (h : PB w g A n c l) : g < w.heap.size := World.block_lt_of_cell? w _ h.c0
theorem PB.grown (h : PB w g A n c l) {row : Option Nat} (hg : w.grownBy w' row) (hrow : ∀ k, row = some k → g < k) (hne : itemCells l ≠ [] → ∀ ad, A = some ad → row ≠ some ad.block) : PB w' g A n c l := by
  have hb : w'.heap[g]? = w.heap[g]? := hg.block g h.lt (fun e => by have := hrow g e.symm; omega)
  exact ⟨(World.cell?_of_block hb).trans h.c0, (World.frozen?_of_block hb).trans h.f0, h.rd.grown hg hne, h.far⟩
theorem grown_of_below (h : Below w.heap.size w w') : w.grownBy w' none := ⟨h.os, h.tape, h.output, h.size, fun k hk _ => h.block k hk⟩
theorem PB.step (h : PB w g A n c l) (hb : Below w.heap.size w w') : PB w' g A n c l := h.grown (grown_of_below hb) (by simp) (by simp)
theorem PB.alloc (h : PB w g A n c l) (o : Obj) : PB (w.alloc o) g A n c l := h.step ((Below.refl _ _).alloc (Nat.le_refl _) o)
theorem PB.store (h : PB w g A n c l) {A' : Option Addr} {n' c' : Nat} {l' : List Item} (hr : Rd w 2 A' n' c' (itemCells l')) (hf : ∀ ad, A' = some ad → g < ad.block) :
    PB (w.setCell ⟨g, 0, none⟩ (.slice A' n' c')) g A' n' c' l' := by
  have h0 := h.c0
  have h2 := h.f0
  refine ⟨by simp [go_sem, h0], by simp [go_sem, h2], hr.setCell (p := ⟨g, 0, none⟩) _ ?_, hf⟩
  intro _ ad e
  have := hf ad e
  simp only
  omega
end

abbrev texts (l : List ByteArray) : List Value := l.map Value.string
/-- Each text with whom it is for. -/
def tagged (l : List ByteArray) : List Item := l.zipIdx.map fun q => (((q.2 : Nat) : Int) % 3, q.1)
theorem tagged_len (l : List ByteArray) : (tagged l).length = l.length := by simp [tagged]
theorem tagged_at (l : List ByteArray) (k : Nat) (s : ByteArray) (h : l[k]? = some s) : (tagged l)[k]? = some ((k : Int) % 3, s) := by
  simp [tagged, h]
/-- The last 64 of the first k. -/
def lastOf (T : List Item) (k : Nat) : List Item := (T.take k).drop (k - 64)
theorem lastOf_len (T : List Item) (k : Nat) (hk : k ≤ T.length) : (lastOf T k).length = k - (k - 64) := by
  unfold lastOf
  rw [List.length_drop, List.length_take, Nat.min_eq_left hk]
theorem lastOf_succ (T : List Item) (k : Nat) (x : Item) (h : T[k]? = some x) : sendL (lastOf T k) x = lastOf T (k + 1) := by
  have hk := (List.getElem?_eq_some_iff.1 h).1
  have hx := (List.getElem?_eq_some_iff.1 h).2
  have hl := lastOf_len T k (by omega)
  have e1 : lastOf T k ++ [x] = (T.take (k + 1)).drop (k - 64) := by
    unfold lastOf
    rw [List.take_succ_eq_append_getElem hk, hx]
    exact (List.drop_append_of_le_length (by rw [List.length_take]; omega)).symm
  have e2 : k - 64 + (k - (k - 64) + 1 - 64) = k + 1 - 64 := by omega
  unfold sendL
  rw [hl, e1, List.drop_drop, e2]
  rfl
theorem lastOf_at (T : List Item) (k j : Nat) (hk : k = T.length) : (lastOf T k)[j]? = T[k - 64 + j]? := by
  unfold lastOf
  rw [hk, List.take_length, List.getElem?_drop]
theorem kept_at (l : List Item) (to : Int) (j : Nat) (x : Item) (hx : l[j]? = some x) (h : (x.1 == to) = false) : (l.filter (notTo to))[(kept l to j).length]? = some x := by
  have h1 := kept_succ l to j x hx
  rw [if_neg (by simp [h])] at h1
  have h2 : l.filter (notTo to) = kept l to (j + 1) ++ (l.drop (j + 1)).filter (notTo to) := by
    unfold kept
    rw [← List.filter_append, List.take_append_drop]
  rw [h2, h1, List.append_assoc, List.getElem?_append_right (Nat.le_refl _)]
  simp

theorem Rd.text {w : World} {A : Option Addr} {n c : Nat} {l : List ByteArray} {ad : Addr} (h : Rd w 1 A n c (texts l)) (e : A = some ad) (j : Nat) (s : ByteArray) (hs : l[j]? = some s) : w.cell? (ad.add j) = some (.string s) :=
  h.cell ad e j _ (by simp [hs])

set_option maxRecDepth 100000 in
set_option maxHeartbeats 4000000 in
theorem room_short (A0 : Option Addr) (n c : Nat) (l : List ByteArray) (d : Int) (w : World) (hr : Rd w 1 A0 n c (texts l)) (hn : n ≤ 100) (hd0 : 0 ≤ d) (hd1 : d ≤ 255) :
    Calls Try.prog 3 #[.slice A0 n c, .int .u8 d] w fun e w' => e = .returned (.bool true) ∧ Below w.heap.size w w' := by
  have hl : l.length = n := by have := hr.len; simpa using this
  have Hr := hide hr
  have Hl := hide hl
  clear hr hl
  go_enter Try.func3, Try.ntmps3
  go_wp2_with fail
  refine (awake_any _).mono ?_
  rintro e w1 ⟨rfl, hb1⟩
  have hq : PB (w1.alloc (.cells #[.slice none 0 0] 26)) w1.heap.size none 0 0 [] := ⟨by go_simp, by go_simp, Rd.nil_ _ _, fun ad h => by cases h⟩
  have hB : Below w.heap.size w (w1.alloc (.cells #[.slice none 0 0] 26)) := hb1.alloc hb1.size _
  have hgN : w.heap.size ≤ w1.heap.size := hb1.size
  have Hq := hide hq
  have HB := hide hB
  clear hq hB hb1
  go_wp2_with fail
  generalize hW : w1.alloc (.cells #[.slice none 0 0] 26) = W at *
  generalize hg : w1.heap.size = g at *
  clear hW hg w1
  go_loopw [21] (fun i wr => ∃ (k : Nat) (A : Option Addr) (c' : Nat), k ≤ n ∧ i = .int .i64 k ∧ PB wr g A (lastOf (tagged l) k).length c' (lastOf (tagged l) k) ∧ Below w.heap.size w wr) (fun i _ => n - (intOf i).toNat)
  case atStart => exact ⟨0, none, 0, Nat.zero_le _, rfl, Hq.out, HB.out⟩
  case round =>
    clear Hq HB
    obtain ⟨k, A, c', hk, rfl, hP, hbel⟩ := hrel
    obtain ⟨L, hL⟩ : ∃ L, lastOf (tagged l) k = L := ⟨_, rfl⟩
    have hll := lastOf_len (tagged l) k (by rw [tagged_len, Hl.out]; exact hk)
    rw [hL] at hP hll
    have HL := hide hL
    have HP := hide hP
    have Hbel := hide hbel
    clear hL hP hbel
    have p0 := HP.out.c0
    have p1 := HP.out.f0
    by_cases hlt : k < n
    · have hL64 : L.length ≤ 64 := by omega
      have Hll := hide hll
      clear hll
      obtain ⟨ad, rfl⟩ := Hr.out.isSome (by omega)
      have hkl : k < l.length := by rw [Hl.out]; exact hlt
      obtain ⟨s, hs⟩ : ∃ s, l[k]? = some s := ⟨l[k], by simp [hkl]⟩
      have hcx : wr.cell? (ad.add k) = some (.string s) := cell_later Hbel.out (Hr.out.text rfl k s hs)
      have Hsnd := hide (HL.out ▸ lastOf_succ (tagged l) k _ (tagged_at l k s hs))
      clear hs hkl
      go_wp2_with fail
      refine (send_any A _ c' L _ ((k : Int) % 3) s _ HP.out.rd hL64 Hsnd.out).mono ?_
      rintro e w2 ⟨A2, c2, rfl, hr2, hf2, hb2⟩
      have HP2 := hide (HP.out.step hb2)
      have Hr2 := hide hr2
      have Hf2 := hide (show ∀ ad, A2 = some ad → g < ad.block from fun ad e => by have := hf2 ad e; have := HP.out.lt; omega)
      have Hb2 := hide (Hbel.out.trans (hb2.mono Hbel.out.size))
      clear hr2 hf2 hb2 p0 p1 hcx
      have p0 := HP2.out.c0
      have p1 := HP2.out.f0
      go_wp2_with fail
      go_roundw
      case rel => exact ⟨k + 1, A2, c2, by omega, by go_num, HP2.out.store Hr2.out Hf2.out, Hb2.out.setCell (p := ⟨g, 0, none⟩) hgN _⟩
      case measure => simp [intOf]; omega
    · obtain rfl : k = n := by omega
      clear hk hlt
      obtain ⟨LF, hLF⟩ : ∃ LF, L.filter (notTo (d % 3)) = LF := ⟨_, rfl⟩
      have HLF := hide hLF
      have hlf : LF.length ≤ L.length := by rw [← hLF]; exact List.length_filter_le _ _
      clear hLF
      by_cases h64 : 64 ≤ k
      · obtain ⟨kk, rfl⟩ : ∃ kk, k = kk + 64 := ⟨k - 64, by omega⟩
        have hll' : L.length = 64 := by omega
        clear hll
        have hz : ((kk : Int) + 64 - (kk : Int)) = 64 := by omega
        have HP64 : Hid (PB wr g A 64 c' L) := hide (by have := HP.out; rwa [hll'] at this)
        rw [hll'] at p0
        clear HP
        have HP := HP64
        clear HP64
        have Hll := hide hll'
        have hlf64 : LF.length ≤ 64 := by omega
        clear hll' hlf
        go_wp2_with fail
        refine (all_any A _ c' L _ HP.out.rd (by omega)).mono ?_
        rintro e w2 ⟨A1, c1, rfl, ho1, hb1⟩
        have HP2 := hide (HP.out.step hb1)
        have Hr1 := hide (Rd.of_own ho1)
        have Hb1 := hide (Hbel.out.trans (hb1.mono Hbel.out.size))
        clear ho1 hb1 p0 p1
        have p0 := HP2.out.c0
        go_wp2_with fail
        refine (clear_any A _ c' L LF (d % 3) _ HP2.out.rd (by omega) HLF.out).mono ?_
        rintro e w3 ⟨A2, c2, rfl, hr2, _, hb2⟩
        have Hr3 := hide (Hr1.out.below hb2)
        have Hr4 := hide hr2
        have Hb3 := hide (Hb1.out.trans (hb2.mono Hb1.out.size))
        clear hr2 hb2 p0
        go_wp2_with fail
        refine (all_any A2 _ c2 LF _ Hr4.out (by omega)).mono ?_
        rintro e w4 ⟨A3, c3, rfl, ho3, hb4⟩
        have Hr5 := hide (Hr3.out.below hb4)
        have Hr6 := hide (Rd.of_own ho3)
        have Hb4 := hide (Hb3.out.trans (hb4.mono Hb3.out.size))
        clear ho3 hb4 Hr3 Hr4 Hb3 Hr1 Hb1 HP2 HP
        go_wp2_with fail
        obtain ⟨wo, ewo⟩ : ∃ wo : World, wo = wr := ⟨_, rfl⟩
        subst ewo
        go_loopw [10, 54] (fun q i wx => ∃ j : Nat, j ≤ 64 ∧ i = .int .i64 j ∧ q = .int .i64 (kept L (d % 3) j).length ∧ Below w4.heap.size w4 wx) (fun _ i _ => 64 - (intOf i).toNat)
        case atStart => exact ⟨0, Nat.zero_le _, rfl, rfl, Below.refl _ _⟩
        case round =>
          obtain ⟨j, hj, rfl, rfl, hbx⟩ := hrel
          have hkf : (kept L (d % 3) j).length ≤ LF.length := by
            rw [← HLF.out]
            exact ((List.take_sublist j L).filter _).length_le
          obtain ⟨q, hq⟩ : ∃ q, (kept L (d % 3) j).length = q := ⟨_, rfl⟩
          rw [hq] at hkf
          rw [hq]
          have Hq := hide hq
          have Hbx := hide hbx
          clear hq hbx
          by_cases hlt : j < 64
          · obtain ⟨ad, rfl⟩ := Hr.out.isSome (by omega)
            obtain ⟨⟨ab, ao, asp⟩, rfl⟩ := Hr5.out.isSome (by omega)
            obtain ⟨x, hx⟩ : ∃ x, L[j]? = some x := ⟨L[j]'(by have := Hll.out; omega), by simp⟩
            obtain ⟨rfl, x0, x1⟩ := Hr5.out.items j x hx
            have hTx : (tagged l)[kk + j]? = some x := by
              have h := lastOf_at (tagged l) _ j (by rw [tagged_len, Hl.out] : (kk + 64) = (tagged l).length)
              rw [HL.out, hx] at h
              rw [show kk + j = (kk + 64) - 64 + j by omega]
              exact h.symm
            have hlj : kk + j < l.length := by have := (List.getElem?_eq_some_iff.1 hTx).1; rwa [tagged_len] at this
            obtain ⟨s, hs⟩ : ∃ s, l[kk + j]? = some s := ⟨l[kk + j], by simp [hlj]⟩
            obtain rfl : x = (((kk + j : Nat) : Int) % 3, s) := by
              have h := tagged_at l _ s hs
              rw [hTx] at h
              injection h
            have hlt2 : kk + j < (kk + 64) := by rw [Hl.out] at hlj; exact hlj
            have hcx := cell_later Hbx.out (cell_later Hb4.out (Hr.out.text rfl _ s hs))
            have x0 := cell_later Hbx.out x0
            have x1 := cell_later Hbx.out x1
            simp only at x0 x1
            obtain ⟨ob, hob⟩ : ∃ ob : Obj, ob = .cells #[.int .u64 (((kk : Int) + (j : Int)) % 3), .string s] 32 := ⟨_, rfl⟩
            have hal : Below wr.heap.size wr (wr.alloc ob) := (Below.refl _ _).alloc (Nat.le_refl _) _
            have hcx2 := cell_later hal hcx
            have Hal := hide hal
            rw [hob] at hcx2
            clear hal
            have hidx : (kk : Int) + (j : Int) < (kk : Int) + 64 := by omega
            have hx' := hx
            have Hx := hide hx
            clear hx hTx hs hlj hcx hx'
            cases he : (((kk + j : Nat) : Int) % 3 == d % 3) with
            | true =>
              have he2 : ((((kk : Int) + (j : Int)) % 3) != d % 3) = false := by
                have := eq_of_beq he
                simp only [bne, Bool.not_eq_false', beq_iff_eq]
                omega
              have hks : (kept L (d % 3) (j + 1)).length = q := by
                rw [kept_succ L _ j _ Hx.out, if_pos he, List.append_nil, Hq.out]
              have Hks := hide hks
              clear he hks
              go_wp2_with fail
              go_quiet (fail)
              go_wp2_with fail
              go_roundw
              case rel => exact ⟨j + 1, by omega, by go_num, by rw [Hks.out], (Hbx.out.alloc Hbx.out.size _).trans (below_drewN _ _ _)⟩
              case measure => simp [intOf]; omega
            | false =>
              have hk2 := kept_at L (d % 3) j _ Hx.out he
              rw [Hq.out, HLF.out] at hk2
              have hqL : q < LF.length := (List.getElem?_eq_some_iff.1 hk2).1
              obtain ⟨⟨ab3, ao3, asp3⟩, rfl⟩ := Hr6.out.isSome (by omega)
              obtain ⟨rfl, y0, y1⟩ := Hr6.out.items q _ hk2
              have y0 := cell_later Hbx.out y0
              have y1 := cell_later Hbx.out y1
              simp only at y0 y1
              have yy0 := cell_later Hal.out y0
              have yy1 := cell_later Hal.out y1
              rw [hob] at yy0 yy1
              have he2 : ((((kk : Int) + (j : Int)) % 3) != d % 3) = true := by
                have := ne_of_beq_false he
                simp only [bne, Bool.not_eq_true', beq_eq_false_iff_ne]
                omega
              have hks : (kept L (d % 3) (j + 1)).length = q + 1 := by
                rw [kept_succ L _ j _ Hx.out, if_neg (fun h => by rw [he] at h; cases h)]
                rw [List.length_append, Hq.out]
                rfl
              have Hks := hide hks
              clear he hks hk2
              go_wp2_with fail
              go_quiet (fail)
              go_wp2_with fail
              go_quiet (fail)
              go_wp2_with fail
              go_roundw
              case rel => exact ⟨j + 1, by omega, by go_num, by rw [Hks.out]; go_num, (Hbx.out.alloc Hbx.out.size _).trans (below_drewN _ _ _)⟩
              case measure => simp [intOf]; omega
          · obtain rfl : j = 64 := by omega
            clear hlt hj
            have hqf : q = LF.length := by
              rw [← Hq.out, ← HLF.out]
              unfold kept
              rw [List.take_of_length_le (by rw [Hll.out]; omega)]
            subst hqf
            go_wp2_with fail
            go_ret
            exact ⟨rfl, Hb4.out.trans (Hbx.out.mono Hb4.out.size)⟩
      · have hll' : L.length = k := by omega
        have hk0 : ¬ ((k : Int) - 64 > 0) := by omega
        clear hll
        have hz : ((k : Int) - 0) = (k : Int) := by omega
        have HP64 : Hid (PB wr g A k c' L) := hide (by have := HP.out; rwa [hll'] at this)
        rw [hll'] at p0
        clear HP
        have HP := HP64
        clear HP64
        have Hll := hide hll'
        have hlf64 : LF.length ≤ 64 := by omega
        clear hll' hlf
        go_wp2_with fail
        refine (all_any A _ c' L _ HP.out.rd (by omega)).mono ?_
        rintro e w2 ⟨A1, c1, rfl, ho1, hb1⟩
        have HP2 := hide (HP.out.step hb1)
        have Hr1 := hide (Rd.of_own ho1)
        have Hb1 := hide (Hbel.out.trans (hb1.mono Hbel.out.size))
        clear ho1 hb1 p0 p1
        have p0 := HP2.out.c0
        go_wp2_with fail
        refine (clear_any A _ c' L LF (d % 3) _ HP2.out.rd (by omega) HLF.out).mono ?_
        rintro e w3 ⟨A2, c2, rfl, hr2, _, hb2⟩
        have Hr3 := hide (Hr1.out.below hb2)
        have Hr4 := hide hr2
        have Hb3 := hide (Hb1.out.trans (hb2.mono Hb1.out.size))
        clear hr2 hb2 p0
        go_wp2_with fail
        refine (all_any A2 _ c2 LF _ Hr4.out (by omega)).mono ?_
        rintro e w4 ⟨A3, c3, rfl, ho3, hb4⟩
        have Hr5 := hide (Hr3.out.below hb4)
        have Hr6 := hide (Rd.of_own ho3)
        have Hb4 := hide (Hb3.out.trans (hb4.mono Hb3.out.size))
        clear ho3 hb4 Hr3 Hr4 Hb3 Hr1 Hb1 HP2 HP
        go_wp2_with fail
        obtain ⟨wo, ewo⟩ : ∃ wo : World, wo = wr := ⟨_, rfl⟩
        subst ewo
        go_loopw [10, 54] (fun q i wx => ∃ j : Nat, j ≤ k ∧ i = .int .i64 j ∧ q = .int .i64 (kept L (d % 3) j).length ∧ Below w4.heap.size w4 wx) (fun _ i _ => k - (intOf i).toNat)
        case atStart => exact ⟨0, Nat.zero_le _, rfl, rfl, Below.refl _ _⟩
        case round =>
          obtain ⟨j, hj, rfl, rfl, hbx⟩ := hrel
          have hkf : (kept L (d % 3) j).length ≤ LF.length := by
            rw [← HLF.out]
            exact ((List.take_sublist j L).filter _).length_le
          obtain ⟨q, hq⟩ : ∃ q, (kept L (d % 3) j).length = q := ⟨_, rfl⟩
          rw [hq] at hkf
          rw [hq]
          have Hq := hide hq
          have Hbx := hide hbx
          clear hq hbx
          by_cases hlt : j < k
          · obtain ⟨ad, rfl⟩ := Hr.out.isSome (by omega)
            obtain ⟨⟨ab, ao, asp⟩, rfl⟩ := Hr5.out.isSome (by omega)
            obtain ⟨x, hx⟩ : ∃ x, L[j]? = some x := ⟨L[j]'(by have := Hll.out; omega), by simp⟩
            obtain ⟨rfl, x0, x1⟩ := Hr5.out.items j x hx
            have hTx : (tagged l)[j]? = some x := by
              have h := lastOf_at (tagged l) _ j (by rw [tagged_len, Hl.out] : k = (tagged l).length)
              rw [HL.out, hx] at h
              rw [show k - 64 + j = j by omega] at h
              exact h.symm
            have hlj : j < l.length := by have := (List.getElem?_eq_some_iff.1 hTx).1; rwa [tagged_len] at this
            obtain ⟨s, hs⟩ : ∃ s, l[j]? = some s := ⟨l[j], by simp [hlj]⟩
            obtain rfl : x = (((j : Nat) : Int) % 3, s) := by
              have h := tagged_at l _ s hs
              rw [hTx] at h
              injection h
            have hlt2 : j < k := by rw [Hl.out] at hlj; exact hlj
            have hcx := cell_later Hbx.out (cell_later Hb4.out (Hr.out.text rfl _ s hs))
            have x0 := cell_later Hbx.out x0
            have x1 := cell_later Hbx.out x1
            simp only at x0 x1
            obtain ⟨ob, hob⟩ : ∃ ob : Obj, ob = .cells #[.int .u64 (((j : Int)) % 3), .string s] 32 := ⟨_, rfl⟩
            have hal : Below wr.heap.size wr (wr.alloc ob) := (Below.refl _ _).alloc (Nat.le_refl _) _
            have hcx2 := cell_later hal hcx
            have Hal := hide hal
            rw [hob] at hcx2
            clear hal
            have hidx : (j : Int) < (k : Int) := by omega
            have hx' := hx
            have Hx := hide hx
            clear hx hTx hs hlj hcx hx'
            cases he : (((j : Nat) : Int) % 3 == d % 3) with
            | true =>
              have he2 : ((((j : Int)) % 3) != d % 3) = false := by
                have := eq_of_beq he
                simp only [bne, Bool.not_eq_false', beq_iff_eq]
                omega
              have hks : (kept L (d % 3) (j + 1)).length = q := by
                rw [kept_succ L _ j _ Hx.out, if_pos he, List.append_nil, Hq.out]
              have Hks := hide hks
              clear he hks
              go_wp2_with fail
              go_quiet (fail)
              go_wp2_with fail
              go_roundw
              case rel => exact ⟨j + 1, by omega, by go_num, by rw [Hks.out], (Hbx.out.alloc Hbx.out.size _).trans (below_drewN _ _ _)⟩
              case measure => simp [intOf]; omega
            | false =>
              have hk2 := kept_at L (d % 3) j _ Hx.out he
              rw [Hq.out, HLF.out] at hk2
              have hqL : q < LF.length := (List.getElem?_eq_some_iff.1 hk2).1
              obtain ⟨⟨ab3, ao3, asp3⟩, rfl⟩ := Hr6.out.isSome (by omega)
              obtain ⟨rfl, y0, y1⟩ := Hr6.out.items q _ hk2
              have y0 := cell_later Hbx.out y0
              have y1 := cell_later Hbx.out y1
              simp only at y0 y1
              have yy0 := cell_later Hal.out y0
              have yy1 := cell_later Hal.out y1
              rw [hob] at yy0 yy1
              have he2 : ((((j : Int)) % 3) != d % 3) = true := by
                have := ne_of_beq_false he
                simp only [bne, Bool.not_eq_true', beq_eq_false_iff_ne]
                omega
              have hks : (kept L (d % 3) (j + 1)).length = q + 1 := by
                rw [kept_succ L _ j _ Hx.out, if_neg (fun h => by rw [he] at h; cases h)]
                rw [List.length_append, Hq.out]
                rfl
              have Hks := hide hks
              clear he hks hk2
              go_wp2_with fail
              go_quiet (fail)
              go_wp2_with fail
              go_quiet (fail)
              go_wp2_with fail
              go_roundw
              case rel => exact ⟨j + 1, by omega, by go_num, by rw [Hks.out]; go_num, (Hbx.out.alloc Hbx.out.size _).trans (below_drewN _ _ _)⟩
              case measure => simp [intOf]; omega
          · obtain rfl : j = k := by omega
            clear hlt hj
            have hqf : q = LF.length := by
              rw [← Hq.out, ← HLF.out]
              unfold kept
              rw [List.take_of_length_le (by rw [Hll.out]; omega)]
            subst hqf
            go_wp2_with fail
            go_ret
            exact ⟨rfl, Hb4.out.trans (Hbx.out.mono Hb4.out.size)⟩

theorem open_texts {H : Type} {enc : TypeId × Value → H} {w : World} {base : Nat} {spare : Nat → Bool} {held : Bool} {fuel : Nat} {a0 : Option Addr} {len cap : Nat} {x : DataW H × List MemPlace}
    (h : DataW.trod enc Try.prog w base spare held fuel 22 [.slice a0 len cap] = some x) :
    ∃ l : List ByteArray, Rd w 1 a0 len cap (texts l) := by
  rcases ChangeShapes.open_strings Try.underlying22 Try.underlying9 (by kernel_rfl) h with ⟨hcs, _⟩ | ⟨a, ln, c, ss, hcs, _, hl, hm, hlen, _, hel, _⟩
  · simp at hcs
    obtain ⟨rfl, rfl, rfl⟩ := hcs
    exact ⟨[], Rd.nil_ _ _⟩
  · simp at hcs
    obtain ⟨rfl, rfl, rfl⟩ := hcs
    have hle : len ≤ ss.length := by rw [hlen]; split <;> omega
    refine ⟨ss.take len, ⟨by simp; omega, hl, hm, (fun e => by cases e), fun ad e j u hj => ?_⟩⟩
    injection e with e
    subst e
    have hjl : j < len := by
      have := (List.getElem?_eq_some_iff.1 hj).1
      simp at this
      omega
    have h1 := hel j (by omega)
    have h2 : ss.getD j ByteArray.empty = ss[j] := by simp [List.getD, show j < ss.length by omega]
    rw [h2] at h1
    simp [hjl, show j < ss.length by omega] at hj
    rw [h1, hj]

theorem room_any (A0 : Option Addr) (n c : Nat) (l : List ByteArray) (d : Int) (w : World) (hr : Rd w 1 A0 n c (texts l)) (hd0 : 0 ≤ d) (hd1 : d ≤ 255) :
    Calls Try.prog 3 #[.slice A0 n c, .int .u8 d] w fun e w' => e = .returned (.bool true) ∧ Below w.heap.size w w' := by
  by_cases hn : n ≤ 100
  · exact room_short A0 n c l d w hr hn hd0 hd1
  · obtain ⟨m, rfl⟩ : ∃ m, n = m + 101 := ⟨n - 101, by omega⟩
    have hlt : (100 : Int) < (m : Int) + 101 := by omega
    clear hr hn
    go_enter Try.func3, Try.ntmps3
    go_wp2_with fail
    refine (awake_any _).mono ?_
    rintro e w1 ⟨rfl, hb1⟩
    go_wp2_with fail
    go_ret
    exact ⟨rfl, hb1⟩
end Go.Proofs.Ytoocklaoedcbjaa
