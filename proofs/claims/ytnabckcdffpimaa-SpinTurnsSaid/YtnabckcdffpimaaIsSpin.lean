/-
  SpinTurns' own comparing function: a spin against the document's. Conditions: the slices can be read; the numbers are small.
-/
import Derived.Test.YtnabckcdffpimaaFairMath
import Derived.Test.YtnabckcdffpimaaRefNext
namespace Go.Proofs.Ytnabckcdffpimaa
open Go.RowKit Ieee

set_option maxRecDepth 100000 in
set_option maxHeartbeats 4000000 in
theorem isSpin_any (A Hp Wp : Option Addr) (n c hc wc : Nat) (l : List PN) (Hb : Nat) (w : World) (hr : Rd w 1 A n c (pvs l)) (hH : Rd w 1 Hp n hc (i64s (l.map Prod.fst))) (hW : Rd w 1 Wp n wc (i64s (l.map Prod.snd))) (hs : SP l Hb) (hHb : Hb ≤ 100000000) :
    Calls Try.prog 27 #[sv A n c, rv Hp n hc Wp n wc] w fun e w' => e = .returned (.bool true) ∧ Below w.heap.size w w' := by
  have hl : l.length = n := hr.pairLen
  have hn8 := hs.len
  rw [hl] at hn8
  have hB : Below w.heap.size w ((w.alloc (.cells #[.slice A n c] 41)).alloc (.cells #[.slice Hp n hc, .slice Wp n wc] 55)) := ((Below.refl _ _).alloc (Nat.le_refl _) _).alloc (by simp) _
  have HR := hide (hr.below hB)
  have HH := hide (hH.below hB)
  have HW := hide (hW.below hB)
  have HB := hide hB
  have Hs := hide hs
  have Hl := hide hl
  clear hr hH hW hB hs hl
  go_enter Try.func27, Try.ntmps27
  go_wp2_with fail
  refine (pairs_any A n c l _ HR.out (by omega)).mono ?_
  rintro e w1 ⟨A1, c1, rfl, hr1, hf1, hb1⟩
  have c0 : w1.cell? ⟨w.heap.size, 0, none⟩ = some (.slice A n c) := cell_later hb1 (by go_simp)
  have d0 : w1.cell? ⟨w.heap.size + 1, 0, none⟩ = some (.slice Hp n hc) := cell_later hb1 (by go_simp)
  have d1 : w1.cell? ⟨w.heap.size + 1, 1, none⟩ = some (.slice Wp n wc) := cell_later hb1 (by go_simp)
  have HR1 := hide hr1
  have HRs := hide (HR.out.below hb1)
  have HH1 := hide (HH.out.below hb1)
  have HW1 := hide (HW.out.below hb1)
  have HB1 := hide (HB.out.trans (hb1.mono HB.out.size))
  clear hr1 hf1 hb1 HR HH HW HB
  go_wp2_with fail
  refine (len_any A n c w1).mono ?_
  rintro e w2 ⟨rfl, hb2⟩
  have c0 := cell_later hb2 c0
  have d0 := cell_later hb2 d0
  have d1 := cell_later hb2 d1
  have HR1 := hide (HR1.out.below hb2)
  have HRs := hide (HRs.out.below hb2)
  have HH1 := hide (HH1.out.below hb2)
  have HW1 := hide (HW1.out.below hb2)
  have HB1 := hide (HB1.out.trans (hb2.mono HB1.out.size))
  clear hb2
  go_wp2_with fail
  go_loopw [6, 29] (fun z i wr => ∃ (k : Nat) (S : Int), k ≤ n ∧ i = .int .i64 k ∧ z = .int .i64 S ∧ S = sumTo [] l k ∧ wr = w2) (fun _ i _ => n - (intOf i).toNat)
  case atStart => exact ⟨0, 0, Nat.zero_le _, rfl, rfl, rfl, rfl⟩
  case round =>
    obtain ⟨k, S, hk, rfl, rfl, hS, rfl⟩ := hrel
    have HS := hide hS
    clear hS
    by_cases hlt : k < n
    · have hkl : k < l.length := by rw [Hl.out]; exact hlt
      obtain ⟨⟨pb, po, psp⟩, rfl⟩ := HR1.out.isSome (by omega)
      obtain ⟨⟨hb, ho, hsp⟩, rfl⟩ := HH1.out.isSome (by omega)
      obtain ⟨⟨wb, wo, wsp⟩, rfl⟩ := HW1.out.isSome (by omega)
      obtain rfl : hsp = none := HH1.out.spot (by intro e; have := congrArg List.length e; simp [Hl.out] at this; omega)
      obtain rfl : wsp = none := HW1.out.spot (by intro e; have := congrArg List.length e; simp [Hl.out] at this; omega)
      obtain rfl : psp = none := HR1.out.spot (by intro e; have := congrArg List.length e; simp [Hl.out] at this; omega)
      have p0 := HR1.out.pair k hlt
      have x0 := HH1.out.ints k hlt
      have t0 := HW1.out.ints k hlt
      rw [map_fst_at] at x0
      rw [map_snd_at] at t0
      obtain ⟨⟨h, t⟩, hht⟩ : ∃ p : PN, l.getD k (0, 0) = p := ⟨_, rfl⟩
      have hh := Hs.out.hand k hkl
      have ht := Hs.out.weight k hkl
      have hsum := Hs.out.sum [] k (by omega)
      rw [← HS.out] at hsum
      rw [hht] at hh ht x0 t0 p0
      simp only at hh ht x0 t0 p0
      simp only [Addr.add_lit] at x0 t0 p0
      have HS2 := hide (show S + t = sumTo [] l (k + 1) from by rw [sumTo_up rfl, hht, HS.out])
      clear hht
      go_wp2_with fail
      refine (parts_any h t _ (by omega) (by omega)).mono ?_
      rintro e w3 ⟨rfl, rfl⟩
      go_wp2_with fail
      go_roundw
      case rel => exact ⟨k + 1, S + t, by omega, by go_num, by go_num, HS2.out, by first | rfl | trivial⟩
      case measure => simp [intOf]; omega
    · obtain rfl : k = n := by omega
      have hsum := sumP_all Hs.out hHb
      have hT := HS.out
      rw [sumTo_nil, ← Hl.out] at hT
      rw [← hT] at hsum
      have Hsum := hide hsum
      clear hsum hT
      go_wp2_with fail
      refine (total_any A k c l _ HRs.out (Hs.out.ok (by omega)) _ S Hsum.out).mono ?_
      rintro e w3 ⟨rfl, hb3⟩
      go_wp2_with fail
      go_ret
      exact ⟨by simp, HB1.out.trans (hb3.mono HB1.out.size)⟩
end Go.Proofs.Ytnabckcdffpimaa
