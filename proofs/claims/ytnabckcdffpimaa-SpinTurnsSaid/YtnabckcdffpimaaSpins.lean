/-
  SpinTurns: behind any turns each is answered, and the spin is, as the document says: the walk. Conditions: the slices can be read.
-/
import Derived.Test.YtnabckcdffpimaaSpinsMath
import Derived.Deep.RegionHeld3
import Derived.Outline
namespace Go.Proofs.Ytnabckcdffpimaa
open Go.RowKit Ieee

theorem rd_ep (w : World) (x : Int) (g : Nat) (hg : g = w.heap.size) : Rd (w.alloc (.cells #[.int .u8 0, .int .u8 0, .int .u8 0, .int .u8 0, .int .u16 0, .int .i64 x] 66)) 6 (some ⟨g, 0, none⟩) 1 1 (epCells [x]) := by
  subst hg
  refine ⟨rfl, Nat.le_refl _, by simp [maxLen], (fun h => by cases h), fun ad he j y hj => ?_⟩
  injection he with he
  subst he
  match j, hj with
  | 0, hj => simp [epCells] at hj; subst hj; simp [Addr.add]
  | 1, hj => simp [epCells] at hj; subst hj; simp [Addr.add]
  | 2, hj => simp [epCells] at hj; subst hj; simp [Addr.add]
  | 3, hj => simp [epCells] at hj; subst hj; simp [Addr.add]
  | 4, hj => simp [epCells] at hj; subst hj; simp [Addr.add]
  | 5, hj => simp [epCells] at hj; subst hj; simp [Addr.add]
  | j + 6, hj => simp [epCells] at hj
theorem ep_one (zs : List Int) : ∀ u ∈ epCells zs, u.oneCell' = true := by
  intro u hu
  simp only [epCells, List.mem_flatMap] at hu
  obtain ⟨x, _, hx⟩ := hu
  simp at hx
  rcases hx with rfl | rfl | rfl <;> rfl

set_option maxRecDepth 100000 in
set_option maxHeartbeats 16000000 in
theorem spins_short (A : Option Addr) (n c : Nat) (ws : List Int) (A2 : Option Addr) (n2 c2 : Nat) (svs : List Value) (w : World) (hr : Rd w 1 A n c (i64s ws)) (hn : n ≤ 20) (hD : Rd w 1 A2 n2 c2 svs) (hn2 : n2 ≤ 300)
    (hDs : ∀ j, j < n2 → ∃ B m d D, svs[j]? = some (.slice B m d) ∧ Rd w 1 B m d (i64s D)) :
    Calls Try.prog 7 #[.slice A n c, .slice A2 n2 c2] w fun e w' => e = .returned (.bool true) ∧ Below w.heap.size w w' := by
  obtain ⟨i0, hi0, hz0, hz1, hz2⟩ := info_parts (show (Try.prog.info? 66).map (fun i => (i.zero, i.size, i.bytes)) = some (some (.agg #[.int .u8 0, .int .u8 0, .int .u8 0, .int .u8 0, .int .u16 0, .int .i64 0]), 6, 16) by kernel_rfl)
  obtain ⟨l, err, hN⟩ := newR_ex n ws
  have hl := hr.intLen
  have hSP := hN.SP hl
  have HN := hide hN
  have HSP := hide hSP
  have Hl := hide hl
  have Hr := hide hr
  have HD := hide hD
  have HDs := hide hDs
  clear hN hSP hl hr hD hDs
  go_enter Try.func7, Try.ntmps7
  go_wp2_with fail
  refine (awake22_any _).mono ?_
  rintro e w1 ⟨rfl, hb1⟩
  have HB1 := hide hb1
  have Hr1 := hide (Hr.out.below hb1)
  clear hb1
  go_wp2_with fail
  refine (newS HN.out A c _ Hr1.out).mono ?_
  rintro e w2 ⟨A1, c1, rfl, hr2, hf2, hb2⟩
  have HS := hide (SB.new hr2)
  have hgs0 : w.heap.size ≤ w2.heap.size := by have := HB1.out.size; have := hb2.size; omega
  have HB2 := hide ((HB1.out.trans (hb2.mono HB1.out.size)).alloc (by have := HB1.out.size; have := hb2.size; omega) (.cells #[.slice A1 l.length c1] 41))
  have Hr2 := hide (Rd.alloc (Hr1.out.below hb2) (.cells #[.slice A1 l.length c1] 41))
  clear hr2 hb2 hf2 HB1 Hr1
  go_wp2_with fail
  refine (newD HN.out A c _ Hr2.out).mono ?_
  rintro e w3 ⟨H1, hc1, W1, wc1, rfl, hh, hw, hfh, hfw, hb3⟩
  have HT := hide (show TD (w3.alloc (.cells #[.slice H1 l.length hc1, .slice W1 l.length wc1] 55)) w2.heap.size w3.heap.size A1 c1 H1 hc1 W1 wc1 l.length l from
    ⟨(HS.out.step hb3).alloc _, QD.new hh hw, by have := hb3.size; simp at this; omega,
      fun hx ad e => by have := (HS.out.step hb3).rd.lt (pvs_ne hx) e; omega,
      fun hx ad e => by have := hfh ad e; simp at this; omega, fun hx ad e => by have := hfw ad e; simp at this; omega⟩)
  have HB3 := hide ((HB2.out.trans (hb3.mono HB2.out.size)).alloc (by have := HB2.out.size; have := hb3.size; omega) (.cells #[.slice H1 l.length hc1, .slice W1 l.length wc1] 55))
  have hgq0 : w.heap.size ≤ w3.heap.size := by have := HB2.out.size; have := hb3.size; simp at this; omega
  have Hr3 := hide (Rd.alloc (Hr2.out.below hb3) (.cells #[.slice H1 l.length hc1, .slice W1 l.length wc1] 55))
  have hgs := HT.out.s.lt
  have hgq := HT.out.q.lt
  have hsz3 : (w3.alloc (.cells #[.slice H1 l.length hc1, .slice W1 l.length wc1] 55)).heap.size = w3.heap.size + 1 := World.size_alloc _ _
  clear hh hw hfh hfw hb3 HS HB2 Hr2
  go_wp2_with fail
  generalize hW3 : w3.alloc (.cells #[.slice H1 l.length hc1, .slice W1 l.length wc1] 55) = W3 at *
  clear hW3
  have k0 : (W3.alloc (.cells #[.string ⟨#[]⟩, .slice none 0 0] 60)).cell? ⟨w3.heap.size + 1, 0, none⟩ = some (.string ⟨#[]⟩) := by rw [← hsz3]; go_simp
  have k1 : (W3.alloc (.cells #[.string ⟨#[]⟩, .slice none 0 0] 60)).cell? ⟨w3.heap.size + 1, 1, none⟩ = some (.slice none 0 0) := by rw [← hsz3]; go_simp
  have kf : (W3.alloc (.cells #[.string ⟨#[]⟩, .slice none 0 0] 60)).frozen? ⟨w3.heap.size + 1, 1, none⟩ = false := by rw [← hsz3]; go_simp
  have kb : Below (w3.heap.size + 1) W3 (W3.alloc (.cells #[.string ⟨#[]⟩, .slice none 0 0] 60)) := (Below.refl _ _).alloc (by omega) _
  have ks : w3.heap.size + 1 + 1 ≤ (W3.alloc (.cells #[.string ⟨#[]⟩, .slice none 0 0] 60)).heap.size := by rw [World.size_alloc, hsz3]; exact Nat.le_refl _
  have K0 := hide (And.intro k0 (And.intro k1 (And.intro kf (And.intro kb ks))))
  clear k0 k1 kf kb ks
  generalize hW4 : W3.alloc (.cells #[.string ⟨#[]⟩, .slice none 0 0] 60) = W4 at *
  have hww : w.heap.size ≤ w3.heap.size + 1 := by have := HB3.out.size; omega
  clear hW4
  generalize hgg : w2.heap.size = gs at *
  generalize hgg : w3.heap.size = gq at *
  go_loopw [43] (fun i wr => ∃ (k : Nat) (V : Option Addr) (vc : Nat), k ≤ n ∧ i = .int .i64 k ∧ wr.cell? ⟨gq + 1, 0, none⟩ = some (.string ⟨#[]⟩) ∧ wr.cell? ⟨gq + 1, 1, none⟩ = some (.slice V k vc) ∧ wr.frozen? ⟨gq + 1, 1, none⟩ = false ∧
    wr.ownsRow (gq + 1 + 1) 66 6 (.slice V k vc) k (epCells (ws.take k)) ∧ gq + 1 + 1 ≤ wr.heap.size ∧ Below (gq + 1) W3 wr) (fun i _ => n - (intOf i).toNat)
  case atStart => exact ⟨0, none, 0, Nat.zero_le _, rfl, K0.out.1, K0.out.2.1, K0.out.2.2.1, World.ownsRow_nil _ _ _ _, K0.out.2.2.2.2, K0.out.2.2.2.1⟩
  case round =>
    clear K0
    obtain ⟨k, V, vc, hk, rfl, k0, k1, kf, ho, hsz, hb⟩ := hrel
    have Ho := hide ho
    have HB := hide hb
    have HB0 := hide (hb.mono (B' := W3.heap.size) (by omega))
    clear ho hb
    by_cases hlt : k < n
    · obtain ⟨ad, rfl⟩ := Hr3.out.isSome (by omega)
      obtain ⟨x, hx⟩ : ∃ x, ws.getD k 0 = x := ⟨_, rfl⟩
      have x0 : wr.cell? (ad.add k) = some (.int .i64 x) := by rw [← hx]; exact (Hr3.out.below HB0.out).ints k hlt
      have Hx := hide hx
      have Hrow := hide (fun q e => (Ho.out.lt q e).1)
      have hal : Below wr.heap.size wr (wr.alloc (.cells #[.int .u8 0, .int .u8 0, .int .u8 0, .int .u8 0, .int .u16 0, .int .i64 x] 66)) := (Below.refl _ _).alloc (Nat.le_refl _) _
      have Hal := hide hal
      have hw2 : k < ws.length := by rw [Hl.out]; exact hlt
      have Hw2 := hide hw2
      have K1 := hide (And.intro k0 (And.intro k1 kf))
      clear hal hw2 hx
      go_wp2_with ((at_builtin
                    refine wpList_append_rd _ rfl (.tmp 48) (.tmp 51) 58 rfl (gq + 1 + 1) 66 i0 _ 6 16 Try.underlying58 hi0 hz0 hz1 hz2 rfl (by omega) (.slice V k vc) k (epCells (ws.take k)) rfl (Ho.out.alloc _) _ 1 1 (epCells [x]) rfl (rd_ep _ _ _ rfl) (ep_one [x]) (by simp only [maxLen]; omega) (by omega) (by simp; omega) ?_
                    intro v2 w5 hown2 hg2 hat2
                    have hne : ∀ q : Nat, q < gq + 1 + 1 → some q ≠ (Value.slice V k vc).ownBlock := fun q hq e => by have := Hrow.out q e.symm; omega
                    have k0 := hg2.cell (cell_later Hal.out K1.out.1) (hne _ (by simp only; omega))
                    have k1 := hg2.cell (cell_later Hal.out K1.out.2.1) (hne _ (by simp only; omega))
                    have kf : w5.frozen? ⟨gq + 1, 1, none⟩ = false := by
                      rw [World.frozen?_of_block (hg2.block (gq + 1) (by simp; omega) (hne _ (by omega))), Hal.out.frozen (p := ⟨gq + 1, 1, none⟩) (by simp only; omega)]
                      exact K1.out.2.2
                    have HB4 := hide (((HB.out.trans (Hal.out.mono (by omega))).grown hg2 (by simp; omega) (fun q e => by have := Hrow.out q e; omega)))
                    have hsz2 : gq + 1 + 1 ≤ w5.heap.size := by have := hg2.size; simp at this; omega
                    obtain ⟨V2, c2, rfl, hv2⟩ := own_slice hown2
                    rw [show epCells (ws.take k) ++ epCells [x] = epCells (ws.take (k + 1)) by rw [take_snoc ws k Hw2.out, Hx.out, ep_append]] at hown2
                    have Ho2 := hide hown2
                    clear hown2 hg2 hat2 hne hv2 x0))
      go_roundw
      case rel => 
        refine ⟨k + 1, V2, c2, by omega, by go_num, by go_simp, by go_simp, by go_simp, ?_, ?_, ?_⟩
        · exact ownsRow_setCell_below Ho2.out (by simp) _
        · simpa using hsz2
        · exact HB4.out.setCell (p := ⟨gq + 1, 1, none⟩) (Nat.le_refl _) _
      case measure => simp [intOf]; omega
    · obtain rfl : k = n := by omega
      clear hlt hk
      go_wp2_with fail
      refine (ofC HN.out V vc _ _ (Rd.of_own (by have h := Ho.out; rw [← Hl.out, List.take_length, Hl.out] at h; exact h)) Hl.out hn).mono ?_
      rintro e w5 ⟨A3, c3, rfl, hr5, hb5⟩
      have HT5 := hide (((HT.out.step HB0.out).step hb5).alloc (.cells #[.slice A3 l.length c3] 41))
      have Hr5 := hide (hr5.alloc (.cells #[.slice A3 l.length c3] 41))
      have HB5 := hide (((HB3.out.trans (HB.out.mono hww)).trans (hb5.mono (by omega))).alloc (by have := hb5.size; omega) (.cells #[.slice A3 l.length c3] 41))
      have hs5 := hb5.size
      have s0 : (w5.alloc (.cells #[.slice A3 l.length c3] 41)).cell? ⟨gs, 0, none⟩ = some (.slice A1 l.length c1) := HT5.out.s.c0
      have q0 : (w5.alloc (.cells #[.slice A3 l.length c3] 41)).cell? ⟨gq, 0, none⟩ = some (.slice H1 l.length hc1) := HT5.out.q.c0
      have q1 : (w5.alloc (.cells #[.slice A3 l.length c3] 41)).cell? ⟨gq, 1, none⟩ = some (.slice W1 l.length wc1) := HT5.out.q.c1
      clear hr5 hb5 k0 k1 kf
      go_wp2_with fail
      refine (isSpin_any A1 H1 W1 l.length c1 hc1 wc1 l 0 _ HT5.out.s.rd HT5.out.q.rh HT5.out.q.rw HSP.out (by omega)).mono ?_
      rintro e w6 ⟨rfl, hb6⟩
      have t0 : w6.cell? ⟨w5.heap.size, 0, none⟩ = some (.slice A3 l.length c3) := cell_later hb6 (by go_simp)
      have s0 := cell_later hb6 s0
      have HT6 := hide (HT5.out.step hb6)
      have Hr6 := hide (Hr5.out.below hb6)
      have HB6 := hide (HB5.out.trans (hb6.mono HB5.out.size))
      have hs6 := hb6.size
      simp only [World.size_alloc] at hs6
      clear hb6 q0 q1
      go_wp2_with fail
      refine (same_any A1 A3 l.length c1 c3 l _ HT6.out.s.rd Hr6.out (HSP.out.ok (by omega))).mono ?_
      rintro e w7 ⟨rfl, hb7⟩
      have HT7 := hide (HT6.out.step hb7)
      have HB7 := hide (HB6.out.trans (hb7.mono HB6.out.size))
      have hs7 := hb7.size
      have hgq7 := HT7.out.q.lt
      have hgs7 := HT7.out.s.lt
      clear hb7 s0 t0 HT5 HT6 Hr5 Hr6 HB5 HB6
      go_wp2_with fail
      go_loopw [82] (fun i wr => ∃ (j : Nat) (l' : List PN) (A : Option Addr) (c : Nat) (H : Option Addr) (hc : Nat) (W : Option Addr) (wc : Nat), j ≤ n2 ∧ i = .int .i64 j ∧ l'.length = l.length ∧ TD wr gs gq A c H hc W wc l.length l' ∧ SP l' (900 * j) ∧ Below w.heap.size w wr)
        (fun i _ => n2 - (intOf i).toNat)
      case atStart => exact ⟨0, l, A1, c1, H1, hc1, W1, wc1, Nat.zero_le _, rfl, rfl, HT7.out, HSP.out, HB7.out⟩
      case round =>
        clear HT7 HB7 HT HB HB0 HB3 HN HSP Hr3 Ho
        obtain ⟨j, l', Ap, cp, Hp, hcp, Wp, wcp, hj, rfl, hll, hT, hSP, hB⟩ := hrel
        have HT := hide hT
        have HSP := hide hSP
        have HB := hide hB
        have Hll := hide hll
        have s0 := hT.s.c0
        have hgsr := hT.s.lt
        have hgqr := hT.q.lt
        clear hT hSP hB hll
        by_cases hlt : j < n2
        · obtain ⟨B, m, d, D, hg, hDr⟩ := HDs.out j hlt
          obtain ⟨ad, rfl⟩ := HD.out.isSome (by omega)
          have x0 : wr.cell? (ad.add j) = some (.slice B m d) := (HD.out.below HB.out).cell _ rfl j _ hg
          have HDr := hide (hDr.below HB.out)
          clear hg hDr
          by_cases hm : 10 < m
          · go_wp2_with fail
            go_ret
            exact ⟨rfl, HB.out⟩
          · rcases bestTo_spec D l' l'.length with ⟨hb1, _⟩ | ⟨b, hb1, hb2, _, _⟩
            · have HBt := hide hb1
              clear hb1
              go_wp2_with fail
              refine (next_no Ap l.length cp B m d l' D (900 * j) wr HT.out.s.rd HDr.out HSP.out (by omega) HBt.out).mono ?_
              rintro e w8 ⟨rfl, hb8⟩
              have HT8 := hide ((HT.out.step hb8).alloc (.cells #[.slice Ap l.length cp] 41))
              have HA8 := hide (Rd.alloc (HT.out.s.rd.below hb8) (.cells #[.slice Ap l.length cp] 41))
              have hfa8 : l' ≠ [] → ∀ ad, Ap = some ad → ad.block ≠ gs ∧ ad.block ≠ gq := fun hx ad e => ⟨HT.out.s.far (pvs_ne hx) ad e, HT.out.fa hx ad e⟩
              have Hfa8 := hide hfa8
              have HD8 := hide ((HDr.out.below hb8).alloc (.cells #[.slice Ap l.length cp] 41))
              have HB8 := hide ((HB.out.trans (hb8.mono HB.out.size)).alloc (by have := HB.out.size; have := hb8.size; omega) (.cells #[.slice Ap l.length cp] 41))
              have hs8 := hb8.size
              have q0 : (w8.alloc (.cells #[.slice Ap l.length cp] 41)).cell? ⟨gq, 0, none⟩ = some (.slice Hp l.length hcp) := HT8.out.q.c0
              have q1 : (w8.alloc (.cells #[.slice Ap l.length cp] 41)).cell? ⟨gq, 1, none⟩ = some (.slice Wp l.length wcp) := HT8.out.q.c1
              clear hb8 hfa8 s0 x0
              go_wp2_with fail
              refine (nextD_no Hp l.length hcp Wp wcp B m d l' D (900 * j) _ HT8.out.q.rh HT8.out.q.rw HD8.out HSP.out (by omega) HBt.out).mono ?_
              rintro e w9 ⟨rfl, hb9⟩
              have hh9 := HT8.out.q.rh.below hb9
              have hw9 := HT8.out.q.rw.below hb9
              have HT9 := hide ((HT8.out.step hb9).alloc (.cells #[.slice Hp l.length hcp, .slice Wp l.length wcp] 55))
              have HA9 := hide ((HA8.out.below hb9).alloc (.cells #[.slice Hp l.length hcp, .slice Wp l.length wcp] 55))
              have HH9 := hide (Rd.alloc hh9 (.cells #[.slice Hp l.length hcp, .slice Wp l.length wcp] 55))
              have HW9 := hide (Rd.alloc hw9 (.cells #[.slice Hp l.length hcp, .slice Wp l.length wcp] 55))
              have hfh9 : l' ≠ [] → ∀ ad, Hp = some ad → ad.block ≠ gs ∧ ad.block ≠ gq := fun hx ad e => ⟨HT.out.fh hx ad e, HT.out.q.fh hx ad e⟩
              have hfw9 : l' ≠ [] → ∀ ad, Wp = some ad → ad.block ≠ gs ∧ ad.block ≠ gq := fun hx ad e => ⟨HT.out.fw hx ad e, HT.out.q.fw hx ad e⟩
              have Hfh9 := hide hfh9
              have Hfw9 := hide hfw9
              have HB9 := hide ((HB8.out.trans (hb9.mono HB8.out.size)).alloc (by have := HB8.out.size; have := hb9.size; omega) (.cells #[.slice Hp l.length hcp, .slice Wp l.length wcp] 55))
              have hs9 := hb9.size
              simp only [World.size_alloc] at hs9
              have x0 : (w9.alloc (.cells #[.slice Hp l.length hcp, .slice Wp l.length wcp] 55)).cell? ⟨w8.heap.size, 0, none⟩ = some (.slice Ap l.length cp) := cell_later ((Below.refl _ _).alloc (Nat.le_refl _) _) (cell_later hb9 (by go_simp))
              clear hb9 hh9 hw9 hfh9 hfw9 q0 q1
              go_wp2_with fail
              refine (isSpin_any Ap Hp Wp l.length cp hcp wcp l' (900 * (j + 1)) _ HA9.out HH9.out HW9.out (HSP.out.mono (by omega)) (by omega)).mono ?_
              rintro e w10 ⟨rfl, hb10⟩
              have y0 : w10.cell? ⟨w9.heap.size, 0, none⟩ = some (.slice Hp l.length hcp) := cell_later hb10 (by go_simp)
              have y1 : w10.cell? ⟨w9.heap.size, 1, none⟩ = some (.slice Wp l.length wcp) := cell_later hb10 (by go_simp)
              have x0 := cell_later hb10 x0
              have HT10 := hide (HT9.out.step hb10)
              have HA10 := hide (HA9.out.below hb10)
              have HH10 := hide (HH9.out.below hb10)
              have HW10 := hide (HW9.out.below hb10)
              have HB10 := hide (HB9.out.trans (hb10.mono HB9.out.size))
              have hs10 := hb10.size
              simp only [World.size_alloc] at hs10
              have s0 := HT10.out.s.c0
              have q0 := HT10.out.q.c0
              have q1 := HT10.out.q.c1
              clear hb10 HT9 HA9 HH9 HW9 HB9 HT8 HA8 HB8
              go_wp2_with fail
              refine (isSpin_any Ap Hp Wp l.length cp hcp wcp l' (900 * j) _ HT10.out.s.rd HT10.out.q.rh HT10.out.q.rw HSP.out (by omega)).mono ?_
              rintro e w11 ⟨rfl, hb11⟩
              have x0 : w11.cell? ⟨w8.heap.size, 0, none⟩ = some (.slice Ap l.length cp) := cell_later hb11 x0
              have y0 : w11.cell? ⟨w9.heap.size, 0, none⟩ = some (.slice Hp l.length hcp) := cell_later hb11 y0
              have y1 : w11.cell? ⟨w9.heap.size, 1, none⟩ = some (.slice Wp l.length wcp) := cell_later hb11 y1
              have HT11 := hide (HT10.out.step hb11)
              have HA11 := hide (HA10.out.below hb11)
              have HH11 := hide (HH10.out.below hb11)
              have HW11 := hide (HW10.out.below hb11)
              have HB11 := hide (HB10.out.trans (hb11.mono HB10.out.size))
              have s0 := HT11.out.s.c0
              have sf0 := HT11.out.s.f0
              have q0 := HT11.out.q.c0
              have q1 := HT11.out.q.c1
              have qf0 := HT11.out.q.f0
              have qf1 := HT11.out.q.f1
              have hne := HT11.out.ne
              have hsx : gs ≠ w8.heap.size := by omega
              have hsy : gs ≠ w9.heap.size := by omega
              have hqx : gq ≠ w8.heap.size := by omega
              have hqy : gq ≠ w9.heap.size := by omega
              clear hb11 HT10 HA10 HH10 HW10 HB10
              go_wp2_with fail
              have x0 : w11.drew.cell? ⟨w8.heap.size, 0, none⟩ = some (.slice Ap l.length cp) := x0
              have y0 : w11.drew.cell? ⟨w9.heap.size, 0, none⟩ = some (.slice Hp l.length hcp) := y0
              have y1 : w11.drew.cell? ⟨w9.heap.size, 1, none⟩ = some (.slice Wp l.length wcp) := y1
              have s0 : w11.drew.cell? ⟨gs, 0, none⟩ = some (.slice Ap l.length cp) := s0
              have q0 : w11.drew.cell? ⟨gq, 0, none⟩ = some (.slice Hp l.length hcp) := q0
              have q1 : w11.drew.cell? ⟨gq, 1, none⟩ = some (.slice Wp l.length wcp) := q1
              have sf0 : w11.drew.frozen? ⟨gs, 0, none⟩ = false := sf0
              have qf0 : w11.drew.frozen? ⟨gq, 0, none⟩ = false := qf0
              have qf1 : w11.drew.frozen? ⟨gq, 1, none⟩ = false := qf1
              go_region_held3 (fun W' => W'.cell? ⟨w8.heap.size, 0, none⟩ = some (.slice Ap l.length cp) ∧ W'.cell? ⟨w9.heap.size, 0, none⟩ = some (.slice Hp l.length hcp) ∧ W'.cell? ⟨w9.heap.size, 1, none⟩ = some (.slice Wp l.length wcp)) (go_keep) (fail)
              all_goals
                go_wp2_with fail
                go_roundw
                case rel => exact ⟨j + 1, l', Ap, cp, Hp, hcp, Wp, wcp, by omega, by go_num, Hll.out, ((HT11.out.step (below_drew _ _)).turn HA11.out.drew HH11.out.drew HW11.out.drew Hfa8.out Hfh9.out Hfw9.out).1, (HSP.out.mono (by omega)), ((HB11.out.drew.setCell (p := ⟨gs, 0, none⟩) hgs0 _).setCell (p := ⟨gq, 0, none⟩) hgq0 _).setCell (p := ⟨gq, 1, none⟩) hgq0 _⟩
                case measure => simp [intOf]; omega
            · obtain ⟨l2, hl2⟩ : ∃ l2, after D l' b = l2 := ⟨_, rfl⟩
              have hsp2 : SP l2 (900 * (j + 1)) := by rw [← hl2]; exact (HSP.out.after D b).mono (by omega)
              have hll2 : l2.length = l.length := by rw [← hl2, after_len]; exact Hll.out
              have HSP2 := hide hsp2
              have Hll2 := hide hll2
              have Hl2 := hide hl2
              have HBt := hide hb1
              have hbd : decide ((0 : Int) ≤ (b : Int)) = true := by rw [decide_eq_true_iff]; omega
              clear hb1 hb2 hsp2 hll2 hl2
              go_wp2_with fail
              refine (next_yes Ap l.length cp B m d l' D (900 * j) b wr HT.out.s.rd HDr.out HSP.out (by omega) HBt.out l2 Hl2.out).mono ?_
              rintro e w8 ⟨A8, c8, rfl, hr8, hf8, hb8⟩
              have HT8 := hide ((HT.out.step hb8).alloc (.cells #[.slice A8 l.length c8] 41))
              have HA8 := hide (Rd.alloc hr8 (.cells #[.slice A8 l.length c8] 41))
              have hfa8 : l2 ≠ [] → ∀ ad, A8 = some ad → ad.block ≠ gs ∧ ad.block ≠ gq := fun hx ad e => by have := hf8 ad e; exact ⟨by omega, by omega⟩
              have Hfa8 := hide hfa8
              have HD8 := hide ((HDr.out.below hb8).alloc (.cells #[.slice A8 l.length c8] 41))
              have HB8 := hide ((HB.out.trans (hb8.mono HB.out.size)).alloc (by have := HB.out.size; have := hb8.size; omega) (.cells #[.slice A8 l.length c8] 41))
              have hs8 := hb8.size
              have q0 : (w8.alloc (.cells #[.slice A8 l.length c8] 41)).cell? ⟨gq, 0, none⟩ = some (.slice Hp l.length hcp) := HT8.out.q.c0
              have q1 : (w8.alloc (.cells #[.slice A8 l.length c8] 41)).cell? ⟨gq, 1, none⟩ = some (.slice Wp l.length wcp) := HT8.out.q.c1
              clear hb8 hr8 hfa8 s0 x0
              go_wp2_with fail
              refine (nextD_yes Hp l.length hcp Wp wcp B m d l' D (900 * j) b _ HT8.out.q.rh HT8.out.q.rw HD8.out HSP.out (by omega) HBt.out l2 Hl2.out).mono ?_
              rintro e w9 ⟨H9, hc9, W9, wc9, rfl, hh9, hw9, hf9, hg9, hb9⟩
              have HT9 := hide ((HT8.out.step hb9).alloc (.cells #[.slice H9 l.length hc9, .slice W9 l.length wc9] 55))
              have HA9 := hide ((HA8.out.below hb9).alloc (.cells #[.slice H9 l.length hc9, .slice W9 l.length wc9] 55))
              have HH9 := hide (Rd.alloc hh9 (.cells #[.slice H9 l.length hc9, .slice W9 l.length wc9] 55))
              have HW9 := hide (Rd.alloc hw9 (.cells #[.slice H9 l.length hc9, .slice W9 l.length wc9] 55))
              have hfh9 : l2 ≠ [] → ∀ ad, H9 = some ad → ad.block ≠ gs ∧ ad.block ≠ gq := fun hx ad e => by have := hf9 ad e; simp only [World.size_alloc] at this; exact ⟨by omega, by omega⟩
              have hfw9 : l2 ≠ [] → ∀ ad, W9 = some ad → ad.block ≠ gs ∧ ad.block ≠ gq := fun hx ad e => by have := hg9 ad e; simp only [World.size_alloc] at this; exact ⟨by omega, by omega⟩
              have Hfh9 := hide hfh9
              have Hfw9 := hide hfw9
              have HB9 := hide ((HB8.out.trans (hb9.mono HB8.out.size)).alloc (by have := HB8.out.size; have := hb9.size; omega) (.cells #[.slice H9 l.length hc9, .slice W9 l.length wc9] 55))
              have hs9 := hb9.size
              simp only [World.size_alloc] at hs9
              have x0 : (w9.alloc (.cells #[.slice H9 l.length hc9, .slice W9 l.length wc9] 55)).cell? ⟨w8.heap.size, 0, none⟩ = some (.slice A8 l.length c8) := cell_later ((Below.refl _ _).alloc (Nat.le_refl _) _) (cell_later hb9 (by go_simp))
              clear hb9 hh9 hw9 hfh9 hfw9 q0 q1
              go_wp2_with fail
              refine (isSpin_any A8 H9 W9 l.length c8 hc9 wc9 l2 (900 * (j + 1)) _ HA9.out HH9.out HW9.out HSP2.out (by omega)).mono ?_
              rintro e w10 ⟨rfl, hb10⟩
              have y0 : w10.cell? ⟨w9.heap.size, 0, none⟩ = some (.slice H9 l.length hc9) := cell_later hb10 (by go_simp)
              have y1 : w10.cell? ⟨w9.heap.size, 1, none⟩ = some (.slice W9 l.length wc9) := cell_later hb10 (by go_simp)
              have x0 := cell_later hb10 x0
              have HT10 := hide (HT9.out.step hb10)
              have HA10 := hide (HA9.out.below hb10)
              have HH10 := hide (HH9.out.below hb10)
              have HW10 := hide (HW9.out.below hb10)
              have HB10 := hide (HB9.out.trans (hb10.mono HB9.out.size))
              have hs10 := hb10.size
              simp only [World.size_alloc] at hs10
              have s0 := HT10.out.s.c0
              have q0 := HT10.out.q.c0
              have q1 := HT10.out.q.c1
              clear hb10 HT9 HA9 HH9 HW9 HB9 HT8 HA8 HB8
              go_wp2_with fail
              refine (isSpin_any Ap Hp Wp l.length cp hcp wcp l' (900 * j) _ HT10.out.s.rd HT10.out.q.rh HT10.out.q.rw HSP.out (by omega)).mono ?_
              rintro e w11 ⟨rfl, hb11⟩
              have x0 : w11.cell? ⟨w8.heap.size, 0, none⟩ = some (.slice A8 l.length c8) := cell_later hb11 x0
              have y0 : w11.cell? ⟨w9.heap.size, 0, none⟩ = some (.slice H9 l.length hc9) := cell_later hb11 y0
              have y1 : w11.cell? ⟨w9.heap.size, 1, none⟩ = some (.slice W9 l.length wc9) := cell_later hb11 y1
              have HT11 := hide (HT10.out.step hb11)
              have HA11 := hide (HA10.out.below hb11)
              have HH11 := hide (HH10.out.below hb11)
              have HW11 := hide (HW10.out.below hb11)
              have HB11 := hide (HB10.out.trans (hb11.mono HB10.out.size))
              have s0 := HT11.out.s.c0
              have sf0 := HT11.out.s.f0
              have q0 := HT11.out.q.c0
              have q1 := HT11.out.q.c1
              have qf0 := HT11.out.q.f0
              have qf1 := HT11.out.q.f1
              have hne := HT11.out.ne
              have hsx : gs ≠ w8.heap.size := by omega
              have hsy : gs ≠ w9.heap.size := by omega
              have hqx : gq ≠ w8.heap.size := by omega
              have hqy : gq ≠ w9.heap.size := by omega
              clear hb11 HT10 HA10 HH10 HW10 HB10
              go_wp2_with fail
              have x0 : w11.drew.cell? ⟨w8.heap.size, 0, none⟩ = some (.slice A8 l.length c8) := x0
              have y0 : w11.drew.cell? ⟨w9.heap.size, 0, none⟩ = some (.slice H9 l.length hc9) := y0
              have y1 : w11.drew.cell? ⟨w9.heap.size, 1, none⟩ = some (.slice W9 l.length wc9) := y1
              have s0 : w11.drew.cell? ⟨gs, 0, none⟩ = some (.slice Ap l.length cp) := s0
              have q0 : w11.drew.cell? ⟨gq, 0, none⟩ = some (.slice Hp l.length hcp) := q0
              have q1 : w11.drew.cell? ⟨gq, 1, none⟩ = some (.slice Wp l.length wcp) := q1
              have sf0 : w11.drew.frozen? ⟨gs, 0, none⟩ = false := sf0
              have qf0 : w11.drew.frozen? ⟨gq, 0, none⟩ = false := qf0
              have qf1 : w11.drew.frozen? ⟨gq, 1, none⟩ = false := qf1
              go_region_held3 (fun W' => W'.cell? ⟨w8.heap.size, 0, none⟩ = some (.slice A8 l.length c8) ∧ W'.cell? ⟨w9.heap.size, 0, none⟩ = some (.slice H9 l.length hc9) ∧ W'.cell? ⟨w9.heap.size, 1, none⟩ = some (.slice W9 l.length wc9)) (go_keep) (fail)
              all_goals
                go_wp2_with fail
                go_roundw
                case rel => exact ⟨j + 1, l2, A8, c8, H9, hc9, W9, wc9, by omega, by go_num, Hll2.out, ((HT11.out.step (below_drew _ _)).turn HA11.out.drew HH11.out.drew HW11.out.drew Hfa8.out Hfh9.out Hfw9.out).1, HSP2.out, ((HB11.out.drew.setCell (p := ⟨gs, 0, none⟩) hgs0 _).setCell (p := ⟨gq, 0, none⟩) hgq0 _).setCell (p := ⟨gq, 1, none⟩) hgq0 _⟩
                case measure => simp [intOf]; omega
        · obtain rfl : j = n2 := by omega
          go_wp2_with fail
          go_ret
          exact ⟨rfl, HB.out⟩
end Go.Proofs.Ytnabckcdffpimaa
