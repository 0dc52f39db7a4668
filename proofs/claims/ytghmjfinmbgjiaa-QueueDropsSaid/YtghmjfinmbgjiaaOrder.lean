/-
  QueueOrder: who is put first is taken first, each once: the walk. Conditions: the list came in and can be read.
-/
import Derived.Test.YtghmjfinmbgjiaaSmall
namespace Go.Proofs.Ytghmjfinmbgjiaa
open Go.RowKit

/-- A queue in the variable whose block is g. -/
structure QB (w : World) (g : Nat) (room : Int) (A : Option Addr) (n c : Nat) (zs : List Int) : Prop where
  c0 : w.cell? ⟨g, 0, none⟩ = some (.int .i64 room)
  c1 : w.cell? ⟨g, 1, none⟩ = some (.slice A n c)
  f0 : w.frozen? ⟨g, 0, none⟩ = false
  f1 : w.frozen? ⟨g, 1, none⟩ = false
  rd : Rd w 1 A n c (u64s zs)
  far : ∀ ad, A = some ad → g < ad.block

section
variable {w w' : World} {g : Nat} {room : Int} {A : Option Addr} {n c : Nat} {zs : List Int}

theorem QB.lt (h : QB w g room A n c zs) : g < w.heap.size := World.block_lt_of_cell? w _ h.c0
theorem QB.grown (h : QB w g room A n c zs) {row : Option Nat} (hg : w.grownBy w' row) (hrow : ∀ k, row = some k → g < k) (hne : u64s zs ≠ [] → ∀ ad, A = some ad → row ≠ some ad.block) : QB w' g room A n c zs := by
  have hb : w'.heap[g]? = w.heap[g]? := hg.block g h.lt (fun e => by have := hrow g e.symm; omega)
  exact ⟨(World.cell?_of_block hb).trans h.c0, (World.cell?_of_block hb).trans h.c1, (World.frozen?_of_block hb).trans h.f0, (World.frozen?_of_block hb).trans h.f1, h.rd.grown hg hne, h.far⟩
theorem grown_of_below (h : Below w.heap.size w w') : w.grownBy w' none := ⟨h.os, h.tape, h.output, h.size, fun k hk _ => h.block k hk⟩
theorem QB.step (h : QB w g room A n c zs) (hb : Below w.heap.size w w') : QB w' g room A n c zs := h.grown (grown_of_below hb) (by simp) (by simp)
theorem QB.alloc (h : QB w g room A n c zs) (o : Obj) : QB (w.alloc o) g room A n c zs := h.step ((Below.refl _ _).alloc (Nat.le_refl _) o)

theorem QB.setCell (h : QB w g room A n c zs) {p : Addr} (hp : g < p.block) (v : Value) (hne : u64s zs ≠ [] → ∀ ad, A = some ad → p.block ≠ ad.block) : QB (w.setCell p v) g room A n c zs := by
  have hb : (w.setCell p v).heap[g]? = w.heap[g]? := Below.heap_setCell _ _ _ _ (by omega)
  exact ⟨(World.cell?_of_block hb).trans h.c0, (World.cell?_of_block hb).trans h.c1, (World.frozen?_of_block hb).trans h.f0, (World.frozen?_of_block hb).trans h.f1, h.rd.setCell v hne, h.far⟩

/-- 'q = next'. -/
theorem QB.store (h : QB w g room A n c zs) {A' : Option Addr} {n' c' : Nat} {zs' : List Int} {room' : Int} (hr : Rd w 1 A' n' c' (u64s zs')) (hf : ∀ ad, A' = some ad → g < ad.block) :
    QB ((w.setCell ⟨g, 0, none⟩ (.int .i64 room')).setCell ⟨g, 1, none⟩ (.slice A' n' c')) g room' A' n' c' zs' := by
  have h0 := h.c0
  have h1 := h.c1
  have h2 := h.f0
  have h3 := h.f1
  refine ⟨by simp [go_sem, h0, h1], by simp [go_sem, h0, h1], by simp [go_sem, h2], by simp [go_sem, h3], ?_, hf⟩
  refine (hr.setCell (p := ⟨g, 0, none⟩) _ ?_).setCell (p := ⟨g, 1, none⟩) _ ?_
  all_goals intro _ ad e; have := hf ad e; simp only; omega
end

set_option maxHeartbeats 1000000 in
theorem order_short (A0 : Option Addr) (n c : Nat) (l : List Int) (w : World) (hr : Rd w 1 A0 n c (u64s l)) (hn : n ≤ 64) :
    Calls Try.prog 3 #[.slice A0 n c] w fun e w' => e = .returned (.bool true) ∧ Below w.heap.size w w' := by
  obtain ⟨i0, hi0, hz0, hz1, hz2⟩ := info_parts Try.info29
  have Hr := hide hr; clear hr
  go_enter Try.func3, Try.ntmps3
  go_wp2_with fail
  refine (awake_any _).mono ?_
  rintro e w1 ⟨rfl, hb1⟩
  have Hb1 := hide hb1; clear hb1
  go_wp2_with fail
  refine (new_ok 64 _ (by omega) (by omega)).mono ?_
  rintro e w2 ⟨rfl, hb2⟩
  have Hb2 := hide (Hb1.out.trans (hb2.mono Hb1.out.size)); clear hb2 Hb1
  have hq : QB (w2.alloc (.cells #[.int .i64 64, .slice none 0 0] 25)) w2.heap.size 64 none 0 0 [] :=
    ⟨by go_simp, by go_simp, by go_simp, by go_simp, Rd.nil_ _ _, fun ad h => by cases h⟩
  have hB : Below w.heap.size w (w2.alloc (.cells #[.int .i64 64, .slice none 0 0] 25)) := Hb2.out.alloc Hb2.out.size _
  have hgN := Hb2.out.size
  have Hq := hide hq
  have HB := hide hB
  clear hq hB Hb2
  go_wp2_with fail
  generalize hW : w2.alloc (.cells #[.int .i64 64, .slice none 0 0] 25) = W at *
  generalize hg : w2.heap.size = g at *
  clear hW hg w2 w1
  go_loopw [5, 26] (fun v i wr => ∃ (k : Nat) (A : Option Addr) (c' : Nat) (zs : List Int), k ≤ n ∧ i = .int .i64 k ∧ zs.length ≤ k ∧ QB wr g 64 A zs.length c' zs ∧
      wr.ownsRow (g + 1) 29 1 v zs.length (u64s zs) ∧ (u64s zs ≠ [] → ∀ ad, A = some ad → v.ownBlock ≠ some ad.block) ∧ Below w.heap.size w wr) (fun _ i _ => n - (intOf i).toNat)
  case atStart => exact ⟨0, none, 0, [], Nat.zero_le _, rfl, Nat.le_refl _, Hq.out, World.ownsRow_nil _ _ _ _, by simp, HB.out⟩
  case round =>
    obtain ⟨k, A, c', zs, hk, rfl, hzk, hQ, hown, hapart, hbel⟩ := hrel
    obtain ⟨V, vc, rfl, hvr⟩ := own_slice hown
    have HQ := hide hQ
    have Hown := hide hown
    have Hvr := hide hvr
    clear hvr
    have Hap := hide hapart
    have Hbel := hide hbel
    clear hQ hown hapart hbel
    by_cases hlt : k < n
    · obtain ⟨ad, rfl⟩ := Hr.out.isSome (by omega)
      obtain ⟨x, ex⟩ : ∃ x, x = l.getD k 0 := ⟨_, rfl⟩
      have hcx : wr.cell? (ad.add k) = some (.int .u64 x) := by rw [ex]; exact cell_later (Hbel.out) (Hr.out.ints k hlt)
      clear ex
      have h0 := HQ.out.c0
      have h1 := HQ.out.c1
      cases hin : zs.contains x with
      | true =>
        have Hin := hide hin; clear hin
        go_wp2_with fail
        refine (put_twice 64 A _ c' zs x _ HQ.out.rd Hin.out).mono ?_
        rintro e w1 ⟨rfl, hb1⟩
        go_wp2_with fail
        have HQ1 := hide ((HQ.out.step hb1).alloc (.cells #[.int .i64 64, .slice A zs.length c'] 25))
        have Hv1 := hide ((Hvr.out.below hb1).alloc (.cells #[.int .i64 64, .slice A zs.length c'] 25))
        have Ho1 := hide ((own_below Hown.out hb1 (Nat.le_refl _)).alloc (.cells #[.int .i64 64, .slice A zs.length c'] 25))
        have HB1 := hide ((Hbel.out.trans (hb1.mono Hbel.out.size)).alloc (by have := Hbel.out.size; have := hb1.size; omega) (.cells #[.int .i64 64, .slice A zs.length c'] 25))
        refine (contains_yes V _ vc zs x _ Hv1.out Hin.out).mono ?_
        rintro e w' ⟨rfl, rfl⟩
        have g0 := HQ1.out.c0
        have g1 := HQ1.out.c1
        have g2 := HQ1.out.f0
        have g3 := HQ1.out.f1
        clear hb1 h0 h1 hcx
        go_wp2_with fail
        go_roundw
        case rel =>
          exact ⟨k + 1, A, c', zs, by omega, by go_num, by omega, HQ1.out.store HQ1.out.rd HQ1.out.far,
            ownsRow_setCell_below (ownsRow_setCell_below Ho1.out (by simp) _) (by simp) _, Hap.out, (HB1.out.setCell (p := ⟨g, 0, none⟩) hgN _).setCell (p := ⟨g, 1, none⟩) hgN _⟩
        case measure => simp [intOf]; omega
      | false =>
        have Hin := hide hin; clear hin
        go_wp2_with fail
        refine (put_ok 64 A _ c' zs x _ HQ.out.rd (by omega) Hin.out (by omega)).mono ?_
        rintro e w1 ⟨A', c1', rfl, hr1, hfr1, hb1⟩
        have hr1' : Rd w1 1 A' (zs ++ [x]).length c1' (u64s (zs ++ [x])) := by rw [show (zs ++ [x]).length = zs.length + 1 by simp]; exact hr1
        have HQ1 := hide ((HQ.out.step hb1).alloc (.cells #[.int .i64 64, .slice A' (zs.length + 1) c1'] 25))
        have Hr1 := hide (Rd.alloc hr1' (.cells #[.int .i64 64, .slice A' (zs.length + 1) c1'] 25))
        have Ho1 := hide ((own_below Hown.out hb1 (Nat.le_refl _)).alloc (.cells #[.int .i64 64, .slice A' (zs.length + 1) c1'] 25))
        have HB1 := hide ((Hbel.out.trans (hb1.mono Hbel.out.size)).alloc (by have := Hbel.out.size; have := hb1.size; omega) (.cells #[.int .i64 64, .slice A' (zs.length + 1) c1'] 25))
        have hgw : g < wr.heap.size := HQ.out.lt
        have hww := hb1.size
        clear hr1 hr1' hb1 h0 h1 hcx
        have hb8 : w1.heap.size < w1.heap.size + 1 := Nat.lt_succ_self _
        go_wp2_with ((at_builtin
                      refine wpList_append_rd _ rfl (.tmp 38) (.tmp 40) 22 rfl (g + 1) 29 i0 _ 1 8 Try.underlying22 hi0 hz0 hz1 hz2 rfl (by omega) (.slice V zs.length vc) zs.length (u64s zs) rfl (Ho1.out.alloc _) _ 1 1 [.int .u64 x] rfl (rd_new' _ _ _ _ (by simp)) (u64s_one [x]) (by simp only [maxLen]; omega) (by omega) (by simp; omega) ?_
                      intro v2 w2 hown2 hg2 hat2
                      have hrow : ∀ k, (Value.slice V zs.length vc).ownBlock = some k → g + 1 ≤ k ∧ k < wr.heap.size := fun k e => Hown.out.lt k e
                      have HQ2 := hide ((HQ1.out.alloc _).grown hg2 (fun k e => by have := hrow k e; omega) Hap.out)
                      have Hr2 := hide ((Hr1.out.alloc _).grown hg2 (fun _ ad e h => by have := hrow _ h; have := hfr1 ad e; omega))
                      have HB2 := hide (((HB1.out.alloc (by have := HB1.out.size; simpa using this) _).grown hg2 (by have := HB1.out.size; simp at this ⊢; omega) (fun k e => by have := hrow k e; omega)))
                      have hne8 : some w1.heap.size ≠ (Value.slice V zs.length vc).ownBlock := fun e => by have := hrow _ e.symm; omega
                      have k0 : w2.cell? ⟨w1.heap.size, 0, none⟩ = some (.int .i64 64) := hg2.cell (by go_simp) hne8
                      have k1 : w2.cell? ⟨w1.heap.size, 1, none⟩ = some (.slice A' (zs.length + 1) c1') := hg2.cell (by go_simp) hne8
                      have g0 := HQ2.out.c0
                      have g1 := HQ2.out.c1
                      have g2 := HQ2.out.f0
                      have g3 := HQ2.out.f1
                      have Hown2 := hide hown2
                      have Hat2 := hide hat2
                      have Hne8 := hide hne8
                      have Hrow := hide hrow
                      clear hown2 hg2 hat2 hne8 hrow))
        obtain ⟨V2, c2, rfl, hvr2⟩ := own_slice Hown2.out
        go_roundw
        case rel =>
          refine ⟨k + 1, A', c1', zs ++ [x], by omega, by go_num, by simp; omega, ?_, ?_, ?_, ?_⟩
          · rw [show (zs ++ [x]).length = zs.length + 1 by simp]
            have hr := Hr2.out
            rw [show (zs ++ [x]).length = zs.length + 1 by simp] at hr
            exact HQ2.out.store hr (fun ad e => by have := hfr1 ad e; omega)
          · rw [show (zs ++ [x]).length = zs.length + 1 by simp, show u64s (zs ++ [x]) = u64s zs ++ [.int .u64 x] by simp [u64s]]
            exact ownsRow_setCell_below (ownsRow_setCell_below Hown2.out (by simp) _) (by simp) _
          · intro _ ad e h
            have h1 := hfr1 ad e
            rcases Hat2.out with h2 | h2
            · rw [h2] at h
              have := Hrow.out _ h
              omega
            · rw [h2] at h
              have h3 := Hr1.out.lt (by simp [u64s]) e
              injection h with h
              simp at h h3
              omega
          · exact (HB2.out.setCell (p := ⟨g, 0, none⟩) hgN _).setCell (p := ⟨g, 1, none⟩) hgN _
        case measure => simp [intOf]; omega
    · obtain rfl : k = n := by omega
      clear hk hlt
      have hfv : ∀ ad, V = some ad → g < ad.block := fun ad e => (Hown.out.lt ad.block (by rw [e]; rfl)).1
      have Hfv := hide hfv
      have hz64 : zs.length ≤ 64 := by omega
      clear hfv hzk Hap
      go_wp2_with fail
      obtain ⟨wo, ewo⟩ : ∃ wo : World, wo = wr := ⟨_, rfl⟩
      subst ewo
      go_loopw [54] (fun i wx => ∃ (j : Nat) (ys : List Int) (A : Option Addr) (c' : Nat), j ≤ zs.length ∧ i = .int .i64 j ∧ zs.drop j = ys ∧ QB wx g 64 A ys.length c' ys ∧
        Rd wx 1 V zs.length vc (u64s zs) ∧ Below w.heap.size w wx) (fun i _ => zs.length - (intOf i).toNat)
      case atStart => exact ⟨0, zs, A, c', Nat.zero_le _, rfl, rfl, HQ.out, Hvr.out, Hbel.out⟩
      case round =>
        clear Hvr Hbel HQ Hown
        obtain ⟨j, ys, A, c', hj, rfl, hys, hQ, hvr, hbel⟩ := hrel
        have HQ := hide hQ
        have Hvr := hide hvr
        have Hbel := hide hbel
        clear hQ hvr hbel
        cases ys with
        | nil =>
          have hjl : j = zs.length := by
            have := congrArg List.length hys
            simp at this
            omega
          subst hjl
          clear hys hj
          have h0 := HQ.out.c0
          have h1 := HQ.out.c1
          go_wp2_with fail
          refine (len_any 64 A _ c' _).mono ?_
          rintro e w1 ⟨rfl, hb1⟩
          have Hb1 := hide hb1
          clear hb1
          go_wp2_with fail
          go_ret
          exact ⟨rfl, Hbel.out.trans (Hb1.out.mono Hbel.out.size)⟩
        | cons x ys =>
          have hjl : j < zs.length := by
            have := congrArg List.length hys
            simp at this
            omega
          have hyl : ys.length < 64 := by
            have := congrArg List.length hys
            simp at this
            omega
          have hx : zs.getD j 0 = x := by
            have := congrArg (fun l => l.getD 0 0) hys
            simpa [List.getD, hjl] using this
          have hys' : zs.drop (j + 1) = ys := by
            have := congrArg (List.drop 1) hys
            simpa [Nat.add_comm] using this
          have Hys := hide hys'
          clear hys hys'
          obtain ⟨vd, rfl⟩ := Hvr.out.isSome (by omega)
          obtain ⟨qd, rfl⟩ := HQ.out.rd.isSome (by simp)
          have hcx : wr.cell? (vd.add j) = some (.int .u64 x) := by rw [← hx]; exact Hvr.out.ints j hjl
          clear hx
          have h0 := HQ.out.c0
          have h1 := HQ.out.c1
          go_wp2_with fail
          have hql := HQ.out.rd.intLen
          refine (take_some 64 qd ys.length c' x ys _ HQ.out.rd (by omega)).mono ?_
          rintro e w1 ⟨A', c1', rfl, hr1, hfr1, hb1⟩
          have HQ1 := hide ((HQ.out.step hb1).alloc (.cells #[.int .i64 64, .slice A' ys.length c1'] 25))
          have Hr1 := hide (hr1.alloc (.cells #[.int .i64 64, .slice A' ys.length c1'] 25))
          have Hv1 := hide ((Hvr.out.below hb1).alloc (.cells #[.int .i64 64, .slice A' ys.length c1'] 25))
          have HB1 := hide ((Hbel.out.trans (hb1.mono Hbel.out.size)).alloc (by have := Hbel.out.size; have := hb1.size; omega) (.cells #[.int .i64 64, .slice A' ys.length c1'] 25))
          have hgw : g < wr.heap.size := HQ.out.lt
          have g0 := HQ1.out.c0
          have g1 := HQ1.out.c1
          have g2 := HQ1.out.f0
          have g3 := HQ1.out.f1
          have hxx : (x != x) = false := by simp
          clear hr1 hb1 h0 h1 hcx hql
          go_wp2_with fail
          go_roundw
          case rel =>
            refine ⟨j + 1, ys, A', c1', by omega, by go_num, Hys.out, HQ1.out.store Hr1.out (fun ad e => by have := hfr1 ad e; omega), ?_, (HB1.out.setCell (p := ⟨g, 0, none⟩) hgN _).setCell (p := ⟨g, 1, none⟩) hgN _⟩
            refine (Hv1.out.setCell (p := ⟨g, 0, none⟩) _ ?_).setCell (p := ⟨g, 1, none⟩) _ ?_
            all_goals intro _ ad e; have := Hfv.out ad e; simp only; omega
          case measure => simp [intOf]; omega

set_option maxHeartbeats 400000 in
theorem order_long (A0 : Option Addr) (n c : Nat) (w : World) (hn : 64 < n) :
    Calls Try.prog 3 #[.slice A0 n c] w fun e w' => e = .returned (.bool true) ∧ Below w.heap.size w w' := by
  go_enter Try.func3, Try.ntmps3
  go_wp2_with fail
  refine (awake_any _).mono ?_
  rintro e w1 ⟨rfl, hb1⟩
  have Hb1 := hide hb1; clear hb1
  go_wp2_with fail
  go_ret
  exact ⟨rfl, Hb1.out⟩

theorem order_any (A0 : Option Addr) (n c : Nat) (l : List Int) (w : World) (hr : Rd w 1 A0 n c (u64s l)) :
    Calls Try.prog 3 #[.slice A0 n c] w fun e w' => e = .returned (.bool true) ∧ Below w.heap.size w w' := by
  rcases Nat.lt_or_ge 64 n with h | h
  · exact order_long A0 n c w h
  · exact order_short A0 n c l w hr h
end Go.Proofs.Ytghmjfinmbgjiaa
