/-
  Join: one queue behind another; who is left over. Conditions: both queues' slices can be read, and are short.
-/
import Derived.Test.YtghmjfinmbgjiaaJoin1
namespace Go.Proofs.Ytghmjfinmbgjiaa
open Go.RowKit

/-- One is left over. -/
theorem put_left (room : Int) (A : Option Addr) (n c : Nat) (zs : List Int) (id : Int) (w : World) (hr : Rd w 1 A n c (u64s zs)) (h : zs.contains id = true ∨ room ≤ (n : Int)) :
    Calls Try.prog 9 #[qv room A n c, .int .u64 id] w fun e w' => ∃ q : Int, (q != 0) = true ∧ e = .returned (.tuple #[qv room A n c, .int .i64 q]) ∧ Below w.heap.size w w' := by
  cases hin : zs.contains id with
  | true => exact (put_twice room A n c zs id w hr hin).mono fun e w' ⟨he, hb⟩ => ⟨11, rfl, he, hb⟩
  | false =>
    rw [hin] at h
    exact (put_full room A n c zs id w hr hin (h.resolve_left (by simp))).mono fun e w' ⟨he, hb⟩ => ⟨17, rfl, he, hb⟩

set_option maxRecDepth 100000 in
set_option maxHeartbeats 8000000 in
theorem join_any (room roomB : Int) (A : Option Addr) (n c : Nat) (B : Option Addr) (m d : Nat) (zs ys : List Int) (w : World) (ha : Rd w 1 A n c (u64s zs)) (hb : Rd w 1 B m d (u64s ys)) (hn : n ≤ 1000) (hm : m ≤ 1000) (zf rf : List Int) (hP : jfold room zs ys = (zf, rf)) :
    Calls Try.prog 14 #[qv room A n c, qv roomB B m d] w fun e w' => ∃ A' c' L lc, e = .returned (.tuple #[qv room A' zf.length c', .slice L rf.length lc]) ∧
      Rd w' 1 A' zf.length c' (u64s zf) ∧ Rd w' 1 L rf.length lc (u64s rf) ∧ Below w.heap.size w w' := by
  obtain ⟨i0, hi0, hz0, hz1, hz2⟩ := info_parts Try.info29
  have hzl := ha.intLen
  have hyl := hb.intLen
  have HS := hide (JT.start (room := room) ha hb roomB)
  have HP := hide hP
  have Hyl := hide hyl
  clear ha hb hP
  go_enter Try.func14, Try.ntmps14
  go_wp2_with fail
  refine wp_scope_once 0 (fun a' w' => ∃ (k : Nat) (A' : Option Addr) (c' : Nat) (zs' r : List Int) (v : Value) (u8 u9 u10 u11 u12 u13 u14 u15 u16 u17 u18 u19 u20 u21 u22 u23 u24 u25 u26 u27 u28 u29 u30 u31 u32 u33 u34 u35 u36 u37 u38 u39 : Value), a' = { tmps := #[qv room A n c, qv roomB B m d, .pointer (some ⟨w.heap.size, 0, none⟩), .pointer (some ⟨w.heap.size + 1, 0, none⟩), .pointer (some ⟨w.heap.size + 1 + 1, 0, none⟩), .slice none 0 0, v, .int .i64 k, u8, u9, u10, u11, u12, u13, u14, u15, u16, u17, u18, u19, u20, u21, u22, u23, u24, u25, u26, u27, u28, u29, u30, u31, u32, u33, u34, u35, u36, u37, u38, u39], defers := [] } ∧
      k ≤ m ∧ jfold room zs (ys.take k) = (zs', r) ∧ JT w room A' zs'.length c' zs' B m d ys v r.length r w') (fun a' _ => m - (intOf (a'.tmps.getD 7 undef)).toNat) rfl ?_ ?_
  · intro hpass
    go_wp2_with fail
    refine wp_label ?_
    rename_i hK
    refine hK _ _ (hpass _ _ ⟨0, A, c, zs, [], .slice none 0 0, _, _, _, _, _, _, _, _, _, _, _, _, _, _, _, _, _, _, _, _, _, _, _, _, _, _, _, _, _, _, _, _, rfl, Nat.zero_le _, by simp [jfold], ?_⟩)
    rw [hzl]
    exact HS.out
  · clear HS
    rintro a' w' ⟨k, A', c', zs', r, v, u8, u9, u10, u11, u12, u13, u14, u15, u16, u17, u18, u19, u20, u21, u22, u23, u24, u25, u26, u27, u28, u29, u30, u31, u32, u33, u34, u35, u36, u37, u38, u39, rfl, hk, hf, hJ⟩
    obtain ⟨L, lc, rfl, hlr⟩ := own_slice hJ.o
    have hlen := jfold_len room zs ys k
    rw [hf] at hlen
    simp only at hlen
    have HJ := hide hJ
    have c0 := hJ.a0
    have c1 := hJ.a1
    have d1 := hJ.b1
    by_cases hkm : k = m
    · subst hkm
      have hfin : (zs', r) = (zf, rf) := by rw [← hf, ← HP.out, List.take_of_length_le (by omega)]
      injection hfin with e1 e2
      subst e1 e2
      have r0 := hJ.r0
      have r1 := hJ.r1
      have r2 := hJ.r2
      have r3 := hJ.r3
      clear hJ hf
      have h1 : u64s zs' ≠ [] → ∀ ad, A' = some ad → w.heap.size + 1 + 1 ≠ ad.block := fun hx ad e => (HJ.out.af hx ad e).2
      have h2 : u64s r ≠ [] → ∀ ad, L = some ad → w.heap.size + 1 + 1 ≠ ad.block := fun hx ad e => by have := (HJ.out.o.lt ad.block (by rw [e]; rfl)).1; omega
      have H1 := hide h1
      have H2 := hide h2
      clear h1 h2
      go_wp2_with fail
      simp only [Exit.jump]
      show bodyPost Try.prog Try.f14 _ .ret _ _
      refine bodyPost_ret (v := .tuple #[qv room A' zs'.length c', .slice L r.length lc]) (by simp [results, Try.results14, go_sem, r0, r1]) rfl ⟨A', c', L, lc, rfl, ?_, ?_, ?_⟩
      · exact (HJ.out.ar.setCell (p := ⟨w.heap.size + 1 + 1, 0, none⟩) _ H1.out).setCell (p := ⟨w.heap.size + 1 + 1, 1, none⟩) _ H1.out
      · exact (hlr.setCell (p := ⟨w.heap.size + 1 + 1, 0, none⟩) _ H2.out).setCell (p := ⟨w.heap.size + 1 + 1, 1, none⟩) _ H2.out
      · exact (HJ.out.bel.setCell (p := ⟨w.heap.size + 1 + 1, 0, none⟩) (by simp only; omega) _).setCell (p := ⟨w.heap.size + 1 + 1, 1, none⟩) (by simp only; omega) _
    · have hlt : k < m := by omega
      have hki : ((k : Int) == (m : Int)) = false := by simp; omega
      obtain ⟨⟨bb, bo, bsp⟩, rfl⟩ := hJ.br.isSome (by omega)
      obtain rfl : bsp = none := hJ.br.spot (by intro e; have := congrArg List.length e; simp at this; rw [this] at hyl; simp at hyl; omega)
      obtain ⟨y, hy⟩ : ∃ y, ys.getD k 0 = y := ⟨_, rfl⟩
      have hcell : w'.cell? ⟨bb, bo + k, none⟩ = some (.int .u64 y) := by
        have := hJ.br.ints k hlt
        rw [hy] at this
        simpa [Addr.add_lit] using this
      have hst := jfold_succ room zs ys k (by omega)
      rw [hf, hy] at hst
      have Hst := hide hst
      have Hf := hide hf
      have Hy := hide hy
      have Hlen := hide hlen
      clear hst hf hy hlr hcell hlen c0 c1 d1
      by_cases hc : zs'.contains y = true ∨ room ≤ (zs'.length : Int)
      · have Hc := hide hc
        have hj : jstep room (zs', r) y = (zs', r ++ [y]) := by unfold jstep; rw [if_pos hc]
        rw [hj] at Hst
        clear hc hj hJ
        have c0 := HJ.out.a0
        have c1 := HJ.out.a1
        have d1 := HJ.out.b1
        have e1 := HJ.out.elem hlt Hy.out
        have k0 : (0 : Int) ≤ (k : Int) := by omega
        have k1 : (k : Int) < (m : Int) := by omega
        have h9 := HJ.out.sz
        have g1 : ¬ w'.heap.size = w.heap.size := by omega
        have g2 : ¬ w'.heap.size = w.heap.size + 1 := by omega
        have g3 : ¬ w'.heap.size = bb := by have := World.block_lt_of_cell? _ _ e1; simp only at this; omega
        clear h9
        go_wp2_with fail
        have Hk := hide hk
        have Hlt := hide hlt
        clear hk hkm hlt
        go_region_held3 (fun w'' => w''.cell? ⟨w.heap.size, 0, none⟩ = some (.int .i64 room) ∧ w''.cell? ⟨w.heap.size, 1, none⟩ = some (.slice A' zs'.length c') ∧ w''.cell? ⟨w.heap.size + 1, 1, none⟩ = some (.slice (some ⟨bb, bo, none⟩) m d) ∧ w''.cell? ⟨bb, bo + k, none⟩ = some (.int .u64 y)) (go_keep)
          (first
            | (go_at_call 9
               (with_reducible refine (put_left room _ _ _ zs' y _ (by first | exact HJ.out.drew.ar | exact (HJ.out.alloc _).drew.ar) Hc.out).mono ?_)
               rintro e w3 ⟨q3, hq3, rfl, hb3⟩
               have Hq3 := hide hq3
               clear hq3
               have HJ3 := hide ((by first | exact HJ.out.drew.step hb3 | exact (HJ.out.alloc _).drew.step hb3) : JT w room A' zs'.length c' zs' (some ⟨bb, bo, none⟩) m d ys (.slice L r.length lc) r.length r w3)
               try (have n0 := cell_later hb3 (show (w'.alloc (.cells #[.int .i64 0, .slice none 0 0] 25)).drew.cell? ⟨w'.heap.size, 0, none⟩ = some (.int .i64 0) by go_simp))
               try (have n1 := cell_later hb3 (show (w'.alloc (.cells #[.int .i64 0, .slice none 0 0] 25)).drew.cell? ⟨w'.heap.size, 1, none⟩ = some (.slice none 0 0) by go_simp))
               try (have n2 := (hb3.frozen (p := ⟨w'.heap.size, 0, none⟩) (by simp)).trans (show (w'.alloc (.cells #[.int .i64 0, .slice none 0 0] 25)).drew.frozen? ⟨w'.heap.size, 0, none⟩ = false by go_simp))
               try (have n3 := (hb3.frozen (p := ⟨w'.heap.size, 1, none⟩) (by simp)).trans (show (w'.alloc (.cells #[.int .i64 0, .slice none 0 0] 25)).drew.frozen? ⟨w'.heap.size, 1, none⟩ = false by go_simp))
               clear c0 c1 d1 e1
               have c0 := HJ3.out.a0
               have c1 := HJ3.out.a1
               have d1 := HJ3.out.b1
               have e1 := HJ3.out.elem Hlt.out Hy.out
               have g4 : ¬ w3.heap.size = w.heap.size := by have := HJ3.out.sz; omega
               have g5 : ¬ w3.heap.size = w.heap.size + 1 := by have := HJ3.out.sz; omega
               have g6 : ¬ w3.heap.size = bb := by have := World.block_lt_of_cell? _ _ e1; simp only at this; omega
               clear hb3)
            | fail)
        · have HJ4 := hide (HJ3.out.alloc (.cells #[.int .i64 room, .slice A' zs'.length c'] 25))
          have x0 : (w3.alloc (.cells #[.int .i64 room, .slice A' zs'.length c'] 25)).cell? ⟨w3.heap.size, 0, none⟩ = some (.int .i64 room) := by go_simp
          have x1 : (w3.alloc (.cells #[.int .i64 room, .slice A' zs'.length c'] 25)).cell? ⟨w3.heap.size, 1, none⟩ = some (.slice A' zs'.length c') := by go_simp
          have HR4 := hide HJ4.out.ar
          have HF4 := hide (HJ4.out.af)
          have HG4 := hide (HJ4.out.ap)
          generalize hW4 : w3.alloc (.cells #[.int .i64 room, .slice A' zs'.length c'] 25) = W4 at *
          generalize hnb : w3.heap.size = nb at *
          clear hW4 hnb c0 c1 d1 e1 g1 g2 g3 g4 g5 g6
          try clear n0 n1 n2 n3
          have c0 := HJ4.out.a0
          have c1 := HJ4.out.a1
          have c2 := HJ4.out.a2
          have c3' := HJ4.out.a3
          have HJ5 := hide (HJ4.out.store HR4.out HF4.out HG4.out)
          have d1 := HJ5.out.b1
          have e1 := HJ5.out.elem Hlt.out Hy.out
          have q3 := Hq3.out
          have Hsz := hide (show w.heap.size + 1 + 1 + 1 ≤ ((W4.setCell ⟨w.heap.size, 0, none⟩ (.int .i64 room)).setCell ⟨w.heap.size, 1, none⟩ (.slice A' zs'.length c')).heap.size from by have := HJ5.out.sz; omega)
          have hrl := Hlen.out
          go_wp2_with ((at_builtin
                        refine wpList_append_rd _ rfl (.tmp 30) (.tmp 36) 22 rfl (w.heap.size + 1 + 1 + 1) 29 i0 _ 1 8 Try.underlying22 hi0 hz0 hz1 hz2 rfl (by omega) (.slice L r.length lc) r.length (u64s r) rfl (HJ5.out.o.alloc _) _ 1 1 [.int .u64 y] rfl (rd_new' _ _ _ _ (by simp)) (u64s_one [y]) (by simp only [maxLen]; omega) (by omega) (by have := Hsz.out; simp at this ⊢; omega) ?_
                        intro v2 w2 hown2 hg2 hat2
                        have HJ6 := hide ((HJ5.out.alloc _).grown hg2 (fun k e => (HJ5.out.o.lt k e).1) HJ5.out.ap (snoc_u64s r y ▸ hown2) (fun hx ad e h => by
                          rcases hat2 with h2 | h2
                          · exact HJ5.out.ap hx ad e (h2 ▸ h)
                          · rw [h2] at h
                            have h3 := HJ5.out.ar.lt hx e
                            injection h with h
                            simp at h h3
                            omega))
                        clear hown2 hg2 hat2 c0 c1 c2 c3' d1 e1 x0 x1))
          refine wp_goto ?_
          refine ⟨rfl, ⟨k + 1, A', c', zs', r ++ [y], _, _, _, _, _, _, _, _, _, _, _, _, _, _, _, _, _, _, _, _, _, _, _, _, _, _, _, _, _, _, _, _, _, rfl, by have := Hlt.out; omega, Hst.out, by rw [List.length_append]; exact HJ6.out⟩, ?_⟩
          simp [intOf]
          have := Hlt.out
          omega
        · have HJ4 := hide ((HJ3.out.far ⟨w'.heap.size, 0, none⟩ (by have := HJ.out.sz; simp only; omega) (fun hx ad e => by have := HJ.out.ar.lt hx e; simp only; omega) (fun e => by have := (HJ.out.o.lt _ e).2; simp only at this; omega) (.int .i64 room)).far ⟨w'.heap.size, 1, none⟩ (by have := HJ.out.sz; simp only; omega) (fun hx ad e => by have := HJ.out.ar.lt hx e; simp only; omega) (fun e => by have := (HJ.out.o.lt _ e).2; simp only at this; omega) (.slice A' zs'.length c'))
          have x0 : ((w3.setCell ⟨w'.heap.size, 0, none⟩ (.int .i64 room)).setCell ⟨w'.heap.size, 1, none⟩ (.slice A' zs'.length c')).cell? ⟨w'.heap.size, 0, none⟩ = some (.int .i64 room) := by go_simp
          have x1 : ((w3.setCell ⟨w'.heap.size, 0, none⟩ (.int .i64 room)).setCell ⟨w'.heap.size, 1, none⟩ (.slice A' zs'.length c')).cell? ⟨w'.heap.size, 1, none⟩ = some (.slice A' zs'.length c') := by go_simp
          have HR4 := hide HJ4.out.ar
          have HF4 := hide (HJ4.out.af)
          have HG4 := hide (HJ4.out.ap)
          generalize hW4 : (w3.setCell ⟨w'.heap.size, 0, none⟩ (.int .i64 room)).setCell ⟨w'.heap.size, 1, none⟩ (.slice A' zs'.length c') = W4 at *
          generalize hnb : w'.heap.size = nb at *
          clear hW4 hnb c0 c1 d1 e1 g1 g2 g3 g4 g5 g6
          try clear n0 n1 n2 n3
          have c0 := HJ4.out.a0
          have c1 := HJ4.out.a1
          have c2 := HJ4.out.a2
          have c3' := HJ4.out.a3
          have HJ5 := hide (HJ4.out.store HR4.out HF4.out HG4.out)
          have d1 := HJ5.out.b1
          have e1 := HJ5.out.elem Hlt.out Hy.out
          have q3 := Hq3.out
          have Hsz := hide (show w.heap.size + 1 + 1 + 1 ≤ ((W4.setCell ⟨w.heap.size, 0, none⟩ (.int .i64 room)).setCell ⟨w.heap.size, 1, none⟩ (.slice A' zs'.length c')).heap.size from by have := HJ5.out.sz; omega)
          have hrl := Hlen.out
          go_wp2_with ((at_builtin
                        refine wpList_append_rd _ rfl (.tmp 30) (.tmp 36) 22 rfl (w.heap.size + 1 + 1 + 1) 29 i0 _ 1 8 Try.underlying22 hi0 hz0 hz1 hz2 rfl (by omega) (.slice L r.length lc) r.length (u64s r) rfl (HJ5.out.o.alloc _) _ 1 1 [.int .u64 y] rfl (rd_new' _ _ _ _ (by simp)) (u64s_one [y]) (by simp only [maxLen]; omega) (by omega) (by have := Hsz.out; simp at this ⊢; omega) ?_
                        intro v2 w2 hown2 hg2 hat2
                        have HJ6 := hide ((HJ5.out.alloc _).grown hg2 (fun k e => (HJ5.out.o.lt k e).1) HJ5.out.ap (snoc_u64s r y ▸ hown2) (fun hx ad e h => by
                          rcases hat2 with h2 | h2
                          · exact HJ5.out.ap hx ad e (h2 ▸ h)
                          · rw [h2] at h
                            have h3 := HJ5.out.ar.lt hx e
                            injection h with h
                            simp at h h3
                            omega))
                        clear hown2 hg2 hat2 c0 c1 c2 c3' d1 e1 x0 x1))
          refine wp_goto ?_
          refine ⟨rfl, ⟨k + 1, A', c', zs', r ++ [y], _, _, _, _, _, _, _, _, _, _, _, _, _, _, _, _, _, _, _, _, _, _, _, _, _, _, _, _, _, _, _, _, _, rfl, by have := Hlt.out; omega, Hst.out, by rw [List.length_append]; exact HJ6.out⟩, ?_⟩
          simp [intOf]
          have := Hlt.out
          omega
      · have hj : jstep room (zs', r) y = (zs' ++ [y], r) := by unfold jstep; rw [if_neg hc]
        have Hc1 := hide (show zs'.contains y = false from by cases h : zs'.contains y with
          | false => rfl
          | true => exact absurd (.inl h) hc)
        have Hc2 := hide (show (zs'.length : Int) < room from by
          have : ¬ room ≤ (zs'.length : Int) := fun h => hc (.inr h)
          omega)
        rw [hj] at Hst
        clear hc hj hJ
        have c0 := HJ.out.a0
        have c1 := HJ.out.a1
        have d1 := HJ.out.b1
        have e1 := HJ.out.elem hlt Hy.out
        have k0 : (0 : Int) ≤ (k : Int) := by omega
        have k1 : (k : Int) < (m : Int) := by omega
        have h9 := HJ.out.sz
        have g1 : ¬ w'.heap.size = w.heap.size := by omega
        have g2 : ¬ w'.heap.size = w.heap.size + 1 := by omega
        have g3 : ¬ w'.heap.size = bb := by have := World.block_lt_of_cell? _ _ e1; simp only at this; omega
        clear h9
        go_wp2_with fail
        have Hk := hide hk
        have Hlt := hide hlt
        clear hk hkm hlt
        go_region_held3 (fun w'' => w''.cell? ⟨w.heap.size, 0, none⟩ = some (.int .i64 room) ∧ w''.cell? ⟨w.heap.size, 1, none⟩ = some (.slice A' zs'.length c') ∧ w''.cell? ⟨w.heap.size + 1, 1, none⟩ = some (.slice (some ⟨bb, bo, none⟩) m d) ∧ w''.cell? ⟨bb, bo + k, none⟩ = some (.int .u64 y)) (go_keep)
          (first
            | (go_at_call 9
               (with_reducible refine (put_ok room _ _ _ zs' y _ (by first | exact HJ.out.drew.ar | exact (HJ.out.alloc _).drew.ar) (by have := Hlen.out; omega) (Hc1.out) (Hc2.out)).mono ?_)
               rintro e w3 ⟨A3, c3, rfl, hr3, hf3, hb3⟩
               have HR := hide hr3
               have HF := hide (show ∀ ad, A3 = some ad → w'.heap.size ≤ ad.block from fun ad e => Nat.le_trans (by first | exact Nat.le_refl _ | (show w'.heap.size ≤ (w'.alloc (.cells #[.int .i64 0, .slice none 0 0] 25)).heap.size; simp)) (hf3 ad e))
               try (have HF2 := hide (show ∀ ad, A3 = some ad → w'.heap.size < ad.block from fun ad e => Nat.lt_of_lt_of_le (by (show w'.heap.size < (w'.alloc (.cells #[.int .i64 0, .slice none 0 0] 25)).heap.size; simp)) (hf3 ad e)))
               clear hr3 hf3
               have HJ3 := hide ((by first | exact HJ.out.drew.step hb3 | exact (HJ.out.alloc _).drew.step hb3) : JT w room A' zs'.length c' zs' (some ⟨bb, bo, none⟩) m d ys (.slice L r.length lc) r.length r w3)
               try (have n0 := cell_later hb3 (show (w'.alloc (.cells #[.int .i64 0, .slice none 0 0] 25)).drew.cell? ⟨w'.heap.size, 0, none⟩ = some (.int .i64 0) by go_simp))
               try (have n1 := cell_later hb3 (show (w'.alloc (.cells #[.int .i64 0, .slice none 0 0] 25)).drew.cell? ⟨w'.heap.size, 1, none⟩ = some (.slice none 0 0) by go_simp))
               try (have n2 := (hb3.frozen (p := ⟨w'.heap.size, 0, none⟩) (by simp)).trans (show (w'.alloc (.cells #[.int .i64 0, .slice none 0 0] 25)).drew.frozen? ⟨w'.heap.size, 0, none⟩ = false by go_simp))
               try (have n3 := (hb3.frozen (p := ⟨w'.heap.size, 1, none⟩) (by simp)).trans (show (w'.alloc (.cells #[.int .i64 0, .slice none 0 0] 25)).drew.frozen? ⟨w'.heap.size, 1, none⟩ = false by go_simp))
               clear c0 c1 d1 e1
               have c0 := HJ3.out.a0
               have c1 := HJ3.out.a1
               have d1 := HJ3.out.b1
               have e1 := HJ3.out.elem Hlt.out Hy.out
               have g4 : ¬ w3.heap.size = w.heap.size := by have := HJ3.out.sz; omega
               have g5 : ¬ w3.heap.size = w.heap.size + 1 := by have := HJ3.out.sz; omega
               have g6 : ¬ w3.heap.size = bb := by have := World.block_lt_of_cell? _ _ e1; simp only at this; omega
               clear hb3)
            | fail)
        · have HJ4 := hide (HJ3.out.alloc (.cells #[.int .i64 room, .slice A3 (zs'.length + 1) c3] 25))
          have x0 : (w3.alloc (.cells #[.int .i64 room, .slice A3 (zs'.length + 1) c3] 25)).cell? ⟨w3.heap.size, 0, none⟩ = some (.int .i64 room) := by go_simp
          have x1 : (w3.alloc (.cells #[.int .i64 room, .slice A3 (zs'.length + 1) c3] 25)).cell? ⟨w3.heap.size, 1, none⟩ = some (.slice A3 (zs'.length + 1) c3) := by go_simp
          have HR4 := hide (HR.out.alloc (.cells #[.int .i64 room, .slice A3 (zs'.length + 1) c3] 25))
          have HF4 := hide (show u64s (zs' ++ [y]) ≠ [] → ∀ ad, A3 = some ad → w.heap.size ≠ ad.block ∧ w.heap.size + 1 + 1 ≠ ad.block from fun _ ad e => by have := HF.out ad e; have := HJ.out.sz; constructor <;> omega)
          have HG4 := hide (show u64s (zs' ++ [y]) ≠ [] → ∀ ad, A3 = some ad → (Value.slice L r.length lc).ownBlock ≠ some ad.block from fun _ ad e h => by have := HF.out ad e; have := (HJ.out.o.lt _ h).2; omega)
          generalize hW4 : w3.alloc (.cells #[.int .i64 room, .slice A3 (zs'.length + 1) c3] 25) = W4 at *
          generalize hnb : w3.heap.size = nb at *
          clear hW4 hnb c0 c1 d1 e1 g1 g2 g3 g4 g5 g6
          try clear n0 n1 n2 n3
          have c0 := HJ4.out.a0
          have c1 := HJ4.out.a1
          have c2 := HJ4.out.a2
          have c3' := HJ4.out.a3
          have HJ5 := hide (HJ4.out.store HR4.out HF4.out HG4.out)
          have d1 := HJ5.out.b1
          have e1 := HJ5.out.elem Hlt.out Hy.out
          go_wp2_with fail
          refine wp_goto ?_
          refine ⟨rfl, ⟨k + 1, A3, c3, zs' ++ [y], r, _, _, _, _, _, _, _, _, _, _, _, _, _, _, _, _, _, _, _, _, _, _, _, _, _, _, _, _, _, _, _, _, _, rfl, by have := Hlt.out; omega, Hst.out, by rw [List.length_append]; exact HJ5.out⟩, ?_⟩
          simp [intOf]
          have := Hlt.out
          omega
        · have HJ4 := hide ((HJ3.out.far ⟨w'.heap.size, 0, none⟩ (by have := HJ.out.sz; simp only; omega) (fun hx ad e => by have := HJ.out.ar.lt hx e; simp only; omega) (fun e => by have := (HJ.out.o.lt _ e).2; simp only at this; omega) (.int .i64 room)).far ⟨w'.heap.size, 1, none⟩ (by have := HJ.out.sz; simp only; omega) (fun hx ad e => by have := HJ.out.ar.lt hx e; simp only; omega) (fun e => by have := (HJ.out.o.lt _ e).2; simp only at this; omega) (.slice A3 (zs'.length + 1) c3))
          have x0 : ((w3.setCell ⟨w'.heap.size, 0, none⟩ (.int .i64 room)).setCell ⟨w'.heap.size, 1, none⟩ (.slice A3 (zs'.length + 1) c3)).cell? ⟨w'.heap.size, 0, none⟩ = some (.int .i64 room) := by go_simp
          have x1 : ((w3.setCell ⟨w'.heap.size, 0, none⟩ (.int .i64 room)).setCell ⟨w'.heap.size, 1, none⟩ (.slice A3 (zs'.length + 1) c3)).cell? ⟨w'.heap.size, 1, none⟩ = some (.slice A3 (zs'.length + 1) c3) := by go_simp
          have HR4 := hide ((HR.out.setCell (p := ⟨w'.heap.size, 0, none⟩) (.int .i64 room) (fun hx ad e => by have := HF2.out ad e; simp only; omega)).setCell (p := ⟨w'.heap.size, 1, none⟩) (.slice A3 (zs'.length + 1) c3) (fun hx ad e => by have := HF2.out ad e; simp only; omega))
          have HF4 := hide (show u64s (zs' ++ [y]) ≠ [] → ∀ ad, A3 = some ad → w.heap.size ≠ ad.block ∧ w.heap.size + 1 + 1 ≠ ad.block from fun _ ad e => by have := HF.out ad e; have := HJ.out.sz; constructor <;> omega)
          have HG4 := hide (show u64s (zs' ++ [y]) ≠ [] → ∀ ad, A3 = some ad → (Value.slice L r.length lc).ownBlock ≠ some ad.block from fun _ ad e h => by have := HF.out ad e; have := (HJ.out.o.lt _ h).2; omega)
          generalize hW4 : (w3.setCell ⟨w'.heap.size, 0, none⟩ (.int .i64 room)).setCell ⟨w'.heap.size, 1, none⟩ (.slice A3 (zs'.length + 1) c3) = W4 at *
          generalize hnb : w'.heap.size = nb at *
          clear hW4 hnb c0 c1 d1 e1 g1 g2 g3 g4 g5 g6
          try clear n0 n1 n2 n3
          have c0 := HJ4.out.a0
          have c1 := HJ4.out.a1
          have c2 := HJ4.out.a2
          have c3' := HJ4.out.a3
          have HJ5 := hide (HJ4.out.store HR4.out HF4.out HG4.out)
          have d1 := HJ5.out.b1
          have e1 := HJ5.out.elem Hlt.out Hy.out
          go_wp2_with fail
          refine wp_goto ?_
          refine ⟨rfl, ⟨k + 1, A3, c3, zs' ++ [y], r, _, _, _, _, _, _, _, _, _, _, _, _, _, _, _, _, _, _, _, _, _, _, _, _, _, _, _, _, _, _, _, _, _, rfl, by have := Hlt.out; omega, Hst.out, by rw [List.length_append]; exact HJ5.out⟩, ?_⟩
          simp [intOf]
          have := Hlt.out
          omega
end Go.Proofs.Ytghmjfinmbgjiaa
