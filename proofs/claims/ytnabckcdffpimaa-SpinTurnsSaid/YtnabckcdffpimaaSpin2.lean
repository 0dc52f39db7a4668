/-
  Contracts of a spin's functions: New. Conditions: the slices can be read; the numbers are small.
-/
import Derived.Test.YtnabckcdffpimaaSpin
import Derived.Outline
namespace Go.Proofs.Ytnabckcdffpimaa
open Go.RowKit Ieee

/-- A weight that may be. -/
abbrev okW (x : Int) : Prop := 1 ≤ x ∧ x ≤ 100
/-- Nothing in hand. -/
abbrev fresh (ws : List Int) : List PN := ws.map fun x => (0, x)

set_option maxRecDepth 100000 in
set_option maxHeartbeats 4000000 in
theorem new_many (A : Option Addr) (n c : Nat) (w : World) (hn : 8 < n) :
    Calls Try.prog 18 #[.slice A n c] w fun e w' => e = .returned (.tuple #[sv none 0 0, .int .i64 6]) ∧ Below w.heap.size w w' := by
  have hgt : (8 : Int) < (n : Int) := by omega
  go_enter Try.func18, Try.ntmps18
  go_wp2_with fail
  refine wp_scope_jumps 0 (fun a' w' => ∃ (u0 u1 u3 u4 u6 u7 u8 u9 u10 u11 u12 u13 u14 u15 u16 u17 u18 u19 u20 u21 u22 u23 u24 u25 u26 u27 u28 u29 u30 u31 u32 u33 u34 u35 u36 u37 u38 u39 : Value),
    a' = { tmps := #[u0, u1, .pointer (some ⟨w.heap.size, 0, none⟩), u3, u4, .int .i64 6, u6, u7, u8, u9, u10, u11, u12, u13, u14, u15, u16, u17, u18, u19, u20, u21, u22, u23, u24, u25, u26, u27, u28, u29, u30, u31, u32, u33, u34, u35, u36, u37, u38, u39], defers := [] } ∧
    w'.cell? ⟨w.heap.size, 0, none⟩ = some (.slice none 0 0) ∧ w'.frozen? ⟨w.heap.size, 0, none⟩ = false ∧ w.heap.size ≤ w'.heap.size ∧ Below w.heap.size w w') (fun _ _ => 0) rfl ?_ ?_
  · go_wp2_with fail
    refine wp_goto ?_
    refine ⟨rfl, ⟨_, _, _, _, _, _, _, _, _, _, _, _, _, _, _, _, _, _, _, _, _, _, _, _, _, _, _, _, _, _, _, _, _, _, _, _, _, _, rfl, by go_simp, by go_simp, by simp; omega, ((Below.refl _ _).alloc (Nat.le_refl _) _).alloc (by simp) _⟩⟩
  · skip
    rintro a' w' ⟨u0, u1, u3, u4, u6, u7, u8, u9, u10, u11, u12, u13, u14, u15, u16, u17, u18, u19, u20, u21, u22, u23, u24, u25, u26, u27, u28, u29, u30, u31, u32, u33, u34, u35, u36, u37, u38, u39, rfl, hc, hf, hs, hb⟩
    go_wp2_with fail
    simp only [Exit.jump]
    show bodyPost Try.prog Try.f18 _ .ret _ _
    refine bodyPost_ret (v := .tuple #[sv none 0 0, .int .i64 6]) (by simp [results, Try.results18, go_sem, hc]) rfl ⟨rfl, hb.setCell (p := ⟨w.heap.size, 0, none⟩) (by simp) _⟩

theorem fresh_succ (ws : List Int) (k : Nat) (hk : k < ws.length) : pvs (fresh (ws.take (k + 1))) = pvs (fresh (ws.take k)) ++ pvs [(0, ws.getD k 0)] := by
  rw [List.take_succ_eq_append_getElem hk]
  simp only [pvs, fresh, List.map_append, List.map_cons, List.map_nil, List.getD, hk, List.getElem?_eq_getElem, Option.getD_some]

set_option maxRecDepth 100000 in
set_option maxHeartbeats 8000000 in
theorem new_few (A : Option Addr) (n c : Nat) (ws : List Int) (w : World) (hr : Rd w 1 A n c (i64s ws)) (hn : n ≤ 8) :
    Calls Try.prog 18 #[.slice A n c] w fun e w' => Below w.heap.size w w' ∧
      (((∃ k, k < n ∧ ¬ okW (ws.getD k 0)) ∧ e = .returned (.tuple #[sv none 0 0, .int .i64 7])) ∨
       ((∀ k, k < n → okW (ws.getD k 0)) ∧ ∃ A' c', e = .returned (.tuple #[sv A' n c', .int .i64 0]) ∧ Rd w' 1 A' n c' (pvs (fresh ws)) ∧ ∀ ad, A' = some ad → w.heap.size ≤ ad.block)) := by
  obtain ⟨i0, hi0, hz0, hz1, hz2⟩ := info_parts Try.info26
  have hl := hr.intLen
  have Hl := hide hl
  have Hr := hide ((hr.alloc (.cells #[.slice none 0 0] 41)).alloc (.cells #[.slice none 0 0] 41))
  have Hr0 := hide hr
  clear hr hl
  go_enter Try.func18, Try.ntmps18
  go_wp2_with fail
  refine wp_scope_jumps 0 (fun a' w' => ∃ (u0 u1 u3 u4 u6 u7 u8 u9 u10 u11 u12 u13 u14 u15 u16 u17 u18 u19 u20 u21 u22 u23 u24 u25 u26 u27 u28 u29 u30 u31 u32 u33 u34 u35 u36 u37 u38 u39 : Value),
    a' = { tmps := #[u0, u1, .pointer (some ⟨w.heap.size, 0, none⟩), u3, u4, .int .i64 7, u6, u7, u8, u9, u10, u11, u12, u13, u14, u15, u16, u17, u18, u19, u20, u21, u22, u23, u24, u25, u26, u27, u28, u29, u30, u31, u32, u33, u34, u35, u36, u37, u38, u39], defers := [] } ∧
    w'.cell? ⟨w.heap.size, 0, none⟩ = some (.slice none 0 0) ∧ w'.frozen? ⟨w.heap.size, 0, none⟩ = false ∧ w.heap.size ≤ w'.heap.size ∧ (∃ k, k < n ∧ ¬ okW (ws.getD k 0)) ∧ Below w.heap.size w w') (fun _ _ => 0) rfl ?_ ?_
  rotate_left
  · skip
    rintro a' w' ⟨u0, u1, u3, u4, u6, u7, u8, u9, u10, u11, u12, u13, u14, u15, u16, u17, u18, u19, u20, u21, u22, u23, u24, u25, u26, u27, u28, u29, u30, u31, u32, u33, u34, u35, u36, u37, u38, u39, rfl, hc, hf, hs, hbad, hb⟩
    go_wp2_with fail
    simp only [Exit.jump]
    show bodyPost Try.prog Try.f18 _ .ret _ _
    refine bodyPost_ret (v := .tuple #[sv none 0 0, .int .i64 7]) (by simp [results, Try.results18, go_sem, hc]) rfl ⟨hb.setCell (p := ⟨w.heap.size, 0, none⟩) (by simp) _, .inl ⟨hbad, rfl⟩⟩

  · have r0 : ((w.alloc (.cells #[.slice none 0 0] 41)).alloc (.cells #[.slice none 0 0] 41)).cell? ⟨w.heap.size, 0, none⟩ = some (.slice none 0 0) := by go_simp
    have s0 : ((w.alloc (.cells #[.slice none 0 0] 41)).alloc (.cells #[.slice none 0 0] 41)).cell? ⟨w.heap.size + 1, 0, none⟩ = some (.slice none 0 0) := by go_simp
    have r1 : ((w.alloc (.cells #[.slice none 0 0] 41)).alloc (.cells #[.slice none 0 0] 41)).frozen? ⟨w.heap.size, 0, none⟩ = false := by go_simp
    have s1 : ((w.alloc (.cells #[.slice none 0 0] 41)).alloc (.cells #[.slice none 0 0] 41)).frozen? ⟨w.heap.size + 1, 0, none⟩ = false := by go_simp
    have hb0 : Below w.heap.size w ((w.alloc (.cells #[.slice none 0 0] 41)).alloc (.cells #[.slice none 0 0] 41)) := ((Below.refl _ _).alloc (Nat.le_refl _) _).alloc (by simp) _
    have hs0 : w.heap.size + 1 + 1 ≤ ((w.alloc (.cells #[.slice none 0 0] 41)).alloc (.cells #[.slice none 0 0] 41)).heap.size := by simp
    go_wp2_with fail
    generalize hW : (w.alloc (.cells #[.slice none 0 0] 41)).alloc (.cells #[.slice none 0 0] 41) = W at *
    clear hW
    have H0 := hide (And.intro r0 (And.intro s0 (And.intro r1 (And.intro s1 (And.intro hb0 hs0)))))
    clear r0 s0 r1 s1 hb0 hs0
    go_loopw [15] (fun i wr => ∃ (k : Nat) (V : Option Addr) (vc : Nat), k ≤ n ∧ i = .int .i64 k ∧ (∀ j, j < k → okW (ws.getD j 0)) ∧ wr.cell? ⟨w.heap.size, 0, none⟩ = some (.slice none 0 0) ∧ wr.frozen? ⟨w.heap.size, 0, none⟩ = false ∧
        wr.cell? ⟨w.heap.size + 1, 0, none⟩ = some (.slice V k vc) ∧ wr.frozen? ⟨w.heap.size + 1, 0, none⟩ = false ∧ wr.ownsRow (w.heap.size + 1 + 1) 26 1 (.slice V k vc) k (pvs (fresh (ws.take k))) ∧ Below w.heap.size w wr ∧ w.heap.size + 1 + 1 ≤ wr.heap.size) (fun i _ => n - (intOf i).toNat)
    case atStart => exact ⟨0, none, 0, Nat.zero_le _, rfl, by omega, H0.out.1, H0.out.2.2.1, H0.out.2.1, H0.out.2.2.2.1, World.ownsRow_nil _ _ _ _, H0.out.2.2.2.2.1, H0.out.2.2.2.2.2⟩
    case round =>
      clear H0 Hr
      obtain ⟨k, V, vc, hk, rfl, hgood, hc, hf, hs, hsf, ho, hb, hsz⟩ := hrel
      have Hgood := hide hgood
      have Ho := hide ho
      have Hb := hide hb
      clear hgood ho hb
      by_cases hlt : k < n
      · obtain ⟨ad, rfl⟩ := Hr0.out.isSome (by omega)
        obtain ⟨x, hx⟩ : ∃ x, ws.getD k 0 = x := ⟨_, rfl⟩
        have hcx : wr.cell? (ad.add k) = some (.int .i64 x) := by rw [← hx]; exact (Hr0.out.below Hb.out).ints k hlt
        have Hx := hide hx
        clear hx
        by_cases h1 : x < 1
        · have hbad : ∃ k, k < n ∧ ¬ okW (ws.getD k 0) := ⟨k, hlt, by rw [Hx.out]; intro h; exact absurd h.1 (by omega)⟩
          have Hbad := hide hbad
          clear hbad
          go_wp2_with fail
          refine wp_goto ?_
          exact ⟨rfl, ⟨_, _, _, _, _, _, _, _, _, _, _, _, _, _, _, _, _, _, _, _, _, _, _, _, _, _, _, _, _, _, _, _, _, _, _, _, _, _, rfl, hc, hf, by omega, Hbad.out, Hb.out⟩⟩
        · by_cases h2 : 100 < x
          · have hbad : ∃ k, k < n ∧ ¬ okW (ws.getD k 0) := ⟨k, hlt, by rw [Hx.out]; intro h; exact absurd h.2 (by omega)⟩
            have Hbad := hide hbad
            clear hbad
            go_wp2_with fail
            refine wp_goto ?_
            exact ⟨rfl, ⟨_, _, _, _, _, _, _, _, _, _, _, _, _, _, _, _, _, _, _, _, _, _, _, _, _, _, _, _, _, _, _, _, _, _, _, _, _, _, rfl, hc, hf, by omega, Hbad.out, Hb.out⟩⟩
          · have hok : okW x := ⟨by omega, by omega⟩
            have Hok := hide hok
            clear hok
            go_wp2_with fail
            refine (of_any 0 x _ (by decide) (by omega)).mono ?_
            rintro e w1 ⟨rfl, rfl⟩
            have Hrow := hide (fun q e => (Ho.out.lt q e).1)
            go_wp2_with ((at_builtin
                          refine wpList_append_rd _ rfl (.tmp 31) (.tmp 33) 24 rfl (w.heap.size + 1 + 1) 26 i0 _ 1 16 Try.underlying24 hi0 hz0 hz1 hz2 rfl (by omega) (.slice V k vc) k (pvs (fresh (ws.take k))) rfl (Ho.out.alloc _) _ 1 1 (pvs [(0, x)]) rfl (rd_new _ _ _) (pvs_one _) (by simp only [maxLen]; omega) (by omega) (by simp; omega) ?_
                          intro v2 w2 hown2 hg2 hat2
                          have hne : ∀ q : Nat, q < w.heap.size + 1 + 1 → some q ≠ (Value.slice V k vc).ownBlock := fun q hq e => by have := Hrow.out q e.symm; omega
                          have hal := (Below.refl wr.heap.size wr).alloc (Nat.le_refl _) (.cells #[pv 0 x] 26)
                          have hc2 := hg2.cell (cell_later hal hc) (hne _ (by simp only; omega))
                          have hs2 := hg2.cell (cell_later hal hs) (hne _ (by simp only; omega))
                          have hf2 : w2.frozen? ⟨w.heap.size, 0, none⟩ = false := by
                            rw [World.frozen?_of_block (hg2.block (w.heap.size) (by simp; omega) (hne _ (by omega))), hal.frozen (p := ⟨w.heap.size, 0, none⟩) (by simp only; omega)]
                            exact hf
                          have hsf2 : w2.frozen? ⟨w.heap.size + 1, 0, none⟩ = false := by
                            rw [World.frozen?_of_block (hg2.block (w.heap.size + 1) (by simp; omega) (hne _ (by omega))), hal.frozen (p := ⟨w.heap.size + 1, 0, none⟩) (by simp only; omega)]
                            exact hsf
                          have HB2 := hide ((Hb.out.alloc Hb.out.size (.cells #[pv 0 x] 26)).grown hg2 (by simp; omega) (fun q e => by have := Hrow.out q e; omega))
                          have hsz2 : w.heap.size + 1 + 1 ≤ w2.heap.size := by have := hg2.size; simp at this; omega
                          obtain ⟨V2, c2, rfl, hv2⟩ := own_slice hown2
                          have Ho2 := hide hown2
                          clear hown2 hg2 hat2 hne hal hv2 hc hs hf hsf hcx))
            go_roundw
            case rel =>
              refine ⟨k + 1, V2, c2, by omega, by go_num, fun j hj => ?_, ?_, ?_, ?_, ?_, ?_, ?_, ?_⟩
              · by_cases e : j = k
                · rw [e, Hx.out]; exact Hok.out
                · exact Hgood.out j (by omega)
              · go_simp
              · go_simp
              · go_simp
              · go_simp
              · have hl := Hl.out
                rw [fresh_succ ws k (by omega), Hx.out]
                exact ownsRow_setCell_below Ho2.out (by simp) _
              · exact HB2.out.setCell (p := ⟨w.heap.size + 1, 0, none⟩) (by simp) _
              · simpa using hsz2
            case measure => simp [intOf]; omega
      · obtain rfl : k = n := by omega
        clear hlt hk
        go_wp2_with fail
        simp only [Exit.jump]
        show bodyPost Try.prog Try.f18 _ .ret _ _
        refine bodyPost_ret (v := .tuple #[sv V k vc, .int .i64 0]) (by simp [results, Try.results18, go_sem, hc]) rfl ⟨Hb.out.setCell (p := ⟨w.heap.size, 0, none⟩) (by simp) _, .inr ⟨Hgood.out, V, vc, rfl, ?_, fun ad e => ?_⟩⟩
        · have h := (Rd.of_own Ho.out).setCell (p := ⟨w.heap.size, 0, none⟩) (.slice V k vc) (fun _ ad e => by have := (Ho.out.lt ad.block (by rw [e]; rfl)).1; simp only; omega)
          rw [List.take_of_length_le (by rw [Hl.out]; exact Nat.le_refl _)] at h
          exact h
        · have := (Ho.out.lt ad.block (by rw [e]; rfl)).1
          omega

theorem fresh_SP (ws : List Int) (hl : ws.length ≤ 8) (h : ∀ k, k < ws.length → okW (ws.getD k 0)) : SP (fresh ws) 0 := by
  refine ⟨by simpa using hl, fun i hi => ?_, fun i hi => ?_⟩
  · have hi' : i < ws.length := by simpa using hi
    simp [fresh, List.getD, hi']
  · have hi' : i < ws.length := by simpa using hi
    have := h i hi'
    simp only [List.getD, hi', List.getElem?_eq_getElem, Option.getD_some] at this
    simpa [fresh, List.getD, hi'] using this

set_option maxHeartbeats 1000000 in
theorem pairs_any (A : Option Addr) (n c : Nat) (l : List PN) (w : World) (hr : Rd w 1 A n c (pvs l)) (hn : n ≤ 65536) :
    Calls Try.prog 20 #[sv A n c] w fun e w' => ∃ A' c', e = .returned (.slice A' n c') ∧ Rd w' 1 A' n c' (pvs l) ∧ (∀ ad, A' = some ad → w.heap.size ≤ ad.block) ∧ Below w.heap.size w w' := by
  have Hr := hide (hr.alloc (.cells #[.slice A n c] 41)); clear hr
  go_enter Try.func20, Try.ntmps20
  go_wp2_with fail
  refine (clone_any _ _ _ l _ Hr.out hn).mono ?_
  rintro e w1 ⟨v1, rfl, hown1, hb1⟩
  go_wp2_with fail
  go_ret
  obtain ⟨A', c', rfl, hr'⟩ := own_slice hown1
  exact ⟨A', c', rfl, hr', fun ad e => by have := (hown1.lt ad.block (by rw [e]; rfl)).1; simp at this; omega, ((Below.refl _ _).alloc (Nat.le_refl _) _).trans (hb1.mono (by simp))⟩

set_option maxHeartbeats 1000000 in
theorem len_any (A : Option Addr) (n c : Nat) (w : World) :
    Calls Try.prog 22 #[sv A n c] w fun e w' => e = .returned (.int .i64 n) ∧ Below w.heap.size w w' := by
  go_enter Try.func22, Try.ntmps22
  go_wp2
  go_ret
  exact ⟨rfl, (Below.refl _ _).alloc (Nat.le_refl _) _⟩

theorem Try.und3 : Try.prog.underlying 3 = some (.int .i64) := by kernel_rfl

theorem sum_to (A : Option Addr) (n c : Nat) (l : List PN) (x y : Int) (w : World) (hr : Rd w 1 A n c (pvs l)) (hok : ∀ p ∈ l, okP p) (hs : sumP l = (x, y)) :
    Calls Try.prog 12 #[.slice A n c] w fun e w' => e = .returned (pv x y) ∧ w = w' := by
  refine (sum_any A n c l w hr hok).mono ?_
  rintro e w' ⟨rfl, rfl⟩
  rw [hs]
  exact ⟨rfl, rfl⟩

set_option maxHeartbeats 1000000 in
theorem total_any (A : Option Addr) (n c : Nat) (l : List PN) (w : World) (hr : Rd w 1 A n c (pvs l)) (hok : ∀ p ∈ l, okP p) (x y : Int) (hs : sumP l = (x, y)) :
    Calls Try.prog 23 #[sv A n c] w fun e w' => e = .returned (.int .i64 y) ∧ Below w.heap.size w w' := by
  have ho : okP (x, y) := by rw [← hs]; exact sumP_ok l (0, 0) ⟨by decide, by decide⟩
  have Hr := hide (hr.alloc (.cells #[.slice A n c] 41)); clear hr
  have c1 : ∀ w : World, (convert 71 3 (.float .f64 (fl y))).run Try.prog w = .ok (.int .i64 y) w := fun w => run_convert_float_int w 71 3 .f64 .i64 (fl y) y Try.und26s Try.und3 (int_fl y ho.2)
  have Hs := hide (sum_to A n c l x y _ Hr.out hok hs)
  clear hok hs ho
  go_enter Try.func23, Try.ntmps23
  go_wp2_with fail
  refine (Hs.out).mono ?_
  rintro e w1 ⟨rfl, rfl⟩
  go_wp2_with fail
  go_ret
  exact ⟨rfl, (Below.refl _ _).alloc (Nat.le_refl _) _⟩

set_option maxHeartbeats 1000000 in
theorem same_any (A B : Option Addr) (n c d : Nat) (l : List PN) (w : World) (hx : Rd w 1 A n c (pvs l)) (hy : Rd w 1 B n d (pvs l)) (hok : ∀ p ∈ l, okP p) :
    Calls Try.prog 21 #[sv A n c, sv B n d] w fun e w' => e = .returned (.bool true) ∧ Below w.heap.size w w' := by
  have Hx := hide ((hx.alloc (.cells #[.slice A n c] 41)).alloc (.cells #[.slice B n d] 41)); clear hx
  have Hy := hide ((hy.alloc (.cells #[.slice A n c] 41)).alloc (.cells #[.slice B n d] 41)); clear hy
  have Hok := hide hok; clear hok
  go_enter Try.func21, Try.ntmps21
  go_wp2_with fail
  refine (equal_same _ _ _ _ _ l _ Hx.out Hy.out Hok.out).mono ?_
  rintro e w1 ⟨rfl, hb⟩
  go_wp2_with fail
  go_ret
  exact ⟨rfl, (((Below.refl _ _).alloc (Nat.le_refl _) _).alloc (by simp) _).trans (hb.mono (by simp; omega))⟩
end Go.Proofs.Ytnabckcdffpimaa
