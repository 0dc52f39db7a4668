/-
  Of: a queue behind turns, and who waits by the document: both hold the same numbers, each once. Conditions: room from 0 to 64 or not; the turns can be read; at most 1000 of them.
-/
import Derived.Test.YtghmjfinmbgjiaaRef
import Derived.Test.YtghmjfinmbgjiaaOrder
namespace Go.Proofs.Ytghmjfinmbgjiaa
open Go.RowKit

/-- The turns' cells: what to do, of whom. -/
abbrev actCells (l : List (Int × Int)) : List Value := l.flatMap fun a => [Value.int .u8 a.1, Value.int .u64 a.2]

theorem actCells_len (l : List (Int × Int)) : (actCells l).length = l.length * 2 := by
  induction l with
  | nil => rfl
  | cons a l ih => simp [actCells, List.flatMap_cons] at ih ⊢
                   omega
theorem actCells_at (l : List (Int × Int)) (k : Nat) (hk : k < l.length) : (actCells l)[k * 2]? = some (.int .u8 (l.getD k (0, 0)).1) ∧ (actCells l)[k * 2 + 1]? = some (.int .u64 (l.getD k (0, 0)).2) := by
  induction l generalizing k with
  | nil => simp at hk
  | cons a l ih =>
    cases k with
    | zero => simp [actCells, List.flatMap_cons]
    | succ k =>
      have h := ih k (by simpa using hk)
      have e : (k + 1) * 2 = (k * 2 + 1) + 1 := by omega
      rw [e]
      simpa [actCells, List.flatMap_cons] using h

/-- What stands in the midst of the turns. -/
structure ST (w : World) (b4 g : Nat) (room : Int) (A : Option Addr) (n c : Nat) (V : Option Addr) (vc : Nat) (zs : List Int) (W : World) : Prop where
  q : QB W g room A n c zs
  r : QB W b4 0 none 0 0 []
  v : Rd W 1 V n vc (u64s zs)
  vf : ∀ ad, V = some ad → g < ad.block
  b : Below w.heap.size w W
  b4 : w.heap.size ≤ b4 ∧ b4 < g

section
variable {w W W' : World} {b4 g : Nat} {room : Int} {A : Option Addr} {n c : Nat} {V : Option Addr} {vc : Nat} {zs : List Int}
theorem ST.step (h : ST w b4 g room A n c V vc zs W) (hb : Below W.heap.size W W') : ST w b4 g room A n c V vc zs W' :=
  ⟨h.q.step hb, h.r.step hb, h.v.below hb, h.vf, h.b.trans (hb.mono h.b.size), h.b4⟩
theorem ST.alloc (h : ST w b4 g room A n c V vc zs W) (o : Obj) : ST w b4 g room A n c V vc zs (W.alloc o) := h.step ((Below.refl _ _).alloc (Nat.le_refl _) o)
theorem ST.drewN (h : ST w b4 g room A n c V vc zs W) (q : Nat) : ST w b4 g room A n c V vc zs (W.drewN q) := h.step (below_drewN _ _ _)
theorem ST.drew (h : ST w b4 g room A n c V vc zs W) : ST w b4 g room A n c V vc zs W.drew := h.step (below_drew _ _)
theorem ST.store (h : ST w b4 g room A n c V vc zs W) {A' : Option Addr} {n' c' : Nat} {V' : Option Addr} {vc' : Nat} {zs' : List Int} {room' : Int}
    (hr : Rd W 1 A' n' c' (u64s zs')) (hf : ∀ ad, A' = some ad → g < ad.block) (hv : Rd W 1 V' n' vc' (u64s zs')) (hvf : ∀ ad, V' = some ad → g < ad.block) :
    ST w b4 g room' A' n' c' V' vc' zs' ((W.setCell ⟨g, 0, none⟩ (.int .i64 room')).setCell ⟨g, 1, none⟩ (.slice A' n' c')) where
  q := h.q.store hr hf
  r := (h.r.setCell (p := ⟨g, 0, none⟩) h.b4.2 _ (by simp)).setCell (p := ⟨g, 1, none⟩) h.b4.2 _ (by simp)
  v := by
    refine (hv.setCell (p := ⟨g, 0, none⟩) _ ?_).setCell (p := ⟨g, 1, none⟩) _ ?_
    all_goals intro _ ad e; have := hvf ad e; simp only; omega
  vf := hvf
  b := (h.b.setCell (p := ⟨g, 0, none⟩) (by have := h.b4; simp only; omega) _).setCell (p := ⟨g, 1, none⟩) (by have := h.b4; simp only; omega) _
  b4 := h.b4
theorem ST.lt (h : ST w b4 g room A n c V vc zs W) : g < W.heap.size := h.q.lt
end

set_option maxRecDepth 100000 in
set_option maxHeartbeats 4000000 in
theorem of_ok (room : Int) (S : Option Addr) (m sc : Nat) (acts : List (Int × Int)) (w : World) (h0 : 0 ≤ room) (h1 : room ≤ 64) (hs : Rd w 2 S m sc (actCells acts)) (hm : m ≤ 1000) (hd : ∀ k, 0 ≤ (acts.getD k (0, 0)).1 ∧ (acts.getD k (0, 0)).1 ≤ 255) :
    Calls Try.prog 13 #[.int .i64 room, .slice S m sc] w fun e w' => ∃ A n c V vc zs, e = .returned (.tuple #[qv room A n c, .slice V n vc, .bool true]) ∧
      Rd w' 1 A n c (u64s zs) ∧ Rd w' 1 V n vc (u64s zs) ∧ n ≤ m ∧ Below w.heap.size w w' := by
  have hml : acts.length = m := by have := hs.len; rw [actCells_len] at this; omega
  have Hs := hide hs; clear hs
  have Hml := hide hml; clear hml
  have Hd := hide hd; clear hd
  go_enter Try.func13, Try.ntmps13
  go_wp2_with fail
  refine (new_ok room _ h0 h1).mono ?_
  rintro e w1 ⟨rfl, hb1⟩
  have hb1' : Below w.heap.size w w1 := ((Below.refl _ _).alloc (Nat.le_refl _) _).trans (hb1.mono (by simp))
  have hst : ST w w.heap.size w1.heap.size room none 0 0 none 0 [] (w1.alloc (.cells #[.int .i64 room, .slice none 0 0] 25)) := by
    refine ⟨⟨by go_simp, by go_simp, by go_simp, by go_simp, Rd.nil_ _ _, fun ad h => by cases h⟩, ?_, Rd.nil_ _ _, (fun ad h => by cases h), hb1'.alloc hb1'.size _, Nat.le_refl _, by have := hb1.size; simp at this; omega⟩
    exact QB.alloc (QB.step ⟨by go_simp, by go_simp, by go_simp, by go_simp, Rd.nil_ _ _, fun ad h => by cases h⟩ hb1) _
  have Hst := hide hst
  clear hst hb1 hb1'
  go_wp2_with fail
  generalize hW : w1.alloc (.cells #[.int .i64 room, .slice none 0 0] 25) = W at *
  generalize hg : w1.heap.size = g at *
  clear hW hg w1
  go_loopw [9, 41] (fun v i wr => ∃ (k n : Nat) (A : Option Addr) (c : Nat) (V : Option Addr) (vc : Nat) (zs : List Int), k ≤ m ∧ i = .int .i64 k ∧ v = .slice V n vc ∧
      n ≤ k ∧ zs.Nodup ∧ ST w w.heap.size g room A n c V vc zs wr) (fun _ i _ => m - (intOf i).toNat)
  case atStart => exact ⟨0, 0, none, 0, none, 0, [], Nat.zero_le _, rfl, rfl, Nat.le_refl _, List.nodup_nil, Hst.out⟩
  case round =>
    obtain ⟨k, n, A, c, V, vc, zs, hk, rfl, rfl, hnk, hnd, hst⟩ := hrel
    clear Hst
    have Hst := hide hst
    have Hnd := hide hnd
    have hzl := hst.q.rd.intLen
    have Hzl := hide hzl
    clear hst hnd hzl
    by_cases hlt : k < m
    · obtain ⟨⟨sb, so, sp⟩, rfl⟩ := Hs.out.isSome (by omega)
      have hka : k < acts.length := by rw [Hml.out]; exact hlt
      obtain ⟨a, ha⟩ : ∃ a, a = acts.getD k (0, 0) := ⟨_, rfl⟩
      obtain ⟨d, id⟩ := a
      have hc0 := Hs.out.cell _ rfl _ _ (actCells_at acts k hka).1
      have hc1 := Hs.out.cell _ rfl _ _ (actCells_at acts k hka).2
      have hd1 := Hd.out k
      rw [← ha] at hc0 hc1 hd1
      obtain ⟨hd0, hd1⟩ := hd1
      obtain rfl : sp = none := Hs.out.spot (fun e => by have := actCells_len acts; rw [e] at this; simp at this; omega)
      have hc0' : wr.cell? ⟨sb, so + k * 2, none⟩ = some (.int .u8 d) := cell_later Hst.out.b (by simpa [Addr.add_lit] using hc0)
      have hc1' : wr.cell? ⟨sb, so + k * 2 + 1, none⟩ = some (.int .u64 id) := cell_later Hst.out.b (by simpa [Addr.add_lit, Nat.add_assoc] using hc1)
      clear hc0 hc1 ha hka
      simp only at hd0 hd1
      have Hq0 := hide Hst.out.q
      have HS1 := hide (Hst.out.alloc (.cells #[.int .u8 d, .int .u64 id] 55))
      clear Hst
      have g0 := HS1.out.q.c0
      have g1 := HS1.out.q.c1
      by_cases h2 : d % 4 = 2
      · have e2 : (d % 4 == 2) = true := by simp [h2]
        clear h2
        by_cases hn0 : n = 0
        · subst hn0
          go_wp2_with fail
          refine (take_none room A c _).mono ?_
          rintro e w2 ⟨rfl, hb2⟩
          have HS2 := hide ((HS1.out.step hb2).alloc (.cells #[.int .i64 room, .slice A 0 c] 25))
          clear hb2 g0 g1 hc0' hc1'
          have g0 := HS2.out.q.c0
          have g1 := HS2.out.q.c1
          have g2 := HS2.out.q.f0
          have g3 := HS2.out.q.f1
          go_wp2_with fail
          have HST := hide (HS2.out.store (room' := room) HS2.out.q.rd HS2.out.q.far HS2.out.v HS2.out.vf)
          clear HS2 g0 g1 g2 g3
          have Hnk' := hide (show 0 ≤ k + 1 by omega)
          have Hnd' := Hnd
          clear Hnd
          refine (all_any room _ _ _ _ _ HST.out.q.rd (by omega)).mono ?_
          rintro e w5 ⟨A5, c5, rfl, ho5, hb5⟩
          have HS5 := hide (HST.out.step hb5)
          have Ho5 := hide (Rd.of_own ho5)
          clear ho5 hb5 HST
          go_wp2_with fail
          refine (equal_same _ _ _ _ _ _ _ _ Ho5.out HS5.out.v).mono ?_
          rintro e w6 ⟨rfl, q6, rfl⟩
          have HS6 := hide (HS5.out.drewN q6)
          clear HS5 Ho5
          have k0 := HS6.out.q.c0
          have k1 := HS6.out.q.c1
          go_wp2_with fail
          refine (len_any room _ _ _ _).mono ?_
          rintro e w7 ⟨rfl, hb7⟩
          have HS7 := hide (HS6.out.step hb7)
          clear hb7 HS6 k0 k1
          have k0 := HS7.out.q.c0
          have k1 := HS7.out.q.c1
          go_wp2_with fail
          refine (room_any room _ _ _ _ h0 h1 (by omega)).mono ?_
          rintro e w8 ⟨rfl, hb8⟩
          have HS8 := hide (HS7.out.step hb8)
          clear hb8 HS7 k0 k1
          go_wp2_with fail
          go_roundw
          case rel => exact ⟨k + 1, _, _, _, _, _, _, by omega, by go_num, rfl, Hnk'.out, Hnd'.out, HS8.out⟩
          case measure => simp [intOf]; omega
        · cases zs with
          | nil => exact absurd Hzl.out.symm hn0
          | cons x ys =>
            obtain ⟨n', rfl⟩ : ∃ n', n = n' + 1 := ⟨n - 1, by omega⟩
            obtain ⟨qd, rfl⟩ := HS1.out.q.rd.isSome (by omega)
            obtain ⟨⟨vb, vo, vs⟩, rfl⟩ := HS1.out.v.isSome (by omega)
            obtain rfl : vs = none := HS1.out.v.spot (by simp [u64s])
            go_wp2_with fail
            refine (take_some room qd n' c x ys _ HS1.out.q.rd (by omega)).mono ?_
            rintro e w2 ⟨A2, c2, rfl, hr2, hf2, hb2⟩
            have hz0 : (0 : Int) < (n' : Int) + 1 := by omega
            have hgs : g < (wr.alloc (.cells #[.int .u8 d, .int .u64 id] 55)).heap.size := HS1.out.lt
            have HS2 := hide ((HS1.out.step hb2).alloc (.cells #[.int .i64 room, .slice A2 n' c2] 25))
            have Hr2 := hide (hr2.alloc (.cells #[.int .i64 room, .slice A2 n' c2] 25))
            clear hb2 hr2 g0 g1 hc0' hc1'
            have g0 := HS2.out.q.c0
            have g1 := HS2.out.q.c1
            have g2 := HS2.out.q.f0
            have g3 := HS2.out.q.f1
            have g4 : ((w2.alloc (.cells #[.int .i64 room, .slice A2 n' c2] 25))).cell? ⟨vb, vo, none⟩ = some (.int .u64 x) := by
              have := HS2.out.v.ints 0 (by omega)
              simpa [Addr.add, List.getD] using this
            have hxx : (x != x) = false := by simp
            have hfrom : (vc = 1 ∧ Rd (w2.alloc (.cells #[.int .i64 room, .slice A2 n' c2] 25)) 1 (some ⟨vb, vo, none⟩) n' 0 (u64s ys)) ∨ (¬ vc = 1 ∧ Rd (w2.alloc (.cells #[.int .i64 room, .slice A2 n' c2] 25)) 1 (some ⟨vb, vo + 1, none⟩) n' (vc - 1) (u64s ys)) := by
              have := Rd.from_ HS2.out.v (k := 1) (by omega)
              by_cases hv : vc = 1
              · subst hv
                exact .inl ⟨rfl, by simpa [u64s] using this⟩
              · exact .inr ⟨hv, by simpa [hv, Addr.add, u64s] using this⟩
            have hvg : g < vb := HS2.out.vf _ rfl
            have Hf2 := hide (show ∀ ad, A2 = some ad → g < ad.block from fun ad e => by have := hf2 ad e; omega)
            clear hf2
            have hle1 : (1 : Int) ≤ (n' : Int) + 1 := by omega
            have Hnk' := hide (show n' ≤ k + 1 by omega)
            have Hnd' := hide (List.nodup_cons.1 Hnd.out).2
            clear Hnd
            rcases hfrom with ⟨rfl, hr1⟩ | ⟨hv, hr1⟩
            · have Hr1 := hide hr1
              clear hr1
              go_wp2_with fail
              have HST := hide (HS2.out.store (room' := room) Hr2.out Hf2.out Hr1.out (fun ad e => by injection e with e; subst e; exact hvg))
              clear HS2 g0 g1 g2 g3 g4 Hr2 Hr1
              refine (all_any room _ _ _ _ _ HST.out.q.rd (by omega)).mono ?_
              rintro e w5 ⟨A5, c5, rfl, ho5, hb5⟩
              have HS5 := hide (HST.out.step hb5)
              have Ho5 := hide (Rd.of_own ho5)
              clear ho5 hb5 HST
              go_wp2_with fail
              refine (equal_same _ _ _ _ _ _ _ _ Ho5.out HS5.out.v).mono ?_
              rintro e w6 ⟨rfl, q6, rfl⟩
              have HS6 := hide (HS5.out.drewN q6)
              clear HS5 Ho5
              have k0 := HS6.out.q.c0
              have k1 := HS6.out.q.c1
              go_wp2_with fail
              refine (len_any room _ _ _ _).mono ?_
              rintro e w7 ⟨rfl, hb7⟩
              have HS7 := hide (HS6.out.step hb7)
              clear hb7 HS6 k0 k1
              have k0 := HS7.out.q.c0
              have k1 := HS7.out.q.c1
              go_wp2_with fail
              refine (room_any room _ _ _ _ h0 h1 (by omega)).mono ?_
              rintro e w8 ⟨rfl, hb8⟩
              have HS8 := hide (HS7.out.step hb8)
              clear hb8 HS7 k0 k1
              go_wp2_with fail
              go_roundw
              case rel => exact ⟨k + 1, _, _, _, _, _, _, by omega, by go_num, rfl, Hnk'.out, Hnd'.out, HS8.out⟩
              case measure => simp [intOf]; omega
            · have Hr1 := hide hr1
              clear hr1
              go_wp2_with fail
              have HST := hide (HS2.out.store (room' := room) Hr2.out Hf2.out Hr1.out (fun ad e => by injection e with e; subst e; exact hvg))
              clear HS2 g0 g1 g2 g3 g4 Hr2 Hr1
              refine (all_any room _ _ _ _ _ HST.out.q.rd (by omega)).mono ?_
              rintro e w5 ⟨A5, c5, rfl, ho5, hb5⟩
              have HS5 := hide (HST.out.step hb5)
              have Ho5 := hide (Rd.of_own ho5)
              clear ho5 hb5 HST
              go_wp2_with fail
              refine (equal_same _ _ _ _ _ _ _ _ Ho5.out HS5.out.v).mono ?_
              rintro e w6 ⟨rfl, q6, rfl⟩
              have HS6 := hide (HS5.out.drewN q6)
              clear HS5 Ho5
              have k0 := HS6.out.q.c0
              have k1 := HS6.out.q.c1
              go_wp2_with fail
              refine (len_any room _ _ _ _).mono ?_
              rintro e w7 ⟨rfl, hb7⟩
              have HS7 := hide (HS6.out.step hb7)
              clear hb7 HS6 k0 k1
              have k0 := HS7.out.q.c0
              have k1 := HS7.out.q.c1
              go_wp2_with fail
              refine (room_any room _ _ _ _ h0 h1 (by omega)).mono ?_
              rintro e w8 ⟨rfl, hb8⟩
              have HS8 := hide (HS7.out.step hb8)
              clear hb8 HS7 k0 k1
              go_wp2_with fail
              go_roundw
              case rel => exact ⟨k + 1, _, _, _, _, _, _, by omega, by go_num, rfl, Hnk'.out, Hnd'.out, HS8.out⟩
              case measure => simp [intOf]; omega
      · have e2 : (d % 4 == 2) = false := by simp [h2]
        clear h2
        by_cases h3 : d % 4 = 3
        · have e3 : (d % 4 == 3) = true := by simp [h3]
          clear h3
          cases hin : zs.contains id with
          | false =>
            have Hin := hide hin
            clear hin
            have a1 : (wr.alloc (.cells #[.int .u8 d, .int .u64 id] 55)).cell? ⟨wr.heap.size, 1, none⟩ = some (.int .u64 id) := by go_simp
            have Ha1 := hide a1
            clear a1
            have Hgr := hide (QB.lt Hq0.out)
            have Hidx := hide (idx_of_not Hin.out)
            go_wp2_with fail
            refine (drop_none room A _ c zs id _ HS1.out.q.rd Hidx.out).mono ?_
            rintro e w2 ⟨rfl, hb2⟩
            have HS2 := hide ((HS1.out.step hb2).alloc (.cells #[.int .i64 room, .slice A n c] 25))
            have a1 : (w2.alloc (.cells #[.int .i64 room, .slice A n c] 25)).cell? ⟨wr.heap.size, 1, none⟩ = some (.int .u64 id) := cell_later ((Below.refl _ _).alloc (Nat.le_refl _) _) (cell_later hb2 Ha1.out)
            have b0 : (w2.alloc (.cells #[.int .i64 room, .slice A n c] 25)).cell? ⟨w2.heap.size, 0, none⟩ = some (.int .i64 room) := by go_simp
            have b1 : (w2.alloc (.cells #[.int .i64 room, .slice A n c] 25)).cell? ⟨w2.heap.size, 1, none⟩ = some (.slice A n c) := by go_simp
            have HB0 := hide b0
            have HB1 := hide b1
            have HB2 := hide a1
            have Hg2 := hide (Nat.lt_of_lt_of_le HS1.out.lt hb2.size)
            clear hb2 g0 g1 Ha1
            go_wp2_with fail
            refine (has_no V _ vc zs id _ HS2.out.v Hin.out).mono ?_
            rintro e w' ⟨rfl, rfl⟩
            have Hzf := hide (filter_none Hin.out)
            have Hr2 := hide HS2.out.q.rd
            have Hf2 := hide HS2.out.q.far
            go_wp2_with fail
            have hgw := HS2.out.lt
            have hgr : g < wr.heap.size := Hgr.out
            have hn1 : ¬ g = w2.heap.size := by have := Hg2.out; omega
            have hn2 : ¬ w2.heap.size = g := by have := Hg2.out; omega
            have hn3 : ¬ g = wr.heap.size := by omega
            have hn4 : ¬ wr.heap.size = g := by omega
            generalize hW : w2.alloc (.cells #[.int .i64 room, .slice A n c] 25) = W at *
            clear hW
            go_region_held3 (fun w' => w'.cell? ⟨w2.heap.size, 0, none⟩ = some (.int .i64 room) ∧ w'.cell? ⟨w2.heap.size, 1, none⟩ = some (.slice A n c) ∧ w'.cell? ⟨wr.heap.size, 1, none⟩ = some (.int .u64 id)) (go_keep)
              (first
                | (go_at_call 25
                   (with_reducible refine (refDrop_to V n vc zs _ id _ HS2.out.drew.v (by omega) Hzf.out).mono ?_)
                   rintro e w3 ⟨V3, c3, rfl, hr3, hf3, hb3⟩
                   have HS3 := hide (HS2.out.drew.step hb3)
                   have Hr3 := hide hr3
                   have Hr4 := hide (Hr2.out.drew.below hb3)
                   have Hf3 := hide (show ∀ ad, V3 = some ad → g < ad.block from fun ad e => by have := hf3 ad e; have := HS2.out.drew.lt; omega)
                   have b0 := cell_later hb3 (show W.drew.cell? ⟨w2.heap.size, 0, none⟩ = some (.int .i64 room) from HB0.out)
                   have b1 := cell_later hb3 (show W.drew.cell? ⟨w2.heap.size, 1, none⟩ = some (.slice A n c) from HB1.out)
                   have b2 := cell_later hb3 (show W.drew.cell? ⟨wr.heap.size, 1, none⟩ = some (.int .u64 id) from HB2.out)
                   have k0 := HS3.out.q.c0
                   have k1 := HS3.out.q.c1
                   have k2 := HS3.out.q.f0
                   have k3 := HS3.out.q.f1
                   clear hr3 hf3 hb3)
                | fail)
            go_wp2_with fail
            have HST := hide (HS3.out.store (room' := room) Hr4.out Hf2.out (Hzl.out ▸ Hr3.out) Hf3.out)
            clear HS2 HS3 k0 k1 k2 k3 b0 b1 b2 Hr3 Hr4
            have Hnk' := hide (show n ≤ k + 1 by omega)
            have Hnd' := Hnd
            clear Hnd
            rw [Hzl.out]
            refine (all_any room _ _ _ _ _ HST.out.q.rd (by omega)).mono ?_
            rintro e w5 ⟨A5, c5, rfl, ho5, hb5⟩
            have HS5 := hide (HST.out.step hb5)
            have Ho5 := hide (Rd.of_own ho5)
            clear ho5 hb5 HST
            go_wp2_with fail
            refine (equal_same _ _ _ _ _ _ _ _ Ho5.out HS5.out.v).mono ?_
            rintro e w6 ⟨rfl, q6, rfl⟩
            have HS6 := hide (HS5.out.drewN q6)
            clear HS5 Ho5
            have k0 := HS6.out.q.c0
            have k1 := HS6.out.q.c1
            go_wp2_with fail
            refine (len_any room _ _ _ _).mono ?_
            rintro e w7 ⟨rfl, hb7⟩
            have HS7 := hide (HS6.out.step hb7)
            clear hb7 HS6 k0 k1
            have k0 := HS7.out.q.c0
            have k1 := HS7.out.q.c1
            go_wp2_with fail
            refine (room_any room _ _ _ _ h0 h1 (by omega)).mono ?_
            rintro e w8 ⟨rfl, hb8⟩
            have HS8 := hide (HS7.out.step hb8)
            clear hb8 HS7 k0 k1
            go_wp2_with fail
            go_roundw
            case rel => exact ⟨k + 1, _, _, _, _, _, _, by omega, by go_num, rfl, Hnk'.out, Hnd'.out, HS8.out⟩
            case measure => simp [intOf]; omega
          | true =>
            have Hin := hide hin
            clear hin
            have a1 : (wr.alloc (.cells #[.int .u8 d, .int .u64 id] 55)).cell? ⟨wr.heap.size, 1, none⟩ = some (.int .u64 id) := by go_simp
            have Ha1 := hide a1
            clear a1
            have Hgr := hide (QB.lt Hq0.out)
            obtain ⟨i, hi, hil, hix, _⟩ := idx_of_contains Hin.out
            have Hidx := hide hi
            have Hzf := hide (erase_filter Hnd.out hil hix).symm
            have hin2 : i < n := by rw [Hzl.out] at hil; exact hil
            have hlen : (zs.eraseIdx i).length = n - 1 := by rw [List.length_eraseIdx]; simp [hil]; rw [Hzl.out]
            have Hlen := hide hlen
            clear hi hil hix hlen
            go_wp2_with fail
            refine (drop_some room A _ c i zs id _ HS1.out.q.rd (by omega) Hidx.out hin2).mono ?_
            rintro e w2 ⟨A2, c2, rfl, hr2, hf2, hb2⟩
            have Hr2 := hide (hr2.alloc (.cells #[.int .i64 room, .slice A2 (n - 1) c2] 25))
            have Hf2 := hide (show ∀ ad, A2 = some ad → g < ad.block from fun ad e => by have := hf2 ad e; have := HS1.out.lt; omega)
            clear hr2 hf2
            have HS2 := hide ((HS1.out.step hb2).alloc (.cells #[.int .i64 room, .slice A2 (n - 1) c2] 25))
            have a1 : (w2.alloc (.cells #[.int .i64 room, .slice A2 (n - 1) c2] 25)).cell? ⟨wr.heap.size, 1, none⟩ = some (.int .u64 id) := cell_later ((Below.refl _ _).alloc (Nat.le_refl _) _) (cell_later hb2 Ha1.out)
            have b0 : (w2.alloc (.cells #[.int .i64 room, .slice A2 (n - 1) c2] 25)).cell? ⟨w2.heap.size, 0, none⟩ = some (.int .i64 room) := by go_simp
            have b1 : (w2.alloc (.cells #[.int .i64 room, .slice A2 (n - 1) c2] 25)).cell? ⟨w2.heap.size, 1, none⟩ = some (.slice A2 (n - 1) c2) := by go_simp
            have HB0 := hide b0
            have HB1 := hide b1
            have HB2 := hide a1
            have Hg2 := hide (Nat.lt_of_lt_of_le HS1.out.lt hb2.size)
            clear hb2 g0 g1 Ha1
            go_wp2_with fail
            refine (has_yes V _ vc zs id _ HS2.out.v Hin.out).mono ?_
            rintro e w' ⟨rfl, rfl⟩
            go_wp2_with fail
            have hgw := HS2.out.lt
            have hgr : g < wr.heap.size := Hgr.out
            have hn1 : ¬ g = w2.heap.size := by have := Hg2.out; omega
            have hn2 : ¬ w2.heap.size = g := by have := Hg2.out; omega
            have hn3 : ¬ g = wr.heap.size := by omega
            have hn4 : ¬ wr.heap.size = g := by omega
            generalize hW : w2.alloc (.cells #[.int .i64 room, .slice A2 (n - 1) c2] 25) = W at *
            clear hW
            go_region_held3 (fun w' => w'.cell? ⟨w2.heap.size, 0, none⟩ = some (.int .i64 room) ∧ w'.cell? ⟨w2.heap.size, 1, none⟩ = some (.slice A2 (n - 1) c2) ∧ w'.cell? ⟨wr.heap.size, 1, none⟩ = some (.int .u64 id)) (go_keep)
              (first
                | (go_at_call 25
                   (with_reducible refine (refDrop_to V n vc zs _ id _ HS2.out.drew.v (by omega) Hzf.out).mono ?_)
                   rintro e w3 ⟨V3, c3, rfl, hr3, hf3, hb3⟩
                   have HS3 := hide (HS2.out.drew.step hb3)
                   have Hr3 := hide hr3
                   have Hr4 := hide (Hr2.out.drew.below hb3)
                   have Hf3 := hide (show ∀ ad, V3 = some ad → g < ad.block from fun ad e => by have := hf3 ad e; have := HS2.out.drew.lt; omega)
                   have b0 := cell_later hb3 (show W.drew.cell? ⟨w2.heap.size, 0, none⟩ = some (.int .i64 room) from HB0.out)
                   have b1 := cell_later hb3 (show W.drew.cell? ⟨w2.heap.size, 1, none⟩ = some (.slice A2 (n - 1) c2) from HB1.out)
                   have b2 := cell_later hb3 (show W.drew.cell? ⟨wr.heap.size, 1, none⟩ = some (.int .u64 id) from HB2.out)
                   have k0 := HS3.out.q.c0
                   have k1 := HS3.out.q.c1
                   have k2 := HS3.out.q.f0
                   have k3 := HS3.out.q.f1
                   clear hr3 hf3 hb3)
                | fail)
            go_wp2_with fail
            have HST := hide (HS3.out.store (room' := room) Hr4.out Hf2.out (Hlen.out ▸ Hr3.out) Hf3.out)
            clear HS2 HS3 k0 k1 k2 k3 b0 b1 b2 Hr3 Hr4
            have Hnk' := hide (show n - 1 ≤ k + 1 by omega)
            have Hnd' := hide (Hnd.out.sublist (List.eraseIdx_sublist zs i))
            clear Hnd
            rw [Hlen.out]
            refine (all_any room _ _ _ _ _ HST.out.q.rd (by omega)).mono ?_
            rintro e w5 ⟨A5, c5, rfl, ho5, hb5⟩
            have HS5 := hide (HST.out.step hb5)
            have Ho5 := hide (Rd.of_own ho5)
            clear ho5 hb5 HST
            go_wp2_with fail
            refine (equal_same _ _ _ _ _ _ _ _ Ho5.out HS5.out.v).mono ?_
            rintro e w6 ⟨rfl, q6, rfl⟩
            have HS6 := hide (HS5.out.drewN q6)
            clear HS5 Ho5
            have k0 := HS6.out.q.c0
            have k1 := HS6.out.q.c1
            go_wp2_with fail
            refine (len_any room _ _ _ _).mono ?_
            rintro e w7 ⟨rfl, hb7⟩
            have HS7 := hide (HS6.out.step hb7)
            clear hb7 HS6 k0 k1
            have k0 := HS7.out.q.c0
            have k1 := HS7.out.q.c1
            go_wp2_with fail
            refine (room_any room _ _ _ _ h0 h1 (by omega)).mono ?_
            rintro e w8 ⟨rfl, hb8⟩
            have HS8 := hide (HS7.out.step hb8)
            clear hb8 HS7 k0 k1
            go_wp2_with fail
            go_roundw
            case rel => exact ⟨k + 1, _, _, _, _, _, _, by omega, by go_num, rfl, Hnk'.out, Hnd'.out, HS8.out⟩
            case measure => simp [intOf]; omega
        · have e3 : (d % 4 == 3) = false := by simp [h3]
          clear h3
          cases hin : zs.contains id with
          | true =>
            have Hin := hide hin
            clear hin
            have a1 : (wr.alloc (.cells #[.int .u8 d, .int .u64 id] 55)).cell? ⟨wr.heap.size, 1, none⟩ = some (.int .u64 id) := by go_simp
            have Ha1 := hide a1
            clear a1
            go_wp2_with fail
            refine (put_twice room A _ c zs id _ HS1.out.q.rd Hin.out).mono ?_
            rintro e w2 ⟨rfl, hb2⟩
            have HS2 := hide ((HS1.out.step hb2).alloc (.cells #[.int .i64 room, .slice A n c] 25))
            have a1 : (w2.alloc (.cells #[.int .i64 room, .slice A n c] 25)).cell? ⟨wr.heap.size, 1, none⟩ = some (.int .u64 id) := cell_later ((Below.refl _ _).alloc (Nat.le_refl _) _) (cell_later hb2 Ha1.out)
            clear hb2 g0 g1 Ha1
            have g0 := HS2.out.q.c0
            have g1 := HS2.out.q.c1
            have g2 := HS2.out.q.f0
            have g3 := HS2.out.q.f1
            go_wp2_with fail
            refine (refPut_twice room V _ vc zs id _ HS2.out.v Hin.out).mono ?_
            rintro e w' ⟨rfl, rfl⟩
            go_wp2_with fail
            have HST := hide (HS2.out.store (room' := room) HS2.out.q.rd HS2.out.q.far HS2.out.v HS2.out.vf)
            clear HS2 g0 g1 g2 g3 a1
            have Hnk' := hide (show n ≤ k + 1 by omega)
            have Hnd' := Hnd
            clear Hnd
            refine (all_any room _ _ _ _ _ HST.out.q.rd (by omega)).mono ?_
            rintro e w5 ⟨A5, c5, rfl, ho5, hb5⟩
            have HS5 := hide (HST.out.step hb5)
            have Ho5 := hide (Rd.of_own ho5)
            clear ho5 hb5 HST
            go_wp2_with fail
            refine (equal_same _ _ _ _ _ _ _ _ Ho5.out HS5.out.v).mono ?_
            rintro e w6 ⟨rfl, q6, rfl⟩
            have HS6 := hide (HS5.out.drewN q6)
            clear HS5 Ho5
            have k0 := HS6.out.q.c0
            have k1 := HS6.out.q.c1
            go_wp2_with fail
            refine (len_any room _ _ _ _).mono ?_
            rintro e w7 ⟨rfl, hb7⟩
            have HS7 := hide (HS6.out.step hb7)
            clear hb7 HS6 k0 k1
            have k0 := HS7.out.q.c0
            have k1 := HS7.out.q.c1
            go_wp2_with fail
            refine (room_any room _ _ _ _ h0 h1 (by omega)).mono ?_
            rintro e w8 ⟨rfl, hb8⟩
            have HS8 := hide (HS7.out.step hb8)
            clear hb8 HS7 k0 k1
            go_wp2_with fail
            go_roundw
            case rel => exact ⟨k + 1, _, _, _, _, _, _, by omega, by go_num, rfl, Hnk'.out, Hnd'.out, HS8.out⟩
            case measure => simp [intOf]; omega
          | false =>
            have Hin := hide hin
            clear hin
            have a1 : (wr.alloc (.cells #[.int .u8 d, .int .u64 id] 55)).cell? ⟨wr.heap.size, 1, none⟩ = some (.int .u64 id) := by go_simp
            have Ha1 := hide a1
            clear a1
            by_cases hful : room ≤ (n : Int)
            · go_wp2_with fail
              refine (put_full room A _ c zs id _ HS1.out.q.rd Hin.out hful).mono ?_
              rintro e w2 ⟨rfl, hb2⟩
              have HS2 := hide ((HS1.out.step hb2).alloc (.cells #[.int .i64 room, .slice A n c] 25))
              have a1 : (w2.alloc (.cells #[.int .i64 room, .slice A n c] 25)).cell? ⟨wr.heap.size, 1, none⟩ = some (.int .u64 id) := cell_later ((Below.refl _ _).alloc (Nat.le_refl _) _) (cell_later hb2 Ha1.out)
              clear hb2 g0 g1 Ha1
              have g0 := HS2.out.q.c0
              have g1 := HS2.out.q.c1
              have g2 := HS2.out.q.f0
              have g3 := HS2.out.q.f1
              go_wp2_with fail
              refine (refPut_full room V _ vc zs id _ HS2.out.v Hin.out hful).mono ?_
              rintro e w' ⟨rfl, rfl⟩
              go_wp2_with fail
              have HST := hide (HS2.out.store (room' := room) HS2.out.q.rd HS2.out.q.far HS2.out.v HS2.out.vf)
              clear HS2 g0 g1 g2 g3 a1
              have Hnk' := hide (show n ≤ k + 1 by omega)
              have Hnd' := Hnd
              clear Hnd
              refine (all_any room _ _ _ _ _ HST.out.q.rd (by omega)).mono ?_
              rintro e w5 ⟨A5, c5, rfl, ho5, hb5⟩
              have HS5 := hide (HST.out.step hb5)
              have Ho5 := hide (Rd.of_own ho5)
              clear ho5 hb5 HST
              go_wp2_with fail
              refine (equal_same _ _ _ _ _ _ _ _ Ho5.out HS5.out.v).mono ?_
              rintro e w6 ⟨rfl, q6, rfl⟩
              have HS6 := hide (HS5.out.drewN q6)
              clear HS5 Ho5
              have k0 := HS6.out.q.c0
              have k1 := HS6.out.q.c1
              go_wp2_with fail
              refine (len_any room _ _ _ _).mono ?_
              rintro e w7 ⟨rfl, hb7⟩
              have HS7 := hide (HS6.out.step hb7)
              clear hb7 HS6 k0 k1
              have k0 := HS7.out.q.c0
              have k1 := HS7.out.q.c1
              go_wp2_with fail
              refine (room_any room _ _ _ _ h0 h1 (by omega)).mono ?_
              rintro e w8 ⟨rfl, hb8⟩
              have HS8 := hide (HS7.out.step hb8)
              clear hb8 HS7 k0 k1
              go_wp2_with fail
              go_roundw
              case rel => exact ⟨k + 1, _, _, _, _, _, _, by omega, by go_num, rfl, Hnk'.out, Hnd'.out, HS8.out⟩
              case measure => simp [intOf]; omega
            · have hlt2 : (n : Int) < room := by omega
              clear hful
              go_wp2_with fail
              refine (put_ok room A _ c zs id _ HS1.out.q.rd (by omega) Hin.out hlt2).mono ?_
              rintro e w2 ⟨A2, c2, rfl, hr2, hf2, hb2⟩
              have hgs : g < (wr.alloc (.cells #[.int .u8 d, .int .u64 id] 55)).heap.size := HS1.out.lt
              have HS2 := hide ((HS1.out.step hb2).alloc (.cells #[.int .i64 room, .slice A2 (n + 1) c2] 25))
              have Hr2 := hide (hr2.alloc (.cells #[.int .i64 room, .slice A2 (n + 1) c2] 25))
              have Hf2 := hide (show ∀ ad, A2 = some ad → g < ad.block from fun ad e => by have := hf2 ad e; omega)
              have a1 : (w2.alloc (.cells #[.int .i64 room, .slice A2 (n + 1) c2] 25)).cell? ⟨wr.heap.size, 1, none⟩ = some (.int .u64 id) := cell_later ((Below.refl _ _).alloc (Nat.le_refl _) _) (cell_later hb2 Ha1.out)
              have k8 : w2.heap.size < (w2.alloc (.cells #[.int .i64 room, .slice A2 (n + 1) c2] 25)).heap.size := by simp
              clear hb2 hr2 hf2 g0 g1 Ha1
              go_wp2_with fail
              refine (refPut_ok room V _ vc zs id _ HS2.out.v (by omega) Hin.out hlt2).mono ?_
              rintro e w3 ⟨V3, c3, rfl, hr3, hf3, hb3⟩
              have b0 : w3.cell? ⟨w2.heap.size, 0, none⟩ = some (.int .i64 room) := cell_later hb3 (by go_simp)
              have b1 : w3.cell? ⟨w2.heap.size, 1, none⟩ = some (.slice A2 (n + 1) c2) := cell_later hb3 (by go_simp)
              have hgs2 := HS2.out.lt
              have HS3 := hide (HS2.out.step hb3)
              have Hr3 := hide hr3
              have Hr2' := hide (Hr2.out.below hb3)
              have Hf3 := hide (show ∀ ad, V3 = some ad → g < ad.block from fun ad e => by have := hf3 ad e; omega)
              clear hb3 hr3 hf3 HS2 Hr2 a1 hgs hgs2 k8
              have g0 := HS3.out.q.c0
              have g1 := HS3.out.q.c1
              have g2 := HS3.out.q.f0
              have g3 := HS3.out.q.f1
              go_wp2_with fail
              have HST := hide (HS3.out.store (room' := room) Hr2'.out Hf2.out Hr3.out Hf3.out)
              clear HS3 g0 g1 g2 g3 b0 b1
              have Hnk' := hide (show n + 1 ≤ k + 1 by omega)
              have Hnd' : Hid (zs ++ [id]).Nodup := hide (by
                rw [List.nodup_append]
                refine ⟨Hnd.out, by simp, fun x hx y hy e => ?_⟩
                simp at hy
                subst hy
                subst e
                have h := Hin.out
                rw [show zs.contains x = true by simpa using hx] at h
                cases h)
              clear Hnd
              refine (all_any room _ _ _ _ _ HST.out.q.rd (by omega)).mono ?_
              rintro e w5 ⟨A5, c5, rfl, ho5, hb5⟩
              have HS5 := hide (HST.out.step hb5)
              have Ho5 := hide (Rd.of_own ho5)
              clear ho5 hb5 HST
              go_wp2_with fail
              refine (equal_same _ _ _ _ _ _ _ _ Ho5.out HS5.out.v).mono ?_
              rintro e w6 ⟨rfl, q6, rfl⟩
              have HS6 := hide (HS5.out.drewN q6)
              clear HS5 Ho5
              have k0 := HS6.out.q.c0
              have k1 := HS6.out.q.c1
              go_wp2_with fail
              refine (len_any room _ _ _ _).mono ?_
              rintro e w7 ⟨rfl, hb7⟩
              have HS7 := hide (HS6.out.step hb7)
              clear hb7 HS6 k0 k1
              have k0 := HS7.out.q.c0
              have k1 := HS7.out.q.c1
              go_wp2_with fail
              refine (room_any room _ _ _ _ h0 h1 (by omega)).mono ?_
              rintro e w8 ⟨rfl, hb8⟩
              have HS8 := hide (HS7.out.step hb8)
              clear hb8 HS7 k0 k1
              go_wp2_with fail
              go_roundw
              case rel => exact ⟨k + 1, _, _, _, _, _, _, by omega, by go_num, rfl, Hnk'.out, Hnd'.out, HS8.out⟩
              case measure => simp [intOf]; omega
    · obtain rfl : k = m := by omega
      clear hk hlt
      have g0 := Hst.out.q.c0
      have g1 := Hst.out.q.c1
      have r0 := Hst.out.r.c0
      have r1 := Hst.out.r.c1
      have r2 := Hst.out.r.f0
      have r3 := Hst.out.r.f1
      have hbg : ¬ g = w.heap.size := by have := Hst.out.b4; omega
      have hgb : ¬ w.heap.size = g := by have := Hst.out.b4; omega
      go_wp2_with fail
      refine bodyPost_ret (v := .tuple #[qv room A n c, .slice V n vc, .bool true]) (by simp [results, Try.results13, go_sem, r0, r1]) rfl ⟨A, n, c, V, vc, zs, rfl, ?_, ?_, hnk, ?_⟩
      · refine (Hst.out.q.rd.setCell (p := ⟨w.heap.size, 0, none⟩) _ ?_).setCell (p := ⟨w.heap.size, 1, none⟩) _ ?_
        all_goals intro _ ad e; have := Hst.out.q.far ad e; have := Hst.out.b4; simp only; omega
      · refine (Hst.out.v.setCell (p := ⟨w.heap.size, 0, none⟩) _ ?_).setCell (p := ⟨w.heap.size, 1, none⟩) _ ?_
        all_goals intro _ ad e; have := Hst.out.vf ad e; have := Hst.out.b4; simp only; omega
      · exact (Hst.out.b.setCell (p := ⟨w.heap.size, 0, none⟩) (Nat.le_refl _) _).setCell (p := ⟨w.heap.size, 1, none⟩) (Nat.le_refl _) _

set_option maxRecDepth 100000 in
set_option maxHeartbeats 1000000 in
theorem of_bad (room : Int) (S : Option Addr) (m sc : Nat) (w : World) (h : room < 0 ∨ 64 < room) :
    Calls Try.prog 13 #[.int .i64 room, .slice S m sc] w fun e w' => e = .returned (.tuple #[qv 0 none 0 0, .slice none 0 0, .bool true]) ∧ Below w.heap.size w w' := by
  have H := hide h
  by_cases h0 : room < 0
  · clear h
    go_enter Try.func13, Try.ntmps13
    go_wp2_with fail
    refine (new_bad room _ H.out).mono ?_
    rintro e w1 ⟨rfl, hb1⟩
    have hr : QB w1 w.heap.size 0 none 0 0 [] := QB.step ⟨by go_simp, by go_simp, by go_simp, by go_simp, Rd.nil_ _ _, fun ad h => by cases h⟩ hb1
    have hr2 := hr.alloc (.cells #[.int .i64 0, .slice none 0 0] 25)
    have hb1' : Below w.heap.size w w1 := ((Below.refl _ _).alloc (Nat.le_refl _) _).trans (hb1.mono (by simp))
    have Hb := hide hb1'
    have hs' : w.heap.size + 1 ≤ w1.heap.size := by simpa using hb1.size
    have q0 := hr2.c0
    have q1 := hr2.c1
    have q2 := hr2.f0
    have q3 := hr2.f1
    clear hb1 hb1' hr hr2
    have hn1 : ¬ w.heap.size = w1.heap.size := by omega
    have hn2 : ¬ w1.heap.size = w.heap.size := by omega
    go_wp2_with fail
    refine bodyPost_ret (v := .tuple #[qv 0 none 0 0, .slice none 0 0, .bool true]) (by simp [results, Try.results13, go_sem, q0, q1, hn1, hn2]) rfl ⟨rfl, ?_⟩
    exact ((Hb.out.alloc Hb.out.size _).setCell (p := ⟨w.heap.size, 0, none⟩) (Nat.le_refl _) _).setCell (p := ⟨w.heap.size, 1, none⟩) (Nat.le_refl _) _
  · have h1 : 64 < room := h.resolve_left h0
    clear h
    go_enter Try.func13, Try.ntmps13
    go_wp2_with fail
    refine (new_bad room _ H.out).mono ?_
    rintro e w1 ⟨rfl, hb1⟩
    have hr : QB w1 w.heap.size 0 none 0 0 [] := QB.step ⟨by go_simp, by go_simp, by go_simp, by go_simp, Rd.nil_ _ _, fun ad h => by cases h⟩ hb1
    have hr2 := hr.alloc (.cells #[.int .i64 0, .slice none 0 0] 25)
    have hb1' : Below w.heap.size w w1 := ((Below.refl _ _).alloc (Nat.le_refl _) _).trans (hb1.mono (by simp))
    have Hb := hide hb1'
    have hs' : w.heap.size + 1 ≤ w1.heap.size := by simpa using hb1.size
    have q0 := hr2.c0
    have q1 := hr2.c1
    have q2 := hr2.f0
    have q3 := hr2.f1
    clear hb1 hb1' hr hr2
    have hn1 : ¬ w.heap.size = w1.heap.size := by omega
    have hn2 : ¬ w1.heap.size = w.heap.size := by omega
    go_wp2_with fail
    refine bodyPost_ret (v := .tuple #[qv 0 none 0 0, .slice none 0 0, .bool true]) (by simp [results, Try.results13, go_sem, q0, q1, hn1, hn2]) rfl ⟨rfl, ?_⟩
    exact ((Hb.out.alloc Hb.out.size _).setCell (p := ⟨w.heap.size, 0, none⟩) (Nat.le_refl _) _).setCell (p := ⟨w.heap.size, 1, none⟩) (Nat.le_refl _) _
end Go.Proofs.Ytghmjfinmbgjiaa
