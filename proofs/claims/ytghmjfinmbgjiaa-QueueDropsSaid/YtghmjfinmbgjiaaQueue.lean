/-
  Contracts of the queue's functions: New, Put, Take, Drop, All, Len, Room. Conditions: the queue's slice can be read, and it is short.
-/
import Derived.Test.YtghmjfinmbgjiaaLib
namespace Go.Proofs.Ytghmjfinmbgjiaa
open Go.RowKit

/-- A queue's value. -/
abbrev qv (room : Int) (A : Option Addr) (n c : Nat) : Value := .agg #[.int .i64 room, .slice A n c]

set_option maxHeartbeats 400000 in
theorem len_any (room : Int) (A : Option Addr) (n c : Nat) (w : World) :
    Calls Try.prog 12 #[qv room A n c] w fun e w' => e = .returned (.int .i64 n) ∧ Below w.heap.size w w' := by
  go_enter Try.func12, Try.ntmps12
  go_wp2
  go_ret
  exact ⟨rfl, (Below.refl _ _).alloc (Nat.le_refl _) _⟩

set_option maxHeartbeats 400000 in
theorem room_any (room : Int) (A : Option Addr) (n c : Nat) (w : World) (h0 : 0 ≤ room) (h1 : room ≤ 64) (hn : n ≤ 65536) :
    Calls Try.prog 22 #[qv room A n c] w fun e w' => e = .returned (.int .i64 (room - n)) ∧ Below w.heap.size w w' := by
  go_enter Try.func22, Try.ntmps22
  go_wp2
  go_ret
  exact ⟨rfl, (Below.refl _ _).alloc (Nat.le_refl _) _⟩

/-- What stands while a method of the queue runs: its receiver's block, its result's block, the slice, and all that was there. -/
structure MS (w : World) (room : Int) (A : Option Addr) (n c : Nat) (zs : List Int) (w' : World) : Prop where
  c0 : w'.cell? ⟨w.heap.size, 0, none⟩ = some (.int .i64 room)
  c1 : w'.cell? ⟨w.heap.size, 1, none⟩ = some (.slice A n c)
  r0 : w'.cell? ⟨w.heap.size + 1, 0, none⟩ = some (.int .i64 0)
  r1 : w'.cell? ⟨w.heap.size + 1, 1, none⟩ = some (.slice none 0 0)
  f0 : w'.frozen? ⟨w.heap.size + 1, 0, none⟩ = false
  f1 : w'.frozen? ⟨w.heap.size + 1, 1, none⟩ = false
  size : w.heap.size + 2 ≤ w'.heap.size
  rd : Rd w' 1 A n c (u64s zs)
  lt : ∀ ad, A = some ad → u64s zs ≠ [] → ad.block < w.heap.size
  below : Below w.heap.size w w'

section
variable {w W w1 : World} {room : Int} {A : Option Addr} {n c : Nat} {zs : List Int}

theorem MS.start (hr : Rd w 1 A n c (u64s zs)) : MS w room A n c zs ((w.alloc (.cells #[.int .i64 room, .slice A n c] 25)).alloc (.cells #[.int .i64 0, .slice none 0 0] 25)) where
  c0 := by go_simp
  c1 := by go_simp
  r0 := by go_simp
  r1 := by go_simp
  f0 := by go_simp
  f1 := by go_simp
  size := by simp
  rd := (hr.alloc _).alloc _
  lt := fun ad e hx => hr.lt hx e
  below := ((Below.refl _ _).alloc (Nat.le_refl _) _).alloc (by simp) _

theorem MS.grown (h : MS w room A n c zs W) {row : Option Nat} (hg : W.grownBy w1 row) (hrow : ∀ k, row = some k → w.heap.size + 2 ≤ k) : MS w room A n c zs w1 := by
  have hs := h.size
  have hb : ∀ b, b < w.heap.size + 2 → w1.heap[b]? = W.heap[b]? := fun b hlt => hg.block b (by omega) (fun e => by have := hrow b e.symm; omega)
  exact { c0 := (World.cell?_of_block (hb _ (by simp))).trans h.c0, c1 := (World.cell?_of_block (hb _ (by simp))).trans h.c1
          r0 := (World.cell?_of_block (hb _ (by simp))).trans h.r0, r1 := (World.cell?_of_block (hb _ (by simp))).trans h.r1
          f0 := (World.frozen?_of_block (hb _ (by simp))).trans h.f0, f1 := (World.frozen?_of_block (hb _ (by simp))).trans h.f1
          size := Nat.le_trans hs hg.size
          rd := h.rd.grown hg (fun hx ad e he => by have := h.lt ad e hx; have := hrow _ he; omega)
          lt := h.lt
          below := h.below.grown hg (by omega) (fun k e => by have := hrow k e; omega) }

theorem MS.step (h : MS w room A n c zs W) (hb : Below W.heap.size W w1) : MS w room A n c zs w1 :=
  h.grown (row := none) ⟨hb.os, hb.tape, hb.output, hb.size, fun k hk _ => hb.block k hk⟩ (by simp)
theorem MS.alloc (h : MS w room A n c zs W) (o : Obj) : MS w room A n c zs (W.alloc o) := h.step ((Below.refl _ _).alloc (Nat.le_refl _) o)
theorem MS.drew (h : MS w room A n c zs W) : MS w room A n c zs W.drew := h.step (below_drew _ _)
theorem MS.all (h : MS w room A n c zs W) : W.cell? ⟨w.heap.size, 0, none⟩ = some (.int .i64 room) ∧ W.cell? ⟨w.heap.size, 1, none⟩ = some (.slice A n c) ∧
    W.cell? ⟨w.heap.size + 1, 0, none⟩ = some (.int .i64 0) ∧ W.cell? ⟨w.heap.size + 1, 1, none⟩ = some (.slice none 0 0) ∧ W.frozen? ⟨w.heap.size + 1, 0, none⟩ = false ∧
    W.frozen? ⟨w.heap.size + 1, 1, none⟩ = false ∧ MS w room A n c zs W := ⟨h.c0, h.c1, h.r0, h.r1, h.f0, h.f1, h⟩
end

set_option maxHeartbeats 400000 in
theorem put_twice (room : Int) (A : Option Addr) (n c : Nat) (zs : List Int) (id : Int) (w : World) (hr : Rd w 1 A n c (u64s zs)) (hin : zs.contains id = true) :
    Calls Try.prog 9 #[qv room A n c, .int .u64 id] w fun e w' => e = .returned (.tuple #[qv room A n c, .int .i64 11]) ∧ Below w.heap.size w w' := by
  have Hr := hide ((hr.alloc (.cells #[.int .i64 room, .slice A n c] 25)).alloc (.cells #[.int .i64 0, .slice none 0 0] 25)); clear hr
  have Hin := hide hin; clear hin
  go_enter Try.func9, Try.ntmps9
  go_wp2_with (go_at_call 10; refine (contains_yes _ _ _ zs _ _ Hr.out Hin.out).mono ?_; rintro e w' ⟨rfl, rfl⟩)
  refine bodyPost_ret (v := .tuple #[qv room A n c, .int .i64 11]) (by simp [results, Try.results9, go_sem]) rfl ⟨rfl, ?_⟩
  repeat (first | exact Below.refl _ _ | exact below_drewN _ _ _ | refine Below.drew ?_ | refine Below.alloc ?_ (by simp <;> omega) _ | refine Below.setCell ?_ (by simp <;> omega) _)

set_option maxHeartbeats 400000 in
theorem put_full (room : Int) (A : Option Addr) (n c : Nat) (zs : List Int) (id : Int) (w : World) (hr : Rd w 1 A n c (u64s zs)) (hin : zs.contains id = false) (hfull : room ≤ n) :
    Calls Try.prog 9 #[qv room A n c, .int .u64 id] w fun e w' => e = .returned (.tuple #[qv room A n c, .int .i64 17]) ∧ Below w.heap.size w w' := by
  have Hr := hide ((hr.alloc (.cells #[.int .i64 room, .slice A n c] 25)).alloc (.cells #[.int .i64 0, .slice none 0 0] 25)); clear hr
  have Hin := hide hin; clear hin
  go_enter Try.func9, Try.ntmps9
  go_wp2_with (go_at_call 10; refine (contains_no _ _ _ zs _ _ Hr.out Hin.out).mono ?_; rintro e w' ⟨rfl, rfl⟩)
  refine bodyPost_ret (v := .tuple #[qv room A n c, .int .i64 17]) (by simp [results, Try.results9, go_sem]) rfl ⟨rfl, ?_⟩
  repeat (first | exact Below.refl _ _ | exact below_drewN _ _ _ | refine Below.drew ?_ | refine Below.alloc ?_ (by simp <;> omega) _ | refine Below.setCell ?_ (by simp <;> omega) _)

set_option maxHeartbeats 1000000 in
theorem put_ok (room : Int) (A : Option Addr) (n c : Nat) (zs : List Int) (id : Int) (w : World) (hr : Rd w 1 A n c (u64s zs)) (hn : n < 65536) (hin : zs.contains id = false) (hroom : (n : Int) < room) :
    Calls Try.prog 9 #[qv room A n c, .int .u64 id] w fun e w' => ∃ A' c', e = .returned (.tuple #[qv room A' (n + 1) c', .int .i64 0]) ∧ Rd w' 1 A' (n + 1) c' (u64s (zs ++ [id])) ∧ (∀ ad, A' = some ad → w.heap.size ≤ ad.block) ∧ Below w.heap.size w w' := by
  obtain ⟨i0, hi0, hz0, hz1, hz2⟩ := info_parts Try.info29
  have Hr := hide ((hr.alloc (.cells #[.int .i64 room, .slice A n c] 25)).alloc (.cells #[.int .i64 0, .slice none 0 0] 25))
  have Hs := hide (MS.start (room := room) hr); clear hr
  have Hin := hide hin; clear hin
  have hone : ∀ u ∈ [Value.int IntKind.u64 id], u.oneCell' = true := by simp [Value.oneCell']
  have Hone := hide hone; clear hone
  go_enter Try.func9, Try.ntmps9
  go_wp2_with (go_at_call 10; refine (contains_no _ _ _ zs _ _ Hr.out Hin.out).mono ?_; rintro e w' ⟨rfl, rfl⟩)
  generalize hW : (w.alloc (.cells #[.int .i64 room, .slice A n c] 25)).alloc (.cells #[.int .i64 0, .slice none 0 0] 25) = W at *
  clear hW
  have hc0 := Hs.out.c0
  have hc1 := Hs.out.c1
  go_region_held3 (fun w' => w'.cell? ⟨w.heap.size, 0, none⟩ = some (.int .i64 room) ∧ w'.cell? ⟨w.heap.size, 1, none⟩ = some (.slice A n c)) (go_keep)
    (first
      | (go_at_call 20
         (with_reducible refine (clone_any _ _ _ zs _ Hs.out.drew.rd (by omega)).mono ?_)
         rintro e w1 ⟨v1, rfl, hown1, hb1⟩
         have Hms1 := hide (Hs.out.drew.step hb1)
         have Hown1 := hide (own_mono' hown1 Hs.out.drew.size)
         have h10 := Hms1.out.c0
         have h11 := Hms1.out.c1
         have hsz1 := Hms1.out.size
         clear hown1 hb1)
      | (go_at_call 20
         (with_reducible refine (clone_any _ _ _ zs _ (Hs.out.alloc (.cells #[.int .u64 id] 29)).drew.rd (by omega)).mono ?_)
         rintro e w1 ⟨v1, rfl, hown1, hb1⟩
         have Hms1 := hide ((Hs.out.alloc (.cells #[.int .u64 id] 29)).drew.step hb1)
         have Hown1 := hide (own_mono' hown1 (Hs.out.alloc (.cells #[.int .u64 id] 29)).drew.size)
         have h10 := Hms1.out.c0
         have h11 := Hms1.out.c1
         have hsz1 := Hms1.out.size
         have Hnew := hide ((rd_new W (.int .u64 id) 29).drew.below hb1)
         clear hown1 hb1)
      | (refine step_append_rd _ rfl (.tmp 22) (.tmp 24) 22 rfl (w.heap.size + 2) 29 i0 _ 1 8 Try.underlying22 hi0 hz0 hz1 hz2 rfl (by omega) v1 n (u64s zs) rfl (Hown1.out.alloc _) _ 1 1 [.int .u64 id] rfl (rd_new _ _ _) Hone.out (by simp only [maxLen]; omega) (by omega) (by first | omega | (simp; omega)) ?_
         intro v2 w2 hown2 hg2 _
         have Hms2 := hide ((Hms1.out.alloc (.cells #[.int .u64 id] 29)).grown hg2 (fun k e => (Hown1.out.lt k e).1))
         obtain ⟨A2, c2, rfl, hr2⟩ := own_slice hown2
         have h20 := Hms2.out.c0
         have h21 := Hms2.out.c1
         have h22 := Hms2.out.r0
         have h23 := Hms2.out.r1
         have h24 := Hms2.out.f0
         have h25 := Hms2.out.f1
         have Hr2 := hide hr2
         have Hown2 := hide hown2
         clear hr2 hown2 hg2)
      | (refine step_append_rd _ rfl (.tmp 22) (.tmp 24) 22 rfl (w.heap.size + 2) 29 i0 _ 1 8 Try.underlying22 hi0 hz0 hz1 hz2 rfl (by omega) v1 n (u64s zs) rfl Hown1.out _ 1 1 [.int .u64 id] rfl Hnew.out Hone.out (by simp only [maxLen]; omega) (by omega) (by first | omega | (simp; omega)) ?_
         intro v2 w2 hown2 hg2 _
         have Hms2 := hide (Hms1.out.grown hg2 (fun k e => (Hown1.out.lt k e).1))
         obtain ⟨A2, c2, rfl, hr2⟩ := own_slice hown2
         have h20 := Hms2.out.c0
         have h21 := Hms2.out.c1
         have h22 := Hms2.out.r0
         have h23 := Hms2.out.r1
         have h24 := Hms2.out.f0
         have h25 := Hms2.out.f1
         have Hr2 := hide hr2
         have Hown2 := hide hown2
         clear hr2 hown2 hg2)
      | fail)
  all_goals
    go_wp2
    refine bodyPost_ret (v := .tuple #[qv room A2 (n + 1) c2, .int .i64 0]) (by simp [results, Try.results9, go_sem, h22, h23]) rfl ⟨A2, c2, rfl, ?_, ?_, ?_⟩
    · rw [show u64s (zs ++ [id]) = u64s zs ++ [.int .u64 id] by simp [u64s]]
      refine (Hr2.out.setCell (p := ⟨w.heap.size + 1, 0, none⟩) _ ?_).setCell (p := ⟨w.heap.size + 1, 1, none⟩) _ ?_
      all_goals
        intro _ ad e
        have h := (Hown2.out.lt ad.block (by rw [e]; rfl)).1
        simp only
        omega
    · intro ad e
      have h := (Hown2.out.lt ad.block (by rw [e]; rfl)).1
      omega
    · exact (Hms2.out.below.setCell (p := ⟨w.heap.size + 1, 0, none⟩) (by simp) _).setCell (p := ⟨w.heap.size + 1, 1, none⟩) (by simp) _

set_option maxHeartbeats 400000 in
theorem take_none (room : Int) (A : Option Addr) (c : Nat) (w : World) :
    Calls Try.prog 11 #[qv room A 0 c] w fun e w' => e = .returned (.tuple #[qv room A 0 c, .int .u64 0, .bool false]) ∧ Below w.heap.size w w' := by
  go_enter Try.func11, Try.ntmps11
  go_wp2
  refine bodyPost_ret (v := .tuple #[qv room A 0 c, .int .u64 0, .bool false]) (by simp [results, Try.results11, go_sem]) rfl ⟨rfl, ?_⟩
  repeat (first | exact Below.refl _ _ | exact below_drewN _ _ _ | refine Below.drew ?_ | refine Below.alloc ?_ (by simp <;> omega) _ | refine Below.setCell ?_ (by simp <;> omega) _)

set_option maxHeartbeats 1000000 in
theorem take_some (room : Int) (ad : Addr) (m c : Nat) (x : Int) (zs : List Int) (w : World) (hr : Rd w 1 (some ad) (m + 1) c (u64s (x :: zs))) (hn : m < 65536) :
    Calls Try.prog 11 #[qv room (some ad) (m + 1) c] w fun e w' => ∃ A' c', e = .returned (.tuple #[qv room A' m c', .int .u64 x, .bool true]) ∧ Rd w' 1 A' m c' (u64s zs) ∧ (∀ ad, A' = some ad → w.heap.size ≤ ad.block) ∧ Below w.heap.size w w' := by
  have hlen := hr.intLen
  have hle := hr.le
  have hel := hr.ints 0 (by omega)
  obtain ⟨b, off, spot⟩ := ad
  obtain rfl : spot = none := by simpa [Addr.add] using World.cell?_spot hel
  have hb : b < w.heap.size := hr.lt (by simp [u64s]) rfl
  have hel' : w.cell? ⟨b, off, none⟩ = some (.int .u64 x) := by simpa [Addr.add, List.getD] using hel
  clear hel hlen
  have hn1 : ¬ b = w.heap.size + 1 := by omega
  have hn2 : ¬ w.heap.size + 1 = b := by omega
  have hn3 : ¬ b = w.heap.size := by omega
  have hfrom : ∃ A1, A1 = (if c = 1 then some (⟨b, off, none⟩ : Addr) else some ⟨b, off + 1, none⟩) ∧ Rd w 1 A1 m (c - 1) (u64s zs) := by
    refine ⟨_, rfl, ?_⟩
    have := Rd.from_ hr (k := 1) (by omega)
    simpa [Addr.add, u64s] using this
  obtain ⟨A1, hA1, hr1⟩ := hfrom
  have HA := hide hA1.symm; clear hA1
  have Hr1 := hide ((hr1.alloc (.cells #[.int .i64 room, .slice (some ⟨b, off, none⟩) (m + 1) c] 25)).alloc (.cells #[.int .i64 0, .slice none 0 0] 25)); clear hr1
  have HWc := hide (cell_later (a := ⟨b, off, none⟩) (MS.start (room := room) hr).below hel')
  have Hs := hide (MS.start (room := room) hr); clear hr
  have h1 : (1 : Int) ≤ (m : Int) + 1 := by omega
  have h2 : ((m : Int) + 1 == 0) = false := by simp; omega
  have h3 : (0 : Int) < (m : Int) + 1 := by omega
  go_enter Try.func11, Try.ntmps11
  go_wp2
  generalize hW : (w.alloc (.cells #[.int .i64 room, .slice (some ⟨b, off, none⟩) (m + 1) c] 25)).alloc (.cells #[.int .i64 0, .slice none 0 0] 25) = W at *
  clear hW
  have hWc := HWc.out
  have hc0 := Hs.out.c0
  have hc1 := Hs.out.c1
  go_region_held3 (fun w' => w'.cell? ⟨w.heap.size, 0, none⟩ = some (.int .i64 room) ∧ w'.cell? ⟨w.heap.size, 1, none⟩ = some (.slice (some ⟨b, off, none⟩) (m + 1) c) ∧ w'.cell? ⟨b, off, none⟩ = some (.int .u64 x)) (go_keep)
    (first
      | (go_at_call 20
         rw [HA.out]
         (with_reducible refine (clone_any _ _ _ zs _ Hr1.out.drew (by omega)).mono ?_)
         rintro e w1 ⟨v1, rfl, hown1, hb1⟩
         have Hms1 := hide (Hs.out.drew.step hb1)
         have h10 := Hms1.out.c0
         have h11 := Hms1.out.c1
         have h12 := Hms1.out.r0
         have h13 := Hms1.out.r1
         have h14 := Hms1.out.f0
         have h15 := Hms1.out.f1
         have h16 : w1.cell? ⟨b, off, none⟩ = some (.int .u64 x) := cell_later hb1 (by go_simp)
         obtain ⟨A2, c2, rfl, hr2⟩ := own_slice hown1
         have Hr2 := hide hr2
         have Hown2 := hide (own_mono' hown1 Hs.out.drew.size)
         clear hr2 hown1 hb1)
      | fail)
  go_wp2
  refine bodyPost_ret (v := .tuple #[qv room A2 m c2, .int .u64 x, .bool true]) (by simp [results, Try.results11, go_sem, h12, h13]) rfl ⟨A2, c2, rfl, ?_, ?_, ?_⟩
  · refine (Hr2.out.setCell (p := ⟨w.heap.size + 1, 0, none⟩) _ ?_).setCell (p := ⟨w.heap.size + 1, 1, none⟩) _ ?_
    all_goals
      intro _ ad e
      have h := (Hown2.out.lt ad.block (by rw [e]; rfl)).1
      simp only
      omega
  · intro ad e
    have h := (Hown2.out.lt ad.block (by rw [e]; rfl)).1
    omega
  · exact (Hms1.out.below.setCell (p := ⟨w.heap.size + 1, 0, none⟩) (by simp) _).setCell (p := ⟨w.heap.size + 1, 1, none⟩) (by simp) _

set_option maxHeartbeats 400000 in
theorem drop_none (room : Int) (A : Option Addr) (n c : Nat) (zs : List Int) (id : Int) (w : World) (hr : Rd w 1 A n c (u64s zs)) (hin : idx zs id = -1) :
    Calls Try.prog 18 #[qv room A n c, .int .u64 id] w fun e w' => e = .returned (.tuple #[qv room A n c, .bool false]) ∧ Below w.heap.size w w' := by
  have Hr := hide ((hr.alloc (.cells #[.int .i64 room, .slice A n c] 25)).alloc (.cells #[.int .i64 0, .slice none 0 0] 25)); clear hr
  have Hin := hide (hin ▸ index_any A n c zs id _ Hr.out); clear hin
  go_enter Try.func18, Try.ntmps18
  go_wp2_with (go_at_call 23; refine (Hin.out).mono ?_; rintro e w' ⟨rfl, rfl⟩)
  refine bodyPost_ret (v := .tuple #[qv room A n c, .bool false]) (by simp [results, Try.results18, go_sem]) rfl ⟨rfl, ?_⟩
  repeat (first | exact Below.refl _ _ | exact below_drewN _ _ _ | refine Below.drew ?_ | refine Below.alloc ?_ (by simp <;> omega) _ | refine Below.setCell ?_ (by simp <;> omega) _)

set_option maxHeartbeats 1000000 in
theorem drop_some (room : Int) (A : Option Addr) (n c i : Nat) (zs : List Int) (id : Int) (w : World) (hr : Rd w 1 A n c (u64s zs)) (hn : n ≤ 65536) (hin : idx zs id = (i : Int)) (hi : i < n) :
    Calls Try.prog 18 #[qv room A n c, .int .u64 id] w fun e w' => ∃ A' c', e = .returned (.tuple #[qv room A' (n - 1) c', .bool true]) ∧ Rd w' 1 A' (n - 1) c' (u64s (zs.eraseIdx i)) ∧ (∀ ad, A' = some ad → w.heap.size ≤ ad.block) ∧ Below w.heap.size w w' := by
  have Hr := hide ((hr.alloc (.cells #[.int .i64 room, .slice A n c] 25)).alloc (.cells #[.int .i64 0, .slice none 0 0] 25))
  have Hin := hide (hin ▸ index_any A n c zs id _ Hr.out); clear hin
  have Hs := hide (MS.start (room := room) hr); clear hr
  go_enter Try.func18, Try.ntmps18
  go_wp2_with (go_at_call 23; refine (Hin.out).mono ?_; rintro e w' ⟨rfl, rfl⟩)
  generalize hW : (w.alloc (.cells #[.int .i64 room, .slice A n c] 25)).alloc (.cells #[.int .i64 0, .slice none 0 0] 25) = W at *
  clear hW Hin Hr
  have hc0 := Hs.out.c0
  have hc1 := Hs.out.c1
  have hii : IntKind.i64.wrap ((i : Int) + 1) = (i : Int) + 1 := IntWalk.i64_in _ (by omega)
  go_region_held3 (fun w' => w'.cell? ⟨w.heap.size, 0, none⟩ = some (.int .i64 room) ∧ w'.cell? ⟨w.heap.size, 1, none⟩ = some (.slice A n c)) (go_keep)
    (first
      | (go_at_call 20
         (with_reducible refine (clone_any _ _ _ zs _ Hs.out.drew.rd (by omega)).mono ?_)
         rintro e w1 ⟨v1, rfl, hown1, hb1⟩
         have Hms1 := hide (Hs.out.drew.step hb1)
         have h10 := Hms1.out.c0
         have h11 := Hms1.out.c1
         obtain ⟨g, cap, rfl, hg1, hg2⟩ := own_form hown1 (by omega)
         have hsz := Hs.out.drew.size
         have Hown1 := hide (own_mono hown1 Hs.out.drew.size)
         clear hown1 hb1)
      | (go_at_call 26
         (with_reducible refine (delete_own g n cap i (w.heap.size + 2) zs _ hi Hown1.out).mono ?_)
         rintro e w2 ⟨rfl, hown2, hgr2⟩
         have Hms2 := hide (Hms1.out.grown hgr2 (fun k e => by injection e with e; omega))
         have h20 := Hms2.out.c0
         have h21 := Hms2.out.c1
         have h22 := Hms2.out.r0
         have h23 := Hms2.out.r1
         have h24 := Hms2.out.f0
         have h25 := Hms2.out.f1
         have Hr2 := hide (Rd.of_own hown2)
         clear hown2 hgr2)
      | fail)
  go_wp2
  refine bodyPost_ret (v := .tuple #[qv room (some ⟨g, 0, none⟩) (n - 1) cap, .bool true]) (by simp [results, Try.results18, go_sem, h22, h23]) rfl ⟨_, cap, rfl, ?_, ?_, ?_⟩
  · refine (Hr2.out.setCell (p := ⟨w.heap.size + 1, 0, none⟩) _ ?_).setCell (p := ⟨w.heap.size + 1, 1, none⟩) _ ?_
    all_goals
      intro _ ad e
      injection e with e
      subst e
      simp only
      omega
  · intro ad e
    injection e with e
    subst e
    simp only
    omega
  · exact (Hms2.out.below.setCell (p := ⟨w.heap.size + 1, 0, none⟩) (by simp) _).setCell (p := ⟨w.heap.size + 1, 1, none⟩) (by simp) _
end Go.Proofs.Ytghmjfinmbgjiaa
