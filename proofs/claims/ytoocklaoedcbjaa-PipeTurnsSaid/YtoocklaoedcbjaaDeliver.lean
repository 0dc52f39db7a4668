/-
  Contracts of Deliver, Lose and Double. Conditions: the pipe's slice can be read, at most 64 on their way.
-/
import Derived.Test.YtoocklaoedcbjaaPipe
namespace Go.Proofs.Ytoocklaoedcbjaa
open Go.RowKit

/-- What stands while Deliver runs. -/
structure MP (w : World) (A : Option Addr) (n c : Nat) (l : List Item) (W : World) : Prop where
  c0 : W.cell? ⟨w.heap.size, 0, none⟩ = some (.slice A n c)
  r0 : W.cell? ⟨w.heap.size + 1, 0, none⟩ = some (.slice none 0 0)
  f0 : W.frozen? ⟨w.heap.size + 1, 0, none⟩ = false
  s0 : W.cell? ⟨w.heap.size + 2, 0, none⟩ = some (.int .u64 0)
  s1 : W.cell? ⟨w.heap.size + 2, 1, none⟩ = some (.string ⟨#[]⟩)
  g0 : W.frozen? ⟨w.heap.size + 2, 0, none⟩ = false
  g1 : W.frozen? ⟨w.heap.size + 2, 1, none⟩ = false
  size : w.heap.size + 3 ≤ W.heap.size
  rd : Rd W 2 A n c (itemCells l)
  lt : ∀ ad, A = some ad → itemCells l ≠ [] → ad.block < w.heap.size
  below : Below w.heap.size w W

section
variable {w W w1 : World} {A : Option Addr} {n c : Nat} {l : List Item}
theorem MP.start (hr : Rd w 2 A n c (itemCells l)) : MP w A n c l (((w.alloc (.cells #[.slice A n c] 26)).alloc (.cells #[.slice none 0 0] 26)).alloc (.cells #[.int .u64 0, .string ⟨#[]⟩] 32)) where
  c0 := by go_simp
  r0 := by go_simp
  f0 := by go_simp
  s0 := by go_simp
  s1 := by go_simp
  g0 := by go_simp
  g1 := by go_simp
  size := by simp
  rd := ((hr.alloc _).alloc _).alloc _
  lt := fun ad e hx => hr.lt hx e
  below := (((Below.refl _ _).alloc (Nat.le_refl _) _).alloc (by simp) _).alloc (by simp; omega) _
theorem MP.grown (h : MP w A n c l W) {row : Option Nat} (hg : W.grownBy w1 row) (hrow : ∀ k, row = some k → w.heap.size + 3 ≤ k) : MP w A n c l w1 := by
  have hs := h.size
  have hb : ∀ b, b < w.heap.size + 3 → w1.heap[b]? = W.heap[b]? := fun b hlt => hg.block b (by omega) (fun e => by have := hrow b e.symm; omega)
  exact { c0 := (World.cell?_of_block (hb _ (by simp))).trans h.c0
          r0 := (World.cell?_of_block (hb _ (by simp))).trans h.r0, f0 := (World.frozen?_of_block (hb _ (by simp))).trans h.f0
          s0 := (World.cell?_of_block (hb _ (by simp))).trans h.s0, s1 := (World.cell?_of_block (hb _ (by simp))).trans h.s1
          g0 := (World.frozen?_of_block (hb _ (by simp))).trans h.g0, g1 := (World.frozen?_of_block (hb _ (by simp))).trans h.g1
          size := Nat.le_trans hs hg.size
          rd := h.rd.grown hg (fun hx ad e he => by have := h.lt ad e hx; have := hrow _ he; omega)
          lt := h.lt
          below := h.below.grown hg (by omega) (fun k e => by have := hrow k e; omega) }
theorem MP.step (h : MP w A n c l W) (hb : Below W.heap.size W w1) : MP w A n c l w1 :=
  h.grown (row := none) ⟨hb.os, hb.tape, hb.output, hb.size, fun k hk _ => hb.block k hk⟩ (by simp)
theorem MP.drew (h : MP w A n c l W) : MP w A n c l W.drew := h.step (below_drew _ _)
end

/-- The empty item's value. -/
abbrev noItem : Value := .agg #[.int .u64 0, .string ⟨#[]⟩]
abbrev itemV (x : Item) : Value := .agg #[.int .u64 x.1, .string x.2]

set_option maxHeartbeats 1000000 in
theorem deliver_no (A : Option Addr) (n c : Nat) (l : List Item) (i : Int) (w : World) (hr : Rd w 2 A n c (itemCells l)) (h : i < 0 ∨ (n : Int) ≤ i) :
    Calls Try.prog 10 #[pv A n c, .int .i64 i] w fun e w' => e = .returned (.tuple #[pv A n c, noItem, .int .i64 12]) ∧ Below w.heap.size w w' := by
  have H := hide h; clear h
  have Hs := hide (MP.start hr); clear hr
  go_enter Try.func10, Try.ntmps10
  go_wp2_with fail
  refine (has_no _ _ _ _ _ H.out).mono ?_
  rintro e w1 ⟨rfl, hb1⟩
  have Hs1 := hide (Hs.out.step hb1)
  clear hb1 Hs
  have c0 := Hs1.out.c0
  have r0 := Hs1.out.r0
  have f0 := Hs1.out.f0
  have s0 := Hs1.out.s0
  have s1 := Hs1.out.s1
  have g0 := Hs1.out.g0
  have g1 := Hs1.out.g1
  go_wp2_with fail
  refine bodyPost_ret (v := .tuple #[pv A n c, noItem, .int .i64 12]) (by simp [results, Try.results10, go_sem, r0, s0, s1]) rfl ⟨rfl, ?_⟩
  exact ((Hs1.out.below.setCell (p := ⟨w.heap.size + 1, 0, none⟩) (by simp) _).setCell (p := ⟨w.heap.size + 2, 0, none⟩) (by simp) _).setCell (p := ⟨w.heap.size + 2, 1, none⟩) (by simp) _

set_option maxHeartbeats 2000000 in
theorem deliver_yes (A : Option Addr) (n c : Nat) (l : List Item) (k : Nat) (x : Item) (w : World) (hr : Rd w 2 A n c (itemCells l)) (hn : n ≤ 64) (hx : l[k]? = some x) :
    Calls Try.prog 10 #[pv A n c, .int .i64 k] w fun e w' => ∃ A' c', e = .returned (.tuple #[pv A' (n - 1) c', itemV x, .int .i64 0]) ∧ Rd w' 2 A' (n - 1) c' (itemCells (l.eraseIdx k)) ∧ (∀ ad, A' = some ad → w.heap.size ≤ ad.block) ∧ Below w.heap.size w w' := by
  have hkn : k < n := by have := hr.itemLen; have := (List.getElem?_eq_some_iff.1 hx).1; omega
  obtain ⟨⟨b, o, sp⟩, rfl⟩ := hr.isSome (by omega)
  obtain ⟨rfl, hx0, hx1⟩ := hr.items k x hx
  obtain ⟨to, s⟩ := x
  simp only at hx0 hx1
  have hb : b < w.heap.size := World.block_lt_of_cell? _ _ hx0
  have HX0 := hide hx0
  have HX1 := hide hx1
  have Hs := hide (MP.start hr)
  clear hr hx0 hx1 hx
  have hk0 : (0 : Int) ≤ (k : Int) := by omega
  have hk1 : (k : Int) < (n : Int) := by omega
  have hkw : IntKind.i64.wrap ((k : Int) + 1) = (k : Int) + 1 := IntWalk.i64_in _ (by omega)
  have hn1 : ¬ b = w.heap.size := by omega
  have hn2 : ¬ b = w.heap.size + 1 := by omega
  have hn3 : ¬ b = w.heap.size + 2 := by omega
  have hn4 : ¬ w.heap.size + 1 = b := by omega
  have hn5 : ¬ w.heap.size + 2 = b := by omega
  have hn6 : ¬ w.heap.size = w.heap.size + 1 + 1 := by omega
  have hn7 : ¬ w.heap.size + 1 + 1 = w.heap.size := by omega
  have hn8 : ¬ b = w.heap.size + 1 + 1 := by omega
  have hn9 : ¬ w.heap.size + 1 + 1 = b := by omega
  go_enter Try.func10, Try.ntmps10
  go_wp2_with fail
  refine (has_yes _ _ _ _ _ hk0 hk1).mono ?_
  rintro e W ⟨rfl, hb1⟩
  have Hs1 := hide (Hs.out.step hb1)
  have c0 := Hs1.out.c0
  have x0 := cell_later Hs1.out.below HX0.out
  have x1 := cell_later Hs1.out.below HX1.out
  clear hb1 Hs
  go_wp2_with fail
  go_region_held3 (fun w' => w'.cell? ⟨w.heap.size, 0, none⟩ = some (.slice (some ⟨b, o, none⟩) n c) ∧ w'.cell? ⟨b, o + k * 2, none⟩ = some (.int .u64 to) ∧ w'.cell? ⟨b, o + k * 2 + 1, none⟩ = some (.string s)) (go_keep)
    (first
      | (go_at_call 19
         (with_reducible refine (clone_any _ _ _ l _ Hs1.out.drew.rd (by omega)).mono ?_)
         rintro e w1 ⟨v1, rfl, hown1, hb1⟩
         have Hms1 := hide (Hs1.out.drew.step hb1)
         have h10 := Hms1.out.c0
         have h11 := cell_later Hms1.out.below HX0.out
         have h12 := cell_later Hms1.out.below HX1.out
         obtain ⟨g, cap, rfl, hg1, hg2⟩ := own_form hown1 (by omega)
         have hsz := Hs1.out.drew.size
         have Hown1 := hide (own_mono hown1 Hs1.out.drew.size)
         clear hown1 hb1)
      | (go_at_call 23
         (with_reducible refine (delete_own g n cap k (w.heap.size + 3) l _ hkn Hown1.out).mono ?_)
         rintro e w2 ⟨rfl, hown2, hgr2⟩
         have Hms2 := hide (Hms1.out.grown hgr2 (fun k e => by injection e with e; omega))
         have h20 := Hms2.out.c0
         have h21 := cell_later Hms2.out.below HX0.out
         have h22 := cell_later Hms2.out.below HX1.out
         have h23 := Hms2.out.r0
         have h24 := Hms2.out.f0
         have h25 := Hms2.out.s0
         have h26 := Hms2.out.s1
         have h27 := Hms2.out.g0
         have h28 := Hms2.out.g1
         have Hr2 := hide (Rd.of_own hown2)
         clear hown2 hgr2)
      | fail)
  all_goals
    go_wp2
    refine bodyPost_ret (v := .tuple #[pv (some ⟨g, 0, none⟩) (n - 1) cap, itemV (to, s), .int .i64 0]) (by simp [results, Try.results10, go_sem, h23, h25, h26]) rfl ⟨_, cap, rfl, ?_, ?_, ?_⟩
    · refine ((Hr2.out.setCell (p := ⟨w.heap.size + 1, 0, none⟩) _ ?_).setCell (p := ⟨w.heap.size + 2, 0, none⟩) _ ?_).setCell (p := ⟨w.heap.size + 2, 1, none⟩) _ ?_
      all_goals
        intro _ ad e
        injection e with e
        subst e
        simp only
        omega
    · intro ad e
      injection e with e
      subst e
      simp only
      omega
    · exact ((Hms2.out.below.setCell (p := ⟨w.heap.size + 1, 0, none⟩) (by simp) _).setCell (p := ⟨w.heap.size + 2, 0, none⟩) (by simp) _).setCell (p := ⟨w.heap.size + 2, 1, none⟩) (by simp) _
end Go.Proofs.Ytoocklaoedcbjaa
