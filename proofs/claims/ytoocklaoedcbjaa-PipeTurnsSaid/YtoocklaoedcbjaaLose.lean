/-
  Contracts of Lose and Double, and the chapter's example. Conditions: the pipe's slice can be read, at most 64 on their way.
-/
import Derived.Test.YtoocklaoedcbjaaDeliver
namespace Go.Proofs.Ytoocklaoedcbjaa
open Go.RowKit

set_option maxHeartbeats 1000000 in
theorem lose_no (A : Option Addr) (n c : Nat) (l : List Item) (i : Int) (w : World) (hr : Rd w 2 A n c (itemCells l)) (h : i < 0 ∨ (n : Int) ≤ i) :
    Calls Try.prog 14 #[pv A n c, .int .i64 i] w fun e w' => e = .returned (.tuple #[pv A n c, .int .i64 12]) ∧ Below w.heap.size w w' := by
  have H := hide h; clear h
  have Hr := hide ((hr.alloc (.cells #[.slice A n c] 26)).alloc (.cells #[.slice none 0 0] 26)); clear hr
  go_enter Try.func14, Try.ntmps14
  go_wp2_with fail
  refine (deliver_no _ _ _ l _ _ Hr.out H.out).mono ?_
  rintro e w1 ⟨rfl, hb1⟩
  have hb2 : Below w.heap.size w w1 := (((Below.refl _ _).alloc (Nat.le_refl _) _).alloc (by simp) _).trans (hb1.mono (by simp; omega))
  have r0 : w1.cell? ⟨w.heap.size + 1, 0, none⟩ = some (.slice none 0 0) := cell_later hb1 (by go_simp)
  have f0 : w1.frozen? ⟨w.heap.size + 1, 0, none⟩ = false := (hb1.frozen (p := ⟨w.heap.size + 1, 0, none⟩) (by simp)).trans (by go_simp)
  have hs : w.heap.size + 1 < w1.heap.size := by have := hb1.size; simp at this; omega
  have Hb2 := hide hb2
  have R0 := hide (((Below.refl w1.heap.size w1).alloc (Nat.le_refl _) (.cells #[.slice A n c] 26)).alloc (by simp) (.cells #[.int .u64 0, .string ⟨#[]⟩] 32))
  have r0' := cell_later R0.out r0
  have f0' := (R0.out.frozen (p := ⟨w.heap.size + 1, 0, none⟩) hs).trans f0
  clear hb1 hb2 r0 f0
  go_wp2_with fail
  refine bodyPost_ret (v := .tuple #[pv A n c, .int .i64 12]) (by simp [results, Try.results14, go_sem, r0']) rfl ⟨rfl, ?_⟩
  exact (((Hb2.out.alloc Hb2.out.size _).alloc (by have := Hb2.out.size; simp; omega) _)).setCell (p := ⟨w.heap.size + 1, 0, none⟩) (by simp) _

set_option maxHeartbeats 1000000 in
theorem lose_yes (A : Option Addr) (n c : Nat) (l : List Item) (k : Nat) (x : Item) (w : World) (hr : Rd w 2 A n c (itemCells l)) (hn : n ≤ 64) (hx : l[k]? = some x) :
    Calls Try.prog 14 #[pv A n c, .int .i64 k] w fun e w' => ∃ A' c', e = .returned (.tuple #[pv A' (n - 1) c', .int .i64 0]) ∧ Rd w' 2 A' (n - 1) c' (itemCells (l.eraseIdx k)) ∧ (∀ ad, A' = some ad → w.heap.size ≤ ad.block) ∧ Below w.heap.size w w' := by
  have HX := hide hx; clear hx
  have Hr := hide ((hr.alloc (.cells #[.slice A n c] 26)).alloc (.cells #[.slice none 0 0] 26)); clear hr
  go_enter Try.func14, Try.ntmps14
  go_wp2_with fail
  refine (deliver_yes _ _ _ l _ x _ Hr.out hn HX.out).mono ?_
  rintro e w1 ⟨A', c', rfl, hr1, hf1, hb1⟩
  have hb2 : Below w.heap.size w w1 := (((Below.refl _ _).alloc (Nat.le_refl _) _).alloc (by simp) _).trans (hb1.mono (by simp; omega))
  have r0 : w1.cell? ⟨w.heap.size + 1, 0, none⟩ = some (.slice none 0 0) := cell_later hb1 (by go_simp)
  have f0 : w1.frozen? ⟨w.heap.size + 1, 0, none⟩ = false := (hb1.frozen (p := ⟨w.heap.size + 1, 0, none⟩) (by simp)).trans (by go_simp)
  have hs : w.heap.size + 1 < w1.heap.size := by have := hb1.size; simp at this; omega
  have Hb2 := hide hb2
  have Hr1 := hide ((hr1.alloc (.cells #[.slice A' (n - 1) c'] 26)).alloc (.cells #[.int .u64 x.1, .string x.2] 32))
  have Hf1 := hide (show ∀ ad, A' = some ad → w.heap.size + 2 ≤ ad.block from fun ad e => by have := hf1 ad e; simp at this; omega)
  have R0 := hide (((Below.refl w1.heap.size w1).alloc (Nat.le_refl _) (.cells #[.slice A' (n - 1) c'] 26)).alloc (by simp) (.cells #[.int .u64 x.1, .string x.2] 32))
  have r0' := cell_later R0.out r0
  have f0' := (R0.out.frozen (p := ⟨w.heap.size + 1, 0, none⟩) hs).trans f0
  clear hb1 hb2 r0 f0 hr1 hf1
  go_wp2_with fail
  refine bodyPost_ret (v := .tuple #[pv A' (n - 1) c', .int .i64 0]) (by simp [results, Try.results14, go_sem, r0']) rfl ⟨A', c', rfl, ?_, fun ad e => by have := Hf1.out ad e; omega, ?_⟩
  · refine Hr1.out.setCell (p := ⟨w.heap.size + 1, 0, none⟩) _ ?_
    intro _ ad e
    have := Hf1.out ad e
    simp only
    omega
  · exact (((Hb2.out.alloc Hb2.out.size _).alloc (by have := Hb2.out.size; simp; omega) _)).setCell (p := ⟨w.heap.size + 1, 0, none⟩) (by simp) _

set_option maxHeartbeats 1000000 in
theorem double_no (A : Option Addr) (n c : Nat) (i : Int) (w : World) (h : i < 0 ∨ (n : Int) ≤ i) :
    Calls Try.prog 12 #[pv A n c, .int .i64 i] w fun e w' => e = .returned (.tuple #[pv A n c, .int .i64 12]) ∧ Below w.heap.size w w' := by
  have H := hide h; clear h
  go_enter Try.func12, Try.ntmps12
  go_wp2_with fail
  refine (has_no _ _ _ _ _ H.out).mono ?_
  rintro e w1 ⟨rfl, hb1⟩
  have hb2 : Below w.heap.size w w1 := (((Below.refl _ _).alloc (Nat.le_refl _) _).alloc (by simp) _).trans (hb1.mono (by simp; omega))
  have c0 : w1.cell? ⟨w.heap.size, 0, none⟩ = some (.slice A n c) := cell_later hb1 (by go_simp)
  have r0 : w1.cell? ⟨w.heap.size + 1, 0, none⟩ = some (.slice none 0 0) := cell_later hb1 (by go_simp)
  have f0 : w1.frozen? ⟨w.heap.size + 1, 0, none⟩ = false := (hb1.frozen (p := ⟨w.heap.size + 1, 0, none⟩) (by simp)).trans (by go_simp)
  have Hb2 := hide hb2
  clear hb1 hb2
  go_wp2_with fail
  refine bodyPost_ret (v := .tuple #[pv A n c, .int .i64 12]) (by simp [results, Try.results12, go_sem, r0]) rfl ⟨rfl, ?_⟩
  exact Hb2.out.setCell (p := ⟨w.heap.size + 1, 0, none⟩) (by simp) _

set_option maxHeartbeats 2000000 in
theorem double_yes (A : Option Addr) (n c : Nat) (l l' : List Item) (k : Nat) (x : Item) (w : World) (hr : Rd w 2 A n c (itemCells l)) (hn : n ≤ 64) (hx : l[k]? = some x) (hl : sendL l x = l') :
    Calls Try.prog 12 #[pv A n c, .int .i64 k] w fun e w' => ∃ A' c', e = .returned (.tuple #[pv A' l'.length c', .int .i64 0]) ∧ Rd w' 2 A' l'.length c' (itemCells l') ∧ (∀ ad, A' = some ad → w.heap.size ≤ ad.block) ∧ Below w.heap.size w w' := by
  have hkn : k < n := by have := hr.itemLen; have := (List.getElem?_eq_some_iff.1 hx).1; omega
  obtain ⟨⟨b, o, sp⟩, rfl⟩ := hr.isSome (by omega)
  obtain ⟨rfl, hx0, hx1⟩ := hr.items k x hx
  obtain ⟨to, s⟩ := x
  simp only at hx0 hx1
  have hb : b < w.heap.size := World.block_lt_of_cell? _ _ hx0
  have HX0 := hide hx0
  have HX1 := hide hx1
  have HL := hide hl
  have Hr := hide ((hr.alloc (.cells #[.slice (some ⟨b, o, none⟩) n c] 26)).alloc (.cells #[.slice none 0 0] 26))
  clear hr hx0 hx1 hx hl
  have hk0 : (0 : Int) ≤ (k : Int) := by omega
  have hk1 : (k : Int) < (n : Int) := by omega
  have hn1 : ¬ b = w.heap.size := by omega
  have hn2 : ¬ b = w.heap.size + 1 := by omega
  have hn4 : ¬ w.heap.size + 1 = b := by omega
  go_enter Try.func12, Try.ntmps12
  go_wp2_with fail
  refine (has_yes _ _ _ _ _ hk0 hk1).mono ?_
  rintro e W ⟨rfl, hb1⟩
  have hb2 : Below w.heap.size w W := (((Below.refl _ _).alloc (Nat.le_refl _) _).alloc (by simp) _).trans (hb1.mono (by simp; omega))
  have c0 : W.cell? ⟨w.heap.size, 0, none⟩ = some (.slice (some ⟨b, o, none⟩) n c) := cell_later hb1 (by go_simp)
  have r0 : W.cell? ⟨w.heap.size + 1, 0, none⟩ = some (.slice none 0 0) := cell_later hb1 (by go_simp)
  have f0 : W.frozen? ⟨w.heap.size + 1, 0, none⟩ = false := (hb1.frozen (p := ⟨w.heap.size + 1, 0, none⟩) (by simp)).trans (by go_simp)
  have x0 := cell_later hb2 HX0.out
  have x1 := cell_later hb2 HX1.out
  have C0 := hide c0
  have R0 := hide r0
  have F0 := hide f0
  have Hb2 := hide hb2
  have hs : w.heap.size + 1 < W.heap.size := by have := hb1.size; simp at this; omega
  have Hr1 := hide (Hr.out.below hb1)
  clear hb1 hb2 Hr
  go_wp2_with fail
  go_region_held3 (fun w' => w'.cell? ⟨w.heap.size, 0, none⟩ = some (.slice (some ⟨b, o, none⟩) n c) ∧ w'.cell? ⟨b, o + k * 2, none⟩ = some (.int .u64 to) ∧ w'.cell? ⟨b, o + k * 2 + 1, none⟩ = some (.string s)) (go_keep)
    (first
      | (go_at_call 7
         (with_reducible refine (send_any _ _ _ l l' to s _ Hr1.out.drew hn HL.out).mono ?_)
         rintro e w2 ⟨A', c', rfl, hr2, hf2, hb3⟩
         have h20 := cell_later hb3 (show W.drew.cell? ⟨w.heap.size, 0, none⟩ = _ from C0.out)
         have h21 := cell_later (Hb2.out.trans ((below_drew _ _).trans (hb3.mono Hb2.out.size))) HX0.out
         have h22 := cell_later (Hb2.out.trans ((below_drew _ _).trans (hb3.mono Hb2.out.size))) HX1.out
         have h23 := cell_later hb3 (show W.drew.cell? ⟨w.heap.size + 1, 0, none⟩ = _ from R0.out)
         have h24 := (hb3.frozen (p := ⟨w.heap.size + 1, 0, none⟩) hs).trans F0.out
         have Hr2 := hide hr2
         have Hf2 := hide (show ∀ ad, A' = some ad → w.heap.size + 2 ≤ ad.block from fun ad e => by have h := hf2 ad e; have h' : W.heap.size ≤ ad.block := h; omega)
         have Hb3 := hide (Hb2.out.trans ((below_drew _ _).trans (hb3.mono Hb2.out.size)))
         clear hr2 hf2 hb3)
      | fail)
  all_goals
    go_wp2
    refine bodyPost_ret (v := .tuple #[pv A' l'.length c', .int .i64 0]) (by simp [results, Try.results12, go_sem, h23]) rfl ⟨_, c', rfl, ?_, fun ad e => by have := Hf2.out ad e; omega, ?_⟩
    · refine Hr2.out.setCell (p := ⟨w.heap.size + 1, 0, none⟩) _ ?_
      intro _ ad e
      have := Hf2.out ad e
      simp only
      omega
    · exact Hb3.out.setCell (p := ⟨w.heap.size + 1, 0, none⟩) (by simp) _

set_option maxHeartbeats 1000000 in
theorem awake_any (w : World) : Calls Try.prog 6 #[] w fun e w' => e = .returned (.bool true) ∧ Below w.heap.size w w' := by
  go_enter Try.func6, Try.ntmps6
  go_wp2_with fail
  refine (lose_no none 0 0 [] 0 w (Rd.nil_ _ _) (.inr (by omega))).mono ?_
  rintro e w1 ⟨rfl, hb1⟩
  have Hb1 := hide hb1
  clear hb1
  go_wp2_with fail
  refine (send_any none 0 0 [] [(1, ⟨#[120]⟩)] 1 ⟨#[120]⟩ _ (Rd.nil_ _ _) (by omega) rfl).mono ?_
  rintro e w2 ⟨A', c', rfl, _, _, hb2⟩
  have hb3 := Hb1.out.trans ((((Below.refl w1.heap.size w1).alloc (Nat.le_refl _) (.cells #[.slice none 0 0] 26)).trans (hb2.mono (by simp))).mono Hb1.out.size)
  have Hb3 := hide hb3
  clear hb2 hb3
  go_wp2_with fail
  refine (len_any _ _ _ _).mono ?_
  rintro e w3 ⟨rfl, hb4⟩
  have Hb4 := hide (Hb3.out.trans (hb4.mono Hb3.out.size))
  clear hb4
  go_wp2_with fail
  go_ret
  exact ⟨rfl, Hb4.out⟩
end Go.Proofs.Ytoocklaoedcbjaa
