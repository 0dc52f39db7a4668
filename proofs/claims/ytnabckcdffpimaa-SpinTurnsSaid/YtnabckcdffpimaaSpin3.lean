/-
  Layer 22's example; New and Next by their answers. Conditions: the slices can be read; the numbers are small.
-/
import Derived.Test.YtnabckcdffpimaaSpin2
namespace Go.Proofs.Ytnabckcdffpimaa
open Go.RowKit Ieee

theorem new_good (A : Option Addr) (n c : Nat) (ws : List Int) (w : World) (hr : Rd w 1 A n c (i64s ws)) (hn : n ≤ 8) (hg : ∀ k, k < n → okW (ws.getD k 0)) :
    Calls Try.prog 18 #[.slice A n c] w fun e w' => ∃ A' c', e = .returned (.tuple #[sv A' n c', .int .i64 0]) ∧ Rd w' 1 A' n c' (pvs (fresh ws)) ∧ (∀ ad, A' = some ad → w.heap.size ≤ ad.block) ∧ Below w.heap.size w w' := by
  refine (new_few A n c ws w hr hn).mono ?_
  rintro e w' ⟨hb, ⟨⟨k, hk, hbad⟩, _⟩ | ⟨_, A', c', rfl, h1, h2⟩⟩
  · exact absurd (hg k hk) hbad
  · exact ⟨A', c', rfl, h1, h2, hb⟩
theorem new_bad (A : Option Addr) (n c : Nat) (ws : List Int) (w : World) (hr : Rd w 1 A n c (i64s ws)) (hn : n ≤ 8) (hg : ∃ k, k < n ∧ ¬ okW (ws.getD k 0)) :
    Calls Try.prog 18 #[.slice A n c] w fun e w' => e = .returned (.tuple #[sv none 0 0, .int .i64 7]) ∧ Below w.heap.size w w' := by
  refine (new_few A n c ws w hr hn).mono ?_
  rintro e w' ⟨hb, ⟨_, rfl⟩ | ⟨h, _⟩⟩
  · exact ⟨rfl, hb⟩
  · obtain ⟨k, hk, hbad⟩ := hg
    exact absurd (h k hk) hbad
theorem next_yes (A : Option Addr) (n c : Nat) (B : Option Addr) (m d : Nat) (l : List PN) (D : List Int) (H b : Nat) (w : World) (hr : Rd w 1 A n c (pvs l)) (hD : Rd w 1 B m d (i64s D)) (hs : SP l H) (hH : H ≤ 100000000)
    (hb : bestTo D l l.length = (b : Int)) (l' : List PN) (hl' : after D l b = l') :
    Calls Try.prog 19 #[sv A n c, .slice B m d] w fun e w' => ∃ A' c', e = .returned (.tuple #[sv A' n c', .int .i64 b, .bool true]) ∧ Rd w' 1 A' n c' (pvs l') ∧ (∀ ad, A' = some ad → w.heap.size ≤ ad.block) ∧ Below w.heap.size w w' := by
  refine (next_any A n c B m d l D H w hr hD hs hH).mono ?_
  rintro e w' ⟨hbel, ⟨h1, _⟩ | ⟨b', A', c', h1, rfl, h2, h3⟩⟩
  · rw [hb] at h1
    omega
  · obtain rfl : b = b' := by rw [hb] at h1; omega
    rw [hl'] at h2
    exact ⟨A', c', rfl, h2, h3, hbel⟩
theorem next_no (A : Option Addr) (n c : Nat) (B : Option Addr) (m d : Nat) (l : List PN) (D : List Int) (H : Nat) (w : World) (hr : Rd w 1 A n c (pvs l)) (hD : Rd w 1 B m d (i64s D)) (hs : SP l H) (hH : H ≤ 100000000)
    (hb : bestTo D l l.length = -1) :
    Calls Try.prog 19 #[sv A n c, .slice B m d] w fun e w' => e = .returned (.tuple #[sv A n c, .int .i64 0, .bool false]) ∧ Below w.heap.size w w' := by
  refine (next_any A n c B m d l D H w hr hD hs hH).mono ?_
  rintro e w' ⟨hbel, ⟨h1, rfl⟩ | ⟨b', A', c', h1, rfl, h2, h3⟩⟩
  · exact ⟨rfl, hbel⟩
  · rw [hb] at h1
    omega

theorem rd_new2 (w : World) (u v : Value) (e : TypeId) : Rd (w.alloc (.cells #[u, v] e)) 1 (some ⟨w.heap.size, 0, none⟩) 2 2 [u, v] := by
  refine ⟨rfl, Nat.le_refl _, by simp [maxLen], (fun h => by cases h), fun ad he j y hj => ?_⟩
  injection he with he
  subst he
  match j, hj with
  | 0, hj => simp at hj; subst hj; simp [Addr.add]
  | 1, hj => simp at hj; subst hj; simp [Addr.add]
  | j + 2, hj => simp at hj

set_option maxHeartbeats 1000000 in
theorem awake5_any (w : World) : Calls Try.prog 34 #[] w fun e w' => e = .returned (.bool true) ∧ w = w' := by
  go_enter Try.func34, Try.ntmps34
  go_wp2_with fail
  refine (awake_any w).mono ?_
  rintro e w1 ⟨rfl, rfl⟩
  go_wp2_with fail
  go_ret
  exact ⟨rfl, rfl⟩

set_option maxRecDepth 100000 in
set_option maxHeartbeats 4000000 in
theorem awake22_any (w : World) : Calls Try.prog 17 #[] w fun e w' => e = .returned (.bool true) ∧ Below w.heap.size w w' := by
  go_enter Try.func17, Try.ntmps17
  go_wp2_with fail
  refine (new_good _ 2 2 [2, 1] _ (rd_new2 _ _ _ _) (by omega) (by decide)).mono ?_
  rintro e w1 ⟨A1, c1, rfl, hr1, _, hb1⟩
  have H1 := hide (show Rd w1 1 A1 2 c1 (pvs [(0, 2), (0, 1)]) from hr1)
  have HB := hide (((Below.refl w.heap.size w).alloc (Nat.le_refl _) (.cells #[.int .i64 2, .int .i64 1] 3)).trans (hb1.mono (by simp)))
  have HB1 := HB
  clear hr1 hb1
  go_wp2_with fail
  have HS1 := hide (show SP [(0, 2), (0, 1)] 0 from fresh_SP [2, 1] (by decide) (by decide))
  have HS2 := hide (show SP [(-1, 2), (1, 1)] 900 from HS1.out.after [] 0)
  have HS3 := hide (show SP [(1, 2), (-1, 1)] 1800 from HS2.out.after [] 1)
  refine (next_yes A1 2 c1 none 0 0 [(0, 2), (0, 1)] [] 0 0 _ (H1.out.alloc _) (Rd.nil_ _ _) HS1.out (by omega) (by decide +kernel) [(-1, 2), (1, 1)] (by decide +kernel)).mono ?_
  rintro e w2 ⟨A2, c2, rfl, hr2, hf2, hb2⟩
  have H2 := hide hr2
  have HB := hide ((HB.out.alloc HB.out.size (.cells #[.slice A1 2 c1] 41)).trans (hb2.mono (by have := HB.out.size; simp; omega)))
  have s0 : w2.cell? ⟨w1.heap.size, 0, none⟩ = some (.slice A1 2 c1) := cell_later hb2 (by go_simp)
  have s1 : w2.frozen? ⟨w1.heap.size, 0, none⟩ = false := by rw [hb2.frozen (p := ⟨w1.heap.size, 0, none⟩) (by simp)]; go_simp
  have hf := hide (show ∀ ad, A2 = some ad → w1.heap.size < ad.block from fun ad e => by have := hf2 ad e; simp at this; omega)
  have hg : w.heap.size ≤ w1.heap.size := HB1.out.size
  generalize hp : w1.heap.size = p at *
  clear hr2 hf2 hb2 H1 HB1 hp
  go_wp2_with fail
  have s3 : (w2.setCell ⟨p, 0, none⟩ (.slice A2 2 c2)).cell? ⟨p, 0, none⟩ = some (.slice A2 2 c2) := by go_simp
  have s4 : (w2.setCell ⟨p, 0, none⟩ (.slice A2 2 c2)).frozen? ⟨p, 0, none⟩ = false := by go_simp
  have H2 := hide (H2.out.setCell (p := ⟨p, 0, none⟩) (.slice A2 2 c2) (fun _ ad e => by have := hf.out ad e; simp only; omega))
  have HB := hide (HB.out.setCell (p := ⟨p, 0, none⟩) hg (.slice A2 2 c2))
  generalize hW2 : w2.setCell ⟨p, 0, none⟩ (.slice A2 2 c2) = W2 at *
  clear s0 s1
  refine (next_yes A2 2 c2 none 0 0 [(-1, 2), (1, 1)] [] 900 1 _ H2.out (Rd.nil_ _ _) HS2.out (by omega) (by decide +kernel) [(1, 2), (-1, 1)] (by decide +kernel)).mono ?_
  rintro e w3 ⟨A3, c3, rfl, hr3, hf3, hb3⟩
  have H3 := hide hr3
  have s0 := cell_later hb3 s3
  have hlt : p < W2.heap.size := World.block_lt_of_cell? _ _ s3
  have s1 : w3.frozen? ⟨p, 0, none⟩ = false := by rw [hb3.frozen (p := ⟨p, 0, none⟩) hlt]; exact s4
  have HB3 := hide (HB.out.trans (hb3.mono HB.out.size))
  have hf3' := hide (show ∀ ad, A3 = some ad → p < ad.block from fun ad e => by have := hf3 ad e; omega)
  clear hr3 hf3 hb3 hlt s3 s4
  go_wp2_with fail
  have H3 := hide (H3.out.setCell (p := ⟨p, 0, none⟩) (.slice A3 2 c3) (fun _ ad e => by have := hf3'.out ad e; simp only; omega))
  have HB3 := hide (HB3.out.setCell (p := ⟨p, 0, none⟩) hg (.slice A3 2 c3))
  refine (next_yes A3 2 c3 none 0 0 [(1, 2), (-1, 1)] [] 1800 0 _ H3.out (Rd.nil_ _ _) HS3.out (by omega) (by decide +kernel) [(0, 2), (0, 1)] (by decide +kernel)).mono ?_
  rintro e w4 ⟨A4, c4, rfl, hr4, hf4, hb4⟩
  have HB4 := hide (HB3.out.trans (hb4.mono HB3.out.size))
  clear hr4 hf4 hb4
  go_wp2_with fail
  refine (awake5_any _).mono ?_
  rintro e w5 ⟨rfl, rfl⟩
  go_wp2_with fail
  go_ret
  exact ⟨rfl, HB4.out.alloc HB4.out.size _⟩
end Go.Proofs.Ytnabckcdffpimaa
