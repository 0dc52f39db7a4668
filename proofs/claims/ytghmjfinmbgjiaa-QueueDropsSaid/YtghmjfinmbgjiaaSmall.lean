/-
  Contracts of the small functions: New, All, and the chapter's example (awake). Conditions: none beyond what can be read.
-/
import Derived.Test.YtghmjfinmbgjiaaQueue
namespace Go.Proofs.Ytghmjfinmbgjiaa
open Go.RowKit

set_option maxHeartbeats 400000 in
theorem new_ok (room : Int) (w : World) (h0 : 0 ≤ room) (h1 : room ≤ 64) :
    Calls Try.prog 8 #[.int .i64 room] w fun e w' => e = .returned (.tuple #[qv room none 0 0, .int .i64 0]) ∧ Below w.heap.size w w' := by
  go_enter Try.func8, Try.ntmps8
  go_wp2
  refine bodyPost_ret (v := .tuple #[qv room none 0 0, .int .i64 0]) (by simp [results, Try.results8, go_sem]) rfl ⟨rfl, ?_⟩
  repeat (first | exact Below.refl _ _ | exact below_drewN _ _ _ | refine Below.drew ?_ | refine Below.alloc ?_ (by simp <;> omega) _ | refine Below.setCell ?_ (by simp <;> omega) _)

set_option maxHeartbeats 400000 in
theorem new_bad (room : Int) (w : World) (h : room < 0 ∨ 64 < room) :
    Calls Try.prog 8 #[.int .i64 room] w fun e w' => e = .returned (.tuple #[qv 0 none 0 0, .int .i64 7]) ∧ Below w.heap.size w w' := by
  by_cases h0 : room < 0
  · clear h
    go_enter Try.func8, Try.ntmps8
    go_wp2
    refine bodyPost_ret (v := .tuple #[qv 0 none 0 0, .int .i64 7]) (by simp [results, Try.results8, go_sem]) rfl ⟨rfl, ?_⟩
    repeat (first | exact Below.refl _ _ | exact below_drewN _ _ _ | refine Below.drew ?_ | refine Below.alloc ?_ (by simp <;> omega) _ | refine Below.setCell ?_ (by simp <;> omega) _)
  · have h1 : 64 < room := h.resolve_left h0
    clear h
    go_enter Try.func8, Try.ntmps8
    go_wp2
    refine bodyPost_ret (v := .tuple #[qv 0 none 0 0, .int .i64 7]) (by simp [results, Try.results8, go_sem]) rfl ⟨rfl, ?_⟩
    repeat (first | exact Below.refl _ _ | exact below_drewN _ _ _ | refine Below.drew ?_ | refine Below.alloc ?_ (by simp <;> omega) _ | refine Below.setCell ?_ (by simp <;> omega) _)

set_option maxHeartbeats 400000 in
theorem all_any (room : Int) (A : Option Addr) (n c : Nat) (zs : List Int) (w : World) (hr : Rd w 1 A n c (u64s zs)) (hn : n ≤ 65536) :
    Calls Try.prog 17 #[qv room A n c] w fun e w' => ∃ A' c', e = .returned (.slice A' n c') ∧ w'.ownsRow w.heap.size 29 1 (.slice A' n c') n (u64s zs) ∧ Below w.heap.size w w' := by
  have Hr := hide (hr.alloc (.cells #[.int .i64 room, .slice A n c] 25)); clear hr
  go_enter Try.func17, Try.ntmps17
  go_wp2_with (go_at_call 20; refine (clone_any _ _ _ zs _ Hr.out hn).mono ?_; rintro e w1 ⟨v1, rfl, hown1, hb1⟩)
  go_ret
  obtain ⟨A', c', rfl, _⟩ := own_slice hown1
  exact ⟨A', c', rfl, own_mono' hown1 (by simp), ((Below.refl _ _).alloc (Nat.le_refl _) _).trans (hb1.mono (by simp))⟩

set_option maxHeartbeats 400000 in
theorem awake_any (w : World) : Calls Try.prog 7 #[] w fun e w' => e = .returned (.bool true) ∧ Below w.heap.size w w' := by
  go_enter Try.func7, Try.ntmps7
  go_wp2_with fail
  refine (new_ok 3 w (by omega) (by omega)).mono ?_
  rintro e w1 ⟨rfl, hb1⟩
  go_wp2_with fail
  refine (room_any 3 none 0 0 _ (by omega) (by omega) (by omega)).mono ?_
  rintro e w2 ⟨rfl, hb2⟩
  have hc0 : w2.cell? ⟨w1.heap.size, 0, none⟩ = some (.int .i64 3) := cell_later hb2 (by go_simp)
  have hc1 : w2.cell? ⟨w1.heap.size, 1, none⟩ = some (.slice none 0 0) := cell_later hb2 (by go_simp)
  have Hb2 := hide (hb1.trans ((((Below.refl _ w1).alloc (Nat.le_refl _) _).trans (hb2.mono (by simp))).mono hb1.size)); clear hb1 hb2
  go_wp2_with fail
  refine (len_any 3 none 0 0 _).mono ?_
  rintro e w3 ⟨rfl, hb3⟩
  have Hb3 := hide hb3; clear hb3
  go_wp2_with fail
  go_ret
  exact ⟨rfl, Hb2.out.trans (Hb3.out.mono Hb2.out.size)⟩
end Go.Proofs.Ytghmjfinmbgjiaa
