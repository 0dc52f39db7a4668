/-
  SpinTurns at any input; rows of rows of numbers that came in, opened. Conditions: they read as data.
-/
import Derived.Test.YtnabckcdffpimaaSpins
import Derived.ProofKit
import Derived.OpenShut
import Derived.Deep.Slices
namespace Go.Proofs.Ytnabckcdffpimaa
open Go.RowKit Go.ChangeShapes Go.WideShapes Go.Deep

theorem open_rows {H : Type} {enc : TypeId × Value → H} {w : World} {base : Nat} {held : Bool} {fuel : Nat} {a0 : Option Addr} {len cap : Nat} {x : DataW H × List MemPlace}
    (h : DataW.trod enc Try.prog w base (fun _ => true) held fuel 53 [.slice a0 len cap] = some x) :
    ∃ svs, Rd w 1 a0 len cap svs ∧ ∀ j, j < len → ∃ B m d D, svs[j]? = some (.slice B m d) ∧ Rd w 1 B m d (i64s D) := by
  rcases open_slice1 Try.underlying53 (by kernel_rfl) h with ⟨hcs, _⟩ | ⟨a, l, c, m, n, V, D, Pl, hcs, _, hl, hm, hmm, _, hel⟩
  · simp at hcs
    obtain ⟨rfl, rfl, rfl⟩ := hcs
    exact ⟨[], Rd.nil_ _ _, fun j hj => by omega⟩
  · simp at hcs
    obtain ⟨rfl, rfl, rfl⟩ := hcs
    have hlm : len ≤ m := by rw [hmm]; simpa using hl
    refine ⟨(List.range len).map V, ⟨by simp, hl, hm, (fun e => by cases e), fun ad e j u hj => ?_⟩, fun j hj => ?_⟩
    · injection e with e
      subst e
      have hjl : j < len := by
        have := (List.getElem?_eq_some_iff.1 hj).1
        simpa using this
      simp [hjl] at hj
      subst hj
      exact (hel j (by omega)).1
    · have h2 := (hel j (by omega)).2
      rcases open_ints Try.underlying39 Try.underlying3 (by kernel_rfl) h2 with ⟨hcs, _⟩ | ⟨x, l, c, zs, hcs, _, hl2, hm2, hz, _, hcell, _⟩
      · simp at hcs
        exact ⟨none, 0, 0, [], by simp [hj, hcs], Rd.nil_ _ _⟩
      · simp at hcs
        exact ⟨some x, l, c, zs.take l, by simp [hj, hcs], rd_of_cells hl2 hm2 (by simpa using hz) hcell⟩

theorem spins_any (A : Option Addr) (n c : Nat) (ws : List Int) (A2 : Option Addr) (n2 c2 : Nat) (svs : List Value) (w : World) (hr : Rd w 1 A n c (i64s ws)) (hD : Rd w 1 A2 n2 c2 svs)
    (hDs : ∀ j, j < n2 → ∃ B m d D, svs[j]? = some (.slice B m d) ∧ Rd w 1 B m d (i64s D)) :
    Calls Try.prog 7 #[.slice A n c, .slice A2 n2 c2] w fun e w' => e = .returned (.bool true) ∧ Below w.heap.size w w' := by
  by_cases hn : n ≤ 20
  · by_cases hn2 : n2 ≤ 300
    · exact spins_short A n c ws A2 n2 c2 svs w hr hn hD hn2 hDs
    · have h1 : decide ((20 : Int) < (n : Int)) = false := by rw [decide_eq_false_iff_not]; omega
      have h2 : decide ((300 : Int) < (n2 : Int)) = true := by rw [decide_eq_true_iff]; omega
      clear hr hD hDs
      go_enter Try.func7, Try.ntmps7
      go_wp2_with fail
      refine (awake22_any _).mono ?_
      rintro e w1 ⟨rfl, hb1⟩
      have HB1 := hide hb1
      clear hb1
      go_wp2_with fail
      go_ret
      exact ⟨rfl, HB1.out⟩
  · have h1 : decide ((20 : Int) < (n : Int)) = true := by rw [decide_eq_true_iff]; omega
    clear hr hD hDs
    go_enter Try.func7, Try.ntmps7
    go_wp2_with fail
    refine (awake22_any _).mono ?_
    rintro e w1 ⟨rfl, hb1⟩
    have HB1 := hide hb1
    clear hb1
    go_wp2_with fail
    go_ret
    exact ⟨rfl, HB1.out⟩
end Go.Proofs.Ytnabckcdffpimaa
