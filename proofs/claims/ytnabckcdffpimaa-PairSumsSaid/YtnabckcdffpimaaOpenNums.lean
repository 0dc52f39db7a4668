/-
  A slice of pairs of numbers that came in, opened; PairSums at any input. Conditions: it reads as data.
-/
import Derived.Test.YtnabckcdffpimaaSums
import Derived.ProofKit
import Derived.OpenShut
import Derived.Deep.Slices
namespace Go.Proofs.Ytnabckcdffpimaa
open Go.RowKit Go.ChangeShapes Go.WideShapes Go.Deep

theorem Try.cells25 : Try.prog.cellsOf 25 = 2 := by kernel_rfl
theorem Try.cells2 : Try.prog.cellsOf 2 = 1 := by kernel_rfl

theorem open_num {H : Type} {enc : TypeId × Value → H} {w : World} {base : Nat} {spare : Nat → Bool} {held : Bool} {n : Nat} {cs : List Value} {y : DataW H × List MemPlace}
    (h : DataW.trod enc Try.prog w base spare held n 25 cs = some y) : ∃ a : PN, cs = [.int .i64 a.1, .int .i64 a.2] := by
  obtain ⟨xs, m, _, _, hl, hlen, hf⟩ := DataW.trod_array Try.underlying25 h
  rw [Try.cells25] at hl
  have h0 := hf 0 (by omega)
  have h1 := hf 1 (by omega)
  rw [Try.cells2] at h0 h1
  match cs, hl, xs, hlen with
  | [c0, c1], _, [y0, y1], _ =>
    simp at h0 h1
    obtain ⟨d, e0, _, _⟩ := DataW.trod_int Try.underlying2 h0
    obtain ⟨x, e1, _, _⟩ := DataW.trod_int Try.underlying2 h1
    simp at e0 e1
    subst e0 e1
    exact ⟨(d, x), rfl⟩

theorem open_nums {H : Type} {enc : TypeId × Value → H} {w : World} {base : Nat} {spare : Nat → Bool} {held : Bool} {fuel : Nat} {a0 : Option Addr} {len cap : Nat} {x : DataW H × List MemPlace}
    (h : DataW.trod enc Try.prog w base spare held fuel 22 [.slice a0 len cap] = some x) :
    ∃ l : List PN, Rd w 2 a0 len cap (numCells l) := by
  rcases open_slice Try.underlying22 h with ⟨hcs, _⟩ | ⟨a, l, c, m, n, D, Pl, hcs, _, hl, hm, hmm, _, hel⟩
  · simp at hcs
    obtain ⟨rfl, rfl, rfl⟩ := hcs
    exact ⟨[], Rd.nil_ _ _⟩
  · simp at hcs
    obtain ⟨rfl, rfl, rfl⟩ := hcs
    have hlm : len ≤ m := by rw [hmm]; split <;> omega
    obtain ⟨f, hf⟩ := choose_lt (n := len) (p := fun i (q : PN) => w.cell? (a.add (i * 2)) = some (.int .i64 q.1) ∧ w.cell? (a.add (i * 2 + 1)) = some (.int .i64 q.2)) (fun i hi => by
      obtain ⟨cs', h1, h2⟩ := hel i (by omega)
      rw [Try.cells25] at h1
      obtain ⟨q, rfl⟩ := open_num h2
      obtain ⟨_, _, hc⟩ := World.cells?_some h1
      refine ⟨q, ?_, ?_⟩
      · have := hc 0 (by omega)
        simpa [Go.Deep.add_add] using this
      · have := hc 1 (by omega)
        simpa [Go.Deep.add_add] using this)
    have hlen : ((List.range len).map f).length = len := by simp
    refine ⟨(List.range len).map f, ⟨by rw [num_len, hlen], hl, hm, (fun e => by cases e), fun ad e j u hj => ?_⟩⟩
    injection e with e
    subst e
    have hjl : j < len * 2 := by
      have := (List.getElem?_eq_some_iff.1 hj).1
      rwa [num_len, hlen] at this
    have hget : ((List.range len).map f)[j / 2]? = some (f (j / 2)) := by
      simp [show j / 2 < len by omega]
    obtain ⟨h0, h1⟩ := num_at ((List.range len).map f) (j / 2) _ hget
    obtain ⟨g0, g1⟩ := hf (j / 2) (by omega)
    by_cases he : j % 2 = 0
    · have e : j = j / 2 * 2 := by omega
      rw [e] at hj ⊢
      rw [hj] at h0
      injection h0 with h0
      rw [h0]
      exact g0
    · have e : j = j / 2 * 2 + 1 := by omega
      rw [e] at hj ⊢
      rw [hj] at h1
      injection h1 with h1
      rw [h1]
      exact g1

theorem sums_any (S : Option Addr) (n sc : Nat) (l : List PN) (w : World) (hs : Rd w 2 S n sc (numCells l)) :
    Calls Try.prog 3 #[.slice S n sc] w fun e w' => e = .returned (.bool true) ∧ Below w.heap.size w w' := by
  by_cases hn : n ≤ 50
  · exact sums_short S n sc l w hs hn
  · obtain ⟨k, rfl⟩ : ∃ k, n = k + 51 := ⟨n - 51, by omega⟩
    have hlt : (50 : Int) < (k : Int) + 51 := by omega
    clear hs hn
    go_enter Try.func3, Try.ntmps3
    go_wp2_with fail
    refine (awake_any _).mono ?_
    rintro e w1 ⟨rfl, rfl⟩
    go_wp2_with fail
    go_ret
    exact ⟨rfl, Below.refl _ _⟩
end Go.Proofs.Ytnabckcdffpimaa
