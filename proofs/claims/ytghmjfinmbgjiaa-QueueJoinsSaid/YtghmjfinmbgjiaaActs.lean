/-
  A slice of turns that came in, opened: what its cells hold. Conditions: it reads as data.
-/
import Derived.Test.YtghmjfinmbgjiaaOf
import Derived.ProofKit
import Derived.Deep.Slices
namespace Go.Proofs.Ytghmjfinmbgjiaa
open Go.RowKit Go.ChangeShapes Go.WideShapes Go.Deep

theorem Try.cells55 : Try.prog.cellsOf 55 = 2 := by kernel_rfl
theorem Try.cells5 : Try.prog.cellsOf 5 = 1 := by kernel_rfl
theorem Try.cells29 : Try.prog.cellsOf 29 = 1 := by kernel_rfl

theorem open_act {H : Type} {enc : TypeId × Value → H} {w : World} {base : Nat} {spare : Nat → Bool} {held : Bool} {n : Nat} {cs : List Value} {y : DataW H × List MemPlace}
    (h : DataW.trod enc Try.prog w base spare held n 55 cs = some y) : ∃ a : Int × Int, cs = [.int .u8 a.1, .int .u64 a.2] ∧ 0 ≤ a.1 ∧ a.1 ≤ 255 := by
  obtain ⟨y0, y1, m, rfl, hl, h0, h1⟩ := trod_struct2 Try.underlying55 h
  rw [Try.cells55] at hl
  rw [Try.cells5] at h0
  rw [Try.cells29] at h1
  match cs, hl with
  | [c0, c1], _ =>
    obtain ⟨d, e0, _, hw⟩ := DataW.trod_int Try.underlying5 h0
    obtain ⟨x, e1, _, _⟩ := DataW.trod_int Try.underlying29 h1
    simp at e0 e1
    subst e0 e1
    have hx : 0 ≤ d ∧ d ≤ 255 := by simpa [Lit.wf, IntKind.min, IntKind.max, IntKind.signed, IntKind.bits] using hw
    exact ⟨(d, x), rfl, hx.1, hx.2⟩

theorem open_acts {H : Type} {enc : TypeId × Value → H} {w : World} {base : Nat} {spare : Nat → Bool} {held : Bool} {fuel : Nat} {a0 : Option Addr} {len cap : Nat} {x : DataW H × List MemPlace}
    (h : DataW.trod enc Try.prog w base spare held fuel 36 [.slice a0 len cap] = some x) :
    ∃ acts : List (Int × Int), Rd w 2 a0 len cap (actCells acts) ∧ ∀ k, 0 ≤ (acts.getD k (0, 0)).1 ∧ (acts.getD k (0, 0)).1 ≤ 255 := by
  rcases open_slice Try.underlying36 h with ⟨hcs, _⟩ | ⟨a, l, c, m, n, D, Pl, hcs, _, hl, hm, hmm, _, hel⟩
  · simp at hcs
    obtain ⟨rfl, rfl, rfl⟩ := hcs
    exact ⟨[], Rd.nil_ _ _, fun k => by simp⟩
  · simp at hcs
    obtain ⟨rfl, rfl, rfl⟩ := hcs
    have hlm : len ≤ m := by rw [hmm]; split <;> omega
    obtain ⟨f, hf⟩ := choose_lt (n := len) (p := fun i (q : Int × Int) => w.cell? (a.add (i * 2)) = some (.int .u8 q.1) ∧ w.cell? (a.add (i * 2 + 1)) = some (.int .u64 q.2) ∧ 0 ≤ q.1 ∧ q.1 ≤ 255) (fun i hi => by
      obtain ⟨cs', h1, h2⟩ := hel i (by omega)
      rw [Try.cells55] at h1
      obtain ⟨q, rfl, hq0, hq1⟩ := open_act h2
      obtain ⟨_, _, hc⟩ := World.cells?_some h1
      refine ⟨q, ?_, ?_, hq0, hq1⟩
      · have := hc 0 (by omega)
        simpa [Go.Deep.add_add] using this
      · have := hc 1 (by omega)
        simpa [Go.Deep.add_add] using this)
    have hlen : ((List.range len).map f).length = len := by simp
    refine ⟨(List.range len).map f, ⟨by rw [actCells_len, hlen], hl, hm, (fun e => by cases e), fun ad e j u hj => ?_⟩, fun k => ?_⟩
    · injection e with e
      subst e
      have hjl : j < len * 2 := by
        have := (List.getElem?_eq_some_iff.1 hj).1
        rwa [actCells_len, hlen] at this
      have hk : j / 2 < ((List.range len).map f).length := by rw [hlen]; omega
      have hget : ((List.range len).map f).getD (j / 2) (0, 0) = f (j / 2) := by
        simp [List.getD, show j / 2 < len by omega]
      obtain ⟨h0, h1⟩ := actCells_at ((List.range len).map f) (j / 2) hk
      obtain ⟨g0, g1, _⟩ := hf (j / 2) (by omega)
      rw [hget] at h0 h1
      by_cases he : j % 2 = 0
      · have e : j = j / 2 * 2 := by omega
        rw [e] at hj ⊢
        rw [hj] at h0
        injection h0 with h0
        rw [h0]
        exact g0
      · have e : j = j / 2 * 2 + 1 := by omega
        rw [e] at hj ⊢
        rw [hj] at h1
        injection h1 with h1
        rw [h1]
        exact g1
    · by_cases hk : k < len
      · have hget : ((List.range len).map f).getD k (0, 0) = f k := by simp [List.getD, hk]
        rw [hget]
        exact (hf k hk).2.2
      · have hget : ((List.range len).map f).getD k (0, 0) = (0, 0) := by simp [List.getD, hk]
        rw [hget]
        simp
end Go.Proofs.Ytghmjfinmbgjiaa
