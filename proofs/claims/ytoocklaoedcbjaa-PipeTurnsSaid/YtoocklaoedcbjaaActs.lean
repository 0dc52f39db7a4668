/-
  The turns of a pipe's script: their cells; a slice of turns that came in, opened. Conditions: it reads as data.
-/
import Derived.Test.YtoocklaoedcbjaaIs
import Derived.ProofKit
import Derived.Deep.Slices
namespace Go.Proofs.Ytoocklaoedcbjaa
open Go.RowKit Go.ChangeShapes Go.WideShapes Go.Deep

/-- A turn: what to do, to whom, the text, which. -/
abbrev ActT := Int × Int × ByteArray × Int
abbrev actCells (l : List ActT) : List Value := l.flatMap fun a => [Value.int .u8 a.1, Value.int .u64 a.2.1, Value.string a.2.2.1, Value.int .i64 a.2.2.2]
theorem acts_len (l : List ActT) : (actCells l).length = l.length * 4 := by
  induction l with
  | nil => rfl
  | cons a l ih => simp [actCells, List.flatMap_cons] at ih ⊢
                   omega
theorem acts_at (l : List ActT) (k : Nat) (a : ActT) (hk : l[k]? = some a) : (actCells l)[k * 4]? = some (.int .u8 a.1) ∧ (actCells l)[k * 4 + 1]? = some (.int .u64 a.2.1) ∧ (actCells l)[k * 4 + 2]? = some (.string a.2.2.1) ∧ (actCells l)[k * 4 + 3]? = some (.int .i64 a.2.2.2) := by
  induction l generalizing k with
  | nil => simp at hk
  | cons b l ih =>
    cases k with
    | zero => simp at hk; subst hk; simp [actCells, List.flatMap_cons]
    | succ k =>
      have h := ih k (by simpa using hk)
      rw [show (k + 1) * 4 = (k * 4 + 1) + 1 + 1 + 1 by omega]
      simpa [actCells, List.flatMap_cons] using h
theorem Rd.acts {w : World} {n c : Nat} {l : List ActT} {b o : Nat} {sp : Option Nat} (h : Rd w 4 (some ⟨b, o, sp⟩) n c (actCells l)) (k : Nat) (a : ActT) (hk : l[k]? = some a) :
    sp = none ∧ w.cell? ⟨b, o + k * 4, none⟩ = some (.int .u8 a.1) ∧ w.cell? ⟨b, o + k * 4 + 1, none⟩ = some (.int .u64 a.2.1) ∧ w.cell? ⟨b, o + k * 4 + 2, none⟩ = some (.string a.2.2.1) ∧ w.cell? ⟨b, o + k * 4 + 3, none⟩ = some (.int .i64 a.2.2.2) := by
  have hsp : sp = none := h.spot (fun e => by
    have h1 := acts_len l
    rw [e] at h1
    have := (List.getElem?_eq_some_iff.1 hk).1
    simp at h1
    omega)
  subst hsp
  obtain ⟨g0, g1, g2, g3⟩ := acts_at l k a hk
  have h0 := h.cell _ rfl _ _ g0
  have h1 := h.cell _ rfl _ _ g1
  have h2 := h.cell _ rfl _ _ g2
  have h3 := h.cell _ rfl _ _ g3
  rw [Addr.add_lit] at h0 h1 h2 h3
  exact ⟨rfl, h0, h1, h2, h3⟩

theorem cell_far {w : World} {p q : Addr} {v : Value} (h : w.cell? q = some v) (hp : p.block ≠ q.block) (u : Value) : (w.setCell p u).cell? q = some v := by
  rw [World.cell?_setCell_other w p q u (fun e => hp (by rw [e]))]
  exact h

theorem Try.cells37 : Try.prog.cellsOf 37 = 4 := by kernel_rfl
theorem Try.cells5 : Try.prog.cellsOf 5 = 1 := by kernel_rfl
theorem Try.cells28 : Try.prog.cellsOf 28 = 1 := by kernel_rfl
theorem Try.cells9 : Try.prog.cellsOf 9 = 1 := by kernel_rfl
theorem Try.cells3 : Try.prog.cellsOf 3 = 1 := by kernel_rfl

theorem trod_four {H : Type} {enc : TypeId × Value → H} {P : Program} {w : World} {base : Nat} {spare : Nat → Bool} {held : Bool} {t : TypeId} {f0 f1 f2 f3 : Field} {fuel : Nat} {cs : List Value} {x : DataW H × List MemPlace} (ht : P.underlying t = some (.struct #[f0, f1, f2, f3])) (h : DataW.trod enc P w base spare held fuel t cs = some x) :
    ∃ n, cs.length = P.cellsOf t ∧ (∃ y0, DataW.trod enc P w base spare held n f0.type ((cs.drop f0.offset).take (P.cellsOf f0.type)) = some y0) ∧
      (∃ y1, DataW.trod enc P w base spare held n f1.type ((cs.drop f1.offset).take (P.cellsOf f1.type)) = some y1) ∧ (∃ y2, DataW.trod enc P w base spare held n f2.type ((cs.drop f2.offset).take (P.cellsOf f2.type)) = some y2) ∧
      (∃ y3, DataW.trod enc P w base spare held n f3.type ((cs.drop f3.offset).take (P.cellsOf f3.type)) = some y3) := by
  obtain ⟨xs, n, _, rfl, hl, hlen, hf⟩ := DataW.trod_struct ht h
  match xs, hlen with
  | [y0, y1, y2, y3], _ => exact ⟨n, hl, ⟨_, by simpa using hf 0 f0 rfl⟩, ⟨_, by simpa using hf 1 f1 rfl⟩, ⟨_, by simpa using hf 2 f2 rfl⟩, ⟨_, by simpa using hf 3 f3 rfl⟩⟩

theorem open_act {H : Type} {enc : TypeId × Value → H} {w : World} {base : Nat} {spare : Nat → Bool} {held : Bool} {n : Nat} {cs : List Value} {y : DataW H × List MemPlace}
    (h : DataW.trod enc Try.prog w base spare held n 37 cs = some y) : ∃ a : ActT, cs = [.int .u8 a.1, .int .u64 a.2.1, .string a.2.2.1, .int .i64 a.2.2.2] ∧ 0 ≤ a.1 ∧ a.1 ≤ 255 := by
  obtain ⟨m, hl, ⟨_, h0⟩, ⟨_, h1⟩, ⟨_, h2⟩, ⟨_, h3⟩⟩ := trod_four Try.underlying37 h
  · rw [Try.cells37] at hl
    rw [Try.cells5] at h0
    rw [Try.cells28] at h1
    rw [Try.cells9] at h2
    rw [Try.cells3] at h3
    match cs, hl with
    | [c0, c1, c2, c3], _ =>
      obtain ⟨d, e0, _, hw⟩ := DataW.trod_int Try.underlying5 h0
      obtain ⟨x, e1, _, _⟩ := DataW.trod_int Try.underlying28 h1
      obtain ⟨s, e2, _, _⟩ := DataW.trod_string Try.underlying9 h2
      obtain ⟨i, e3, _, _⟩ := DataW.trod_int Try.underlying3 h3
      simp at e0 e1 e2 e3
      subst e0 e1 e2 e3
      have hx : 0 ≤ d ∧ d ≤ 255 := by simpa [Lit.wf, IntKind.min, IntKind.max, IntKind.signed, IntKind.bits] using hw
      exact ⟨(d, x, s, i), rfl, hx.1, hx.2⟩

theorem open_acts {H : Type} {enc : TypeId × Value → H} {w : World} {base : Nat} {spare : Nat → Bool} {held : Bool} {fuel : Nat} {a0 : Option Addr} {len cap : Nat} {x : DataW H × List MemPlace}
    (h : DataW.trod enc Try.prog w base spare held fuel 34 [.slice a0 len cap] = some x) :
    ∃ acts : List ActT, Rd w 4 a0 len cap (actCells acts) ∧ ∀ (k : Nat) (a : ActT), acts[k]? = some a → 0 ≤ a.1 ∧ a.1 ≤ 255 := by
  rcases open_slice Try.underlying34 h with ⟨hcs, _⟩ | ⟨a, l, c, m, n, D, Pl, hcs, _, hl, hm, hmm, _, hel⟩
  · simp at hcs
    obtain ⟨rfl, rfl, rfl⟩ := hcs
    exact ⟨[], Rd.nil_ _ _, fun k a h => by simp at h⟩
  · simp at hcs
    obtain ⟨rfl, rfl, rfl⟩ := hcs
    have hlm : len ≤ m := by rw [hmm]; split <;> omega
    obtain ⟨f, hf⟩ := choose_lt (n := len) (p := fun i (q : ActT) => w.cell? (a.add (i * 4)) = some (.int .u8 q.1) ∧ w.cell? (a.add (i * 4 + 1)) = some (.int .u64 q.2.1) ∧ w.cell? (a.add (i * 4 + 2)) = some (.string q.2.2.1) ∧ w.cell? (a.add (i * 4 + 3)) = some (.int .i64 q.2.2.2) ∧ 0 ≤ q.1 ∧ q.1 ≤ 255) (fun i hi => by
      obtain ⟨cs', h1, h2⟩ := hel i (by omega)
      rw [Try.cells37] at h1
      obtain ⟨q, rfl, hq0, hq1⟩ := open_act h2
      obtain ⟨_, _, hc⟩ := World.cells?_some h1
      refine ⟨q, ?_, ?_, ?_, ?_, hq0, hq1⟩
      · have := hc 0 (by omega)
        simpa [Go.Deep.add_add] using this
      · have := hc 1 (by omega)
        simpa [Go.Deep.add_add] using this
      · have := hc 2 (by omega)
        simpa [Go.Deep.add_add] using this
      · have := hc 3 (by omega)
        simpa [Go.Deep.add_add] using this)
    have hlen : ((List.range len).map f).length = len := by simp
    refine ⟨(List.range len).map f, ⟨by rw [acts_len, hlen], hl, hm, (fun e => by cases e), fun ad e j u hj => ?_⟩, fun k b hb => ?_⟩
    · injection e with e
      subst e
      have hjl : j < len * 4 := by
        have := (List.getElem?_eq_some_iff.1 hj).1
        rwa [acts_len, hlen] at this
      have hget : ((List.range len).map f)[j / 4]? = some (f (j / 4)) := by
        simp [show j / 4 < len by omega]
      obtain ⟨h0, h1, h2, h3⟩ := acts_at ((List.range len).map f) (j / 4) _ hget
      obtain ⟨g0, g1, g2, g3, _⟩ := hf (j / 4) (by omega)
      have hcase : j = j / 4 * 4 ∨ j = j / 4 * 4 + 1 ∨ j = j / 4 * 4 + 2 ∨ j = j / 4 * 4 + 3 := by omega
      rcases hcase with e | e | e | e <;> rw [e] at hj ⊢
      · rw [hj] at h0
        injection h0 with h0
        rw [h0]
        exact g0
      · rw [hj] at h1
        injection h1 with h1
        rw [h1]
        exact g1
      · rw [hj] at h2
        injection h2 with h2
        rw [h2]
        exact g2
      · rw [hj] at h3
        injection h3 with h3
        rw [h3]
        exact g3
    · have hk : k < len := by have := (List.getElem?_eq_some_iff.1 hb).1; rwa [hlen] at this
      have hget : ((List.range len).map f)[k]? = some (f k) := by simp [hk]
      rw [hget] at hb
      injection hb with hb
      rw [← hb]
      exact (hf k hk).2.2.2.2
end Go.Proofs.Ytoocklaoedcbjaa
