/-
  A spin as a list of pairs (what is in hand, the weight): a turn of it, step by step; who is down is not chosen; one alone; fairness. Conditions: none; nothing here speaks of the program.
-/
import Derived.Test.YtnabckcdffpimaaPair3
namespace Go.Proofs.Ytnabckcdffpimaa

/-- One endpoint in a turn. -/
def upd (D : List Int) (i : Nat) (p : PN) : PN := if D.contains (i : Int) = true then p else (p.1 + p.2, p.2)
theorem upd_down {D : List Int} {i : Nat} (p : PN) (h : D.contains (i : Int) = true) : upd D i p = p := by unfold upd; rw [if_pos h]
theorem upd_up {D : List Int} {i : Nat} (p : PN) (h : D.contains (i : Int) = false) : upd D i p = (p.1 + p.2, p.2) := by unfold upd; rw [if_neg (by rw [h]; simp)]
theorem upd_snd (D : List Int) (i : Nat) (p : PN) : (upd D i p).2 = p.2 := by unfold upd; split <;> rfl

/-- The list while the first k have had their turn. -/
def mixed (D : List Int) (l : List PN) (k : Nat) : List PN := l.mapIdx fun i p => if i < k then upd D i p else p
theorem mixed_len (D : List Int) (l : List PN) (k : Nat) : (mixed D l k).length = l.length := by simp [mixed]
theorem mixed_zero (D : List Int) (l : List PN) : mixed D l 0 = l := by
  refine List.ext_getElem (by simp [mixed]) fun i h1 h2 => ?_
  simp [mixed]
theorem mixed_at (D : List Int) (l : List PN) (k i : Nat) (hi : i < l.length) : (mixed D l k).getD i (0, 0) = if i < k then upd D i (l.getD i (0, 0)) else l.getD i (0, 0) := by
  simp [mixed, List.getD, hi]
theorem mixed_succ (D : List Int) (l : List PN) (k : Nat) (hk : k < l.length) : mixed D l (k + 1) = (mixed D l k).set k (upd D k (l.getD k (0, 0))) := by
  refine List.ext_getElem (by simp [mixed]) fun i h1 h2 => ?_
  have hi : i < l.length := by simpa [mixed] using h1
  rw [List.getElem_set]
  simp only [mixed, List.getElem_mapIdx]
  by_cases hik : k = i
  · subst hik
    rw [if_pos rfl, if_pos (Nat.lt_succ_self _)]
    simp [List.getD, hk]
  · rw [if_neg hik]
    by_cases h : i < k
    · rw [if_pos (by omega), if_pos h]
    · rw [if_neg (by omega), if_neg h]
theorem mixed_skip (D : List Int) (l : List PN) (k : Nat) (hk : k < l.length) (h : D.contains (k : Int) = true) : mixed D l (k + 1) = mixed D l k := by
  rw [mixed_succ D l k hk, upd_down _ h]
  refine List.ext_getElem (by simp) fun i h1 h2 => ?_
  rw [List.getElem_set]
  by_cases hik : k = i
  · subst hik
    rw [if_pos rfl]
    simp [mixed, List.getD, hk]
  · rw [if_neg hik]

def sumTo (D : List Int) (l : List PN) : Nat → Int
  | 0 => 0
  | k + 1 => if D.contains (k : Int) = true then sumTo D l k else sumTo D l k + (l.getD k (0, 0)).2
def bestTo (D : List Int) (l : List PN) : Nat → Int
  | 0 => -1
  | k + 1 => if D.contains (k : Int) = true then bestTo D l k
    else if bestTo D l k < 0 then (k : Int)
    else if (upd D (bestTo D l k).toNat (l.getD (bestTo D l k).toNat (0, 0))).1 < (l.getD k (0, 0)).1 + (l.getD k (0, 0)).2 then (k : Int) else bestTo D l k

theorem sumTo_down {D : List Int} {l : List PN} {k : Nat} (h : D.contains (k : Int) = true) : sumTo D l (k + 1) = sumTo D l k := by rw [sumTo, if_pos h]
theorem sumTo_up {D : List Int} {l : List PN} {k : Nat} (h : D.contains (k : Int) = false) : sumTo D l (k + 1) = sumTo D l k + (l.getD k (0, 0)).2 := by rw [sumTo, if_neg (by rw [h]; simp)]
theorem bestTo_down {D : List Int} {l : List PN} {k : Nat} (h : D.contains (k : Int) = true) : bestTo D l (k + 1) = bestTo D l k := by rw [bestTo, if_pos h]
theorem bestTo_first {D : List Int} {l : List PN} {k : Nat} (h : D.contains (k : Int) = false) (hb : bestTo D l k < 0) : bestTo D l (k + 1) = (k : Int) := by
  rw [bestTo, if_neg (by rw [h]; simp), if_pos hb]
theorem bestTo_more {D : List Int} {l : List PN} {k b : Nat} (h : D.contains (k : Int) = false) (hb : bestTo D l k = (b : Int)) (hm : (upd D b (l.getD b (0, 0))).1 < (l.getD k (0, 0)).1 + (l.getD k (0, 0)).2) : bestTo D l (k + 1) = (k : Int) := by
  rw [bestTo, if_neg (by rw [h]; simp), hb, if_neg (by omega), Int.toNat_natCast, if_pos hm]
theorem bestTo_less {D : List Int} {l : List PN} {k b : Nat} (h : D.contains (k : Int) = false) (hb : bestTo D l k = (b : Int)) (hm : ¬ (upd D b (l.getD b (0, 0))).1 < (l.getD k (0, 0)).1 + (l.getD k (0, 0)).2) : bestTo D l (k + 1) = (b : Int) := by
  rw [bestTo, if_neg (by rw [h]; simp), hb, if_neg (by omega), Int.toNat_natCast, if_neg hm]

/-- None, or one that is up and has most. -/
theorem bestTo_spec (D : List Int) (l : List PN) : ∀ k, (bestTo D l k = -1 ∧ ∀ j, j < k → D.contains (j : Int) = true) ∨
    ∃ b : Nat, bestTo D l k = (b : Int) ∧ b < k ∧ D.contains (b : Int) = false ∧ ∀ j, j < k → D.contains (j : Int) = false → (upd D j (l.getD j (0, 0))).1 ≤ (upd D b (l.getD b (0, 0))).1
  | 0 => .inl ⟨rfl, by omega⟩
  | k + 1 => by
    cases hd : D.contains (k : Int) with
    | true =>
      rcases bestTo_spec D l k with ⟨h1, h2⟩ | ⟨b, h1, h2, h3, h4⟩
      · refine .inl ⟨by rw [bestTo_down hd, h1], fun j hj => ?_⟩
        by_cases e : j = k
        · rw [e]; exact hd
        · exact h2 j (by omega)
      · refine .inr ⟨b, by rw [bestTo_down hd, h1], by omega, h3, fun j hj hjd => ?_⟩
        by_cases e : j = k
        · rw [e, hd] at hjd; cases hjd
        · exact h4 j (by omega) hjd
    | false =>
      rcases bestTo_spec D l k with ⟨h1, h2⟩ | ⟨b, h1, h2, h3, h4⟩
      · refine .inr ⟨k, bestTo_first hd (by omega), by omega, hd, fun j hj hjd => ?_⟩
        by_cases e : j = k
        · rw [e]; exact Int.le_refl _
        · rw [h2 j (by omega)] at hjd; cases hjd
      · have hu := upd_up (l.getD k (0, 0)) hd
        by_cases hm : (upd D b (l.getD b (0, 0))).1 < (l.getD k (0, 0)).1 + (l.getD k (0, 0)).2
        · refine .inr ⟨k, bestTo_more hd h1 hm, by omega, hd, fun j hj hjd => ?_⟩
          by_cases e : j = k
          · rw [e]; exact Int.le_refl _
          · have := h4 j (by omega) hjd
            rw [hu]
            simp only
            omega
        · refine .inr ⟨b, bestTo_less hd h1 hm, by omega, h3, fun j hj hjd => ?_⟩
          by_cases e : j = k
          · rw [e, hu]
            simp only
            omega
          · exact h4 j (by omega) hjd

/-- What stands behind a turn in which b was chosen. -/
def after (D : List Int) (l : List PN) (b : Nat) : List PN :=
  (mixed D l l.length).set b (((mixed D l l.length).getD b (0, 0)).1 - sumTo D l l.length, ((mixed D l l.length).getD b (0, 0)).2)
theorem after_len (D : List Int) (l : List PN) (b : Nat) : (after D l b).length = l.length := by simp [after, mixed_len]
theorem after_at (D : List Int) (l : List PN) (b i : Nat) (hi : i < l.length) : (after D l b).getD i (0, 0) =
    if b = i then ((upd D i (l.getD i (0, 0))).1 - sumTo D l l.length, (l.getD i (0, 0)).2) else upd D i (l.getD i (0, 0)) := by
  have hm : i < (mixed D l l.length).length := by rw [mixed_len]; exact hi
  have h := mixed_at D l l.length i hi
  rw [if_pos hi] at h
  unfold after
  by_cases hb : b = i
  · subst hb
    rw [if_pos rfl, h]
    simp only [List.getD]
    rw [List.getElem?_set_self hm, Option.getD_some, upd_snd]
  · rw [if_neg hb, ← h]
    simp only [List.getD]
    rw [List.getElem?_set_ne hb]

/-- A spin's numbers: few, of weights from 1 to 100, and no more than H in hand. -/
structure SP (l : List PN) (H : Nat) : Prop where
  len : l.length ≤ 8
  hand : ∀ i, i < l.length → (l.getD i (0, 0)).1.natAbs ≤ H
  weight : ∀ i, i < l.length → 1 ≤ (l.getD i (0, 0)).2 ∧ (l.getD i (0, 0)).2 ≤ 100
theorem SP.nil (H : Nat) : SP [] H := ⟨by simp, fun i h => by simp at h, fun i h => by simp at h⟩
theorem SP.mono {l : List PN} {H H' : Nat} (h : SP l H) (hh : H ≤ H') : SP l H' := ⟨h.len, fun i hi => Nat.le_trans (h.hand i hi) hh, h.weight⟩
theorem SP.sum {l : List PN} {H : Nat} (h : SP l H) (D : List Int) : ∀ k, k ≤ l.length → 0 ≤ sumTo D l k ∧ sumTo D l k ≤ 100 * k
  | 0, _ => by simp [sumTo]
  | k + 1, hk => by
    have := h.sum D k (by omega)
    have hw := h.weight k (by omega)
    cases hd : D.contains (k : Int) with
    | true => rw [sumTo_down hd]; omega
    | false => rw [sumTo_up hd]; omega
theorem SP.upd {l : List PN} {H : Nat} (h : SP l H) (D : List Int) (i : Nat) (hi : i < l.length) : (upd D i (l.getD i (0, 0))).1.natAbs ≤ H + 100 := by
  have h1 := h.hand i hi
  have h2 := h.weight i hi
  unfold Go.Proofs.Ytnabckcdffpimaa.upd
  split
  · omega
  · simp only; omega
theorem SP.after {l : List PN} {H : Nat} (h : SP l H) (D : List Int) (b : Nat) : SP (after D l b) (H + 900) := by
  have hs := h.sum D l.length (Nat.le_refl _)
  have hl := h.len
  refine ⟨by rw [after_len]; exact hl, fun i hi => ?_, fun i hi => ?_⟩
  · rw [after_len] at hi
    have := h.upd D i hi
    rw [after_at D l b i hi]
    split
    · simp only; omega
    · omega
  · rw [after_len] at hi
    have := h.weight i hi
    rw [after_at D l b i hi]
    split
    · exact this
    · rw [upd_snd]; exact this
theorem SP.ok {l : List PN} {H : Nat} (h : SP l H) (hH : H ≤ 1000000000) : ∀ p ∈ l, okP p := by
  intro p hp
  obtain ⟨i, hi, rfl⟩ := List.getElem_of_mem hp
  have h1 := h.hand i hi
  have h2 := h.weight i hi
  simp only [List.getD, hi, List.getElem?_eq_getElem, Option.getD_some] at h1 h2
  exact ⟨by omega, by omega⟩
end Go.Proofs.Ytnabckcdffpimaa
