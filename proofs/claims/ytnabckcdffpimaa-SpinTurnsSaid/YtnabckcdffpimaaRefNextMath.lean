/-
  The document's spin while its Next runs. Conditions: none; nothing here speaks of the program.
-/
import Derived.Test.YtnabckcdffpimaaRefNew
namespace Go.Proofs.Ytnabckcdffpimaa
open Go.RowKit

/-- What the first k have in hand behind a turn; their weights. -/
def hsTo (D : List Int) (l : List PN) : Nat → List Int
  | 0 => []
  | k + 1 => hsTo D l k ++ [(upd D k (l.getD k (0, 0))).1]
def wsTo (l : List PN) : Nat → List Int
  | 0 => []
  | k + 1 => wsTo l k ++ [(l.getD k (0, 0)).2]
theorem hsTo_len (D : List Int) (l : List PN) : ∀ k, (hsTo D l k).length = k
  | 0 => rfl
  | k + 1 => by rw [hsTo, List.length_append, hsTo_len D l k]; rfl
theorem wsTo_len (l : List PN) : ∀ k, (wsTo l k).length = k
  | 0 => rfl
  | k + 1 => by rw [wsTo, List.length_append, wsTo_len l k]; rfl
theorem hsTo_at (D : List Int) (l : List PN) : ∀ k i, i < k → (hsTo D l k).getD i 0 = (upd D i (l.getD i (0, 0))).1
  | 0, _, h => by omega
  | k + 1, i, h => by
    have hl := hsTo_len D l k
    by_cases e : i = k
    · subst e
      simp only [hsTo, List.getD]
      rw [List.getElem?_append_right (by omega), hl, Nat.sub_self]
      rfl
    · have ih := hsTo_at D l k i (by omega)
      simp only [List.getD] at ih ⊢
      rw [hsTo, List.getElem?_append_left (by omega)]
      exact ih
theorem wsTo_at (l : List PN) : ∀ k i, i < k → (wsTo l k).getD i 0 = (l.getD i (0, 0)).2
  | 0, _, h => by omega
  | k + 1, i, h => by
    have hl := wsTo_len l k
    by_cases e : i = k
    · subst e
      simp only [wsTo, List.getD]
      rw [List.getElem?_append_right (by omega), hl, Nat.sub_self]
      rfl
    · have ih := wsTo_at l k i (by omega)
      simp only [List.getD] at ih ⊢
      rw [wsTo, List.getElem?_append_left (by omega)]
      exact ih

theorem getD_ext {xs ys : List Int} (hl : xs.length = ys.length) (h : ∀ i, i < xs.length → xs.getD i 0 = ys.getD i 0) : xs = ys := by
  refine List.ext_getElem hl fun i h1 h2 => ?_
  have := h i h1
  simpa [List.getD, h1, h2] using this
theorem map_fst_at (l : List PN) (i : Nat) : (l.map Prod.fst).getD i 0 = (l.getD i (0, 0)).1 := by
  by_cases h : i < l.length <;> simp [List.getD, h]
theorem map_snd_at (l : List PN) (i : Nat) : (l.map Prod.snd).getD i 0 = (l.getD i (0, 0)).2 := by
  by_cases h : i < l.length <;> simp [List.getD, h]

theorem after_fst (D : List Int) (l : List PN) (b : Nat) (hb : b < l.length) : (after D l b).map Prod.fst = (hsTo D l l.length).set b ((upd D b (l.getD b (0, 0))).1 - sumTo D l l.length) := by
  refine getD_ext (by simp [after_len, hsTo_len]) fun i hi => ?_
  have hi' : i < l.length := by simpa [after_len] using hi
  rw [map_fst_at, after_at D l b i hi']
  by_cases e : b = i
  · subst e
    rw [if_pos rfl]
    simp [List.getD, hsTo_len, hb]
  · rw [if_neg e]
    have := hsTo_at D l l.length i hi'
    simp only [List.getD] at this ⊢
    rw [List.getElem?_set_ne e, this]
theorem after_snd (D : List Int) (l : List PN) (b : Nat) : (after D l b).map Prod.snd = wsTo l l.length := by
  refine getD_ext (by simp [after_len, wsTo_len]) fun i hi => ?_
  have hi' : i < l.length := by simpa [after_len] using hi
  rw [map_snd_at, after_at D l b i hi', wsTo_at l l.length i hi']
  split
  · rfl
  · rw [upd_snd]
end Go.Proofs.Ytnabckcdffpimaa
