/-
  The library's Split and Contains over lists of bytes. Conditions: the text is short; the variable MaxLen holds a number.
-/
import Derived.Test.YtdjpcdimcjjemaaDoorCovers
import Derived.Test.YtdjpcdimcjjemaaDoorShelfD
namespace Go.Proofs.YtdjpcdimcjjemaaDoor
open Go.RowKit

theorem index_none {b : UInt8} : ∀ {l : Bs}, b ∉ l → Lib.index l [b] = -1
  | [], _ => by simp [Lib.index]
  | c :: r, h => by
    have h1 : ¬ b = c := fun e => h (by simp [e])
    have h2 := index_none (b := b) (l := r) (fun e => h (List.mem_cons_of_mem _ e))
    simp [Lib.index, List.isPrefixOf, h1, h2]
theorem index_first {b : UInt8} (y : Bs) : ∀ {x : Bs}, b ∉ x → Lib.index (x ++ b :: y) [b] = (x.length : Int)
  | [], _ => by simp [Lib.index, List.isPrefixOf]
  | c :: r, h => by
    have h1 : ¬ b = c := fun e => h (by simp [e])
    have h2 := index_first (b := b) y (x := r) (fun e => h (List.mem_cons_of_mem _ e))
    simp only [List.cons_append, Lib.index, List.isPrefixOf, h2]
    have h3 : ¬ ((r.length : Int) = -1) := by omega
    simp [h1, h3]
theorem split_cut (b : UInt8) : ∀ (n : Nat) (l : Bs), l.length ≤ n → Lib.splitK [b] 0 (l.count b) l = cut b l
  | n, l, hn => by
    by_cases h : b ∈ l
    · obtain ⟨x, y, rfl, hx⟩ := List.eq_append_cons_of_mem h
      have hc : (x ++ b :: y).count b = y.count b + 1 := by
        rw [List.count_append, List.count_cons_self, List.count_eq_zero_of_not_mem hx]
        omega
      have hi := index_first y hx
      have hne : ¬ ((x.length : Int) == -1) = true := by rw [beq_iff_eq]; omega
      cases n with
      | zero => simp at hn
      | succ n =>
        rw [hc, Lib.splitK, hi, if_neg hne, cut_append, cut_none hx]
        simp only [Int.toNat_natCast, Nat.add_zero, List.length_singleton]
        rw [List.take_left' rfl, show x.length + 1 = (x ++ [b]).length by simp, show x ++ b :: y = (x ++ [b]) ++ y by simp, List.drop_left' rfl,
          split_cut b n y (by simp at hn; omega)]
        rfl
    · rw [List.count_eq_zero_of_not_mem h, cut_none h]
      rfl

theorem splitB_cut (l : Bs) (b : UInt8) : Lib.splitB ⟨#[b]⟩ 0 (Lib.countB (tx l) ⟨#[b]⟩) (tx l) = (cut b l).map tx := by
  have h1 := Lib.splitB_data ⟨#[b]⟩ 0 (Lib.countB (tx l) ⟨#[b]⟩) (tx l)
  have h2 : Lib.countB (tx l) ⟨#[b]⟩ = l.count b := by
    show Lib.count (tx l).data.toList [b] = _
    rw [Lib.count_one]
  rw [h2] at h1 ⊢
  rw [show Lib.splitK (⟨#[b]⟩ : ByteArray).data.toList 0 (l.count b) (tx l).data.toList = cut b l from split_cut b _ l (Nat.le_refl _)] at h1
  rw [← h1, List.map_map]
  exact (List.map_id _).symm

/-- The library's Split at one byte. -/
theorem split_any (l : Bs) (b : UInt8) (m : Int) (w : World) (hm : w.cell? ⟨0, 0, none⟩ = some (.int .i64 m)) (hl : l.length ≤ 100000) :
    Calls Tryd.prog 25 #[.string (tx l), .string ⟨#[b]⟩] w fun e w' => e = .returned (.slice (some ⟨w.heap.size, 0, none⟩) (cut b l).length (cut b l).length) ∧ w' = w.alloc (.cells (strs (cut b l)).toArray 9) := by
  refine (Tryd.strings_Split (tx l) ⟨#[b]⟩ m w (by rw [tx_size]; omega) hm (Nat.le_refl 1)).mono ?_
  rintro e w' ⟨rfl, rfl⟩
  have hs := splitB_cut l b
  have hlen := Lib.splitB_all (⟨#[b]⟩ : ByteArray) (Nat.le_refl 1) 0 _ (tx l) rfl
  rw [hs, List.length_map] at hlen
  rw [hs, ← hlen]
  refine ⟨rfl, ?_⟩
  rw [List.map_map]
  rfl

theorem index_two (c : UInt8) : ∀ l : Bs, 0 ≤ Lib.index l [c, c] ↔ ∃ i, i + 1 < l.length ∧ bt l i = c ∧ bt l (i + 1) = c
  | [] => by simp [Lib.index]
  | b :: r => by
    have ih := index_two c r
    have hge := Lib.index_ge r [c, c]
    by_cases hp : List.isPrefixOf [c, c] (b :: r) = true
    · have h0 : Lib.index (b :: r) [c, c] = 0 := by rw [Lib.index, if_pos hp]
      rw [h0]
      refine ⟨fun _ => ?_, fun _ => Int.le_refl _⟩
      rw [List.isPrefixOf_iff_prefix] at hp
      obtain ⟨t, ht⟩ := hp
      refine ⟨0, ?_, ?_, ?_⟩
      · rw [← ht]; simp
      · rw [← ht]; rfl
      · rw [← ht]; rfl
    · have h0 : Lib.index (b :: r) [c, c] = if Lib.index r [c, c] == -1 then -1 else Lib.index r [c, c] + 1 := by rw [Lib.index, if_neg hp]
      rw [h0]
      constructor
      · intro h
        have h1 : 0 ≤ Lib.index r [c, c] := by
          split at h
          · omega
          · rename_i hne
            simp at hne
            omega
        obtain ⟨i, h2, h3, h4⟩ := ih.1 h1
        exact ⟨i + 1, by simp; omega, h3, h4⟩
      · rintro ⟨i, h2, h3, h4⟩
        cases i with
        | zero =>
          exfalso
          apply hp
          cases r with
          | nil => simp at h2
          | cons d t =>
            have e1 : b = c := h3
            have e2 : d = c := h4
            rw [e1, e2]
            simp [List.isPrefixOf]
        | succ i =>
          have h1 := ih.2 ⟨i, by simp at h2; omega, h3, h4⟩
          have hne : ¬ (Lib.index r [c, c] == -1) = true := by rw [beq_iff_eq]; omega
          rw [if_neg hne]
          omega
theorem contains_two (l : Bs) : Lib.contains l [47, 47] = true ↔ ∃ i, i + 1 < l.length ∧ bt l i = 47 ∧ bt l (i + 1) = 47 := by
  unfold Lib.contains
  rw [decide_eq_true_iff]
  exact index_two 47 l
theorem own_split (w : World) (ps : List Bs) (hp : ps.length ≤ 100000) : (w.alloc (.cells (strs ps).toArray 9)).ownsRow w.heap.size 9 1 (.slice (some ⟨w.heap.size, 0, none⟩) ps.length ps.length) ps.length (strs ps) :=
  own_shut (cur := (strs ps).toArray) (Nat.le_refl _) (by show (w.heap.push _)[w.heap.size]? = _; simp) (Nat.le_refl _) (by simp only [maxLen]; omega) (by simp) (by simp [List.take_of_length_le])
end Go.Proofs.YtdjpcdimcjjemaaDoor
