/-
  Contract of Covers. Conditions: none but sizes.
-/
import Derived.Test.YtdjpcdimcjjemaaDoorRefHost
import Derived.Test.YtdjpcdimcjjemaaDoorShelf1
namespace Go.Proofs.YtdjpcdimcjjemaaDoor
open Go.RowKit

/-- What Covers answers of small letters. -/
def cov (p h : Bs) : Bool := p == h || (Lib.hasPrefix p [42, 46] && !(p.drop 2).isEmpty && decide ((p.drop 2).length + 1 < h.length) && Lib.hasSuffix h (46 :: p.drop 2))
theorem cov_spec (p h : Bs) : cov p h = true ↔ covP p h := by
  unfold cov covP
  simp only [Bool.or_eq_true, beq_iff_eq, Bool.and_eq_true, Bool.not_eq_true', decide_eq_true_iff]
  constructor
  · rintro (h1 | ⟨⟨⟨h1, h2⟩, h3⟩, h4⟩)
    · exact .inl h1
    · right
      unfold Lib.hasPrefix at h1
      rw [List.isPrefixOf_iff_prefix] at h1
      obtain ⟨r, hr⟩ := h1
      subst hr
      simp only [List.cons_append, List.nil_append, List.drop_succ_cons, List.drop_zero] at h2 h3 h4 ⊢
      unfold Lib.hasSuffix at h4
      rw [List.isSuffixOf_iff_suffix] at h4
      exact ⟨r, rfl, by intro e; rw [e] at h2; simp at h2, h3, h4⟩
  · rintro (h1 | ⟨r, rfl, h2, h3, h4⟩)
    · exact .inl h1
    · right
      simp only [List.drop_succ_cons, List.drop_zero]
      refine ⟨⟨⟨?_, ?_⟩, h3⟩, ?_⟩
      · unfold Lib.hasPrefix
        rw [List.isPrefixOf_iff_prefix]
        exact ⟨r, rfl⟩
      · cases r with
        | nil => exact absurd rfl h2
        | cons => rfl
      · unfold Lib.hasSuffix
        rw [List.isSuffixOf_iff_suffix]
        exact h4

theorem cutStar (p : Bs) (w : World) : Calls Tryd.prog 32 #[.string (tx p), .string ⟨#[42, 46]⟩] w fun e w' => e = .returned (.tuple #[.string (tx (Lib.trimPrefix p [42, 46])), .bool (Lib.hasPrefix p [42, 46])]) ∧ w = w' :=
  (strings_CutPrefix (tx p) ⟨#[42, 46]⟩ w).mono fun e w' h => ⟨h.1, h.2.symm⟩
theorem hasSuf (h r : Bs) (w : World) (hh : h.length ≤ 9223372036854775807) : Calls Tryd.prog 33 #[.string (tx h), .string (tx r)] w fun e w' => e = .returned (.bool (Lib.hasSuffix h r)) ∧ w = w' :=
  (strings_HasSuffix (tx h) (tx r) w (by rw [tx_size]; omega)).mono fun e w' h => ⟨h.1, h.2.symm⟩

set_option maxHeartbeats 4000000 in
theorem covers_any (p h : Bs) (w : World) (hp : p.length ≤ 9223372036854775807) (hh : h.length ≤ 9223372036854775807) : Calls Tryd.prog 20 #[.string (tx p), .string (tx h)] w fun e w' => e = .returned (.bool (cov (lower p) (lower h))) ∧ Below w.heap.size w w' := by
  go_enter Tryd.func20, Tryd.ntmps20
  go_wp2_with fail
  refine (lower_any p w hp).mono ?_
  rintro e w1 ⟨rfl, hb1⟩
  have HB1 := hide hb1
  clear hb1
  go_wp2_with fail
  refine (lower_any h w1 hh).mono ?_
  rintro e w2 ⟨rfl, hb2⟩
  have HB2 := hide (HB1.out.trans (hb2.mono HB1.out.size))
  clear hb2 HB1
  have hp2 : (lower p).length ≤ 9223372036854775807 := by rw [lower_len]; exact hp
  have hh2 : (lower h).length ≤ 9223372036854775807 := by rw [lower_len]; exact hh
  cases hpq : (lower p == lower h) with
  | true =>
    have hv : cov (lower p) (lower h) = true := by unfold cov; rw [hpq]; rfl
    have Hv := hide hv
    clear hv
    go_wp2_with fail
    go_ret
    exact ⟨ret_bool Hv.out.symm, HB2.out⟩
  | false =>
    have hv : cov (lower p) (lower h) = (Lib.hasPrefix (lower p) [42, 46] && !((lower p).drop 2).isEmpty && decide (((lower p).drop 2).length + 1 < (lower h).length) && Lib.hasSuffix (lower h) (46 :: (lower p).drop 2)) := by unfold cov; rw [hpq]; rfl
    have Hv := hide hv
    clear hv
    go_wp2_with fail
    refine (cutStar (lower p) w2).mono ?_
    rintro e w3 ⟨rfl, rfl⟩
    have htr : Lib.hasPrefix (lower p) [42, 46] = true → Lib.trimPrefix (lower p) [42, 46] = (lower p).drop 2 := fun h => by unfold Lib.trimPrefix; rw [if_pos h]; rfl
    have htl := Lib.trimPrefix_le (lower p) [42, 46]
    generalize Lib.trimPrefix (lower p) [42, 46] = r at *
    cases hpre : Lib.hasPrefix (lower p) [42, 46] with
    | false =>
      rw [hpre] at Hv
      go_wp2_with fail
      go_ret
      exact ⟨ret_bool Hv.out.symm, HB2.out⟩
    | true =>
      rw [hpre, ← htr hpre] at Hv

      have hr2 : r.length + 2 ≤ (lower p).length := by
        have hx := hpre
        unfold Lib.hasPrefix at hx
        rw [List.isPrefixOf_iff_prefix] at hx
        have := hx.length_le
        have e := congrArg List.length (htr hpre)
        simp at e this
        omega
      clear htr
      have hadd := fun w => tx_add [46] r w (by simp; omega)
      go_wp2_with (first
        | (go_at_call 33
           refine (hasSuf (lower h) (46 :: r) _ hh2).mono ?_
           rintro e w4 ⟨rfl, rfl⟩)
        | fail)
      all_goals
        go_ret
        refine ⟨ret_bool ?_, HB2.out⟩
        rw [Hv.out]
        first
          | (rename_i h1; subst h1; rfl)
          | (rename_i h1 h2; rw [show r.isEmpty = false by simpa using h1, decide_eq_true (show r.length + 1 < (lower h).length by omega)]; simp)
          | (rename_i h1 h2; rw [show r.isEmpty = false by simpa using h1, decide_eq_false (show ¬ r.length + 1 < (lower h).length by omega)]; simp)

set_option maxHeartbeats 4000000 in
/-- The chapter's example. -/
theorem awake_any (w : World) : Calls Tryd.prog 7 #[] w fun e w' => e = .returned (.bool true) ∧ Below w.heap.size w w' := by
  have h1 : cov (lower [42, 46, 97, 46, 98]) (lower [120, 46, 121, 46, 97, 46, 98]) = true := by decide
  have h2 : cov (lower [42, 46, 97, 46, 98]) (lower [97, 46, 98]) = false := by decide
  have h3 : decide (NameP [119, 101, 98, 45, 49]) = true := by decide
  go_enter Tryd.func7, Tryd.ntmps7
  go_wp2_with fail
  refine (covers_any [42, 46, 97, 46, 98] [120, 46, 121, 46, 97, 46, 98] _ (by simp) (by simp)).mono ?_
  rintro e w1 ⟨rfl, hb1⟩
  rw [h1]
  go_wp2_with fail
  refine (covers_any [42, 46, 97, 46, 98] [97, 46, 98] _ (by simp) (by simp)).mono ?_
  rintro e w2 ⟨rfl, hb2⟩
  rw [h2]
  have hb := hb1.trans (hb2.mono hb1.size)
  go_wp2_with fail
  refine (name_any [119, 101, 98, 45, 49] _ (by simp)).mono ?_
  rintro e w3 ⟨rfl, rfl⟩
  rw [h3]
  go_wp2_with fail
  go_ret
  exact ⟨rfl, hb⟩
end Go.Proofs.YtdjpcdimcjjemaaDoor
