/-
  Contracts of the pipe's functions: Len, has, All, Send, Deliver, Double, Lose. Conditions: the pipe's slice can be read, at most 64 on their way.
-/
import Derived.Test.YtoocklaoedcbjaaLib
namespace Go.Proofs.Ytoocklaoedcbjaa
open Go.RowKit

/-- A pipe's value. -/
abbrev pv (A : Option Addr) (n c : Nat) : Value := .agg #[.slice A n c]
/-- One more; of more than 64 the last 64. -/
def sendL (l : List Item) (x : Item) : List Item := (l ++ [x]).drop (l.length + 1 - 64)

set_option maxHeartbeats 400000 in
theorem len_any (A : Option Addr) (n c : Nat) (w : World) :
    Calls Try.prog 18 #[pv A n c] w fun e w' => e = .returned (.int .i64 n) ∧ Below w.heap.size w w' := by
  go_enter Try.func18, Try.ntmps18
  go_wp2
  go_ret
  exact ⟨rfl, (Below.refl _ _).alloc (Nat.le_refl _) _⟩

set_option maxHeartbeats 400000 in
theorem has_yes (A : Option Addr) (n c : Nat) (i : Int) (w : World) (h0 : 0 ≤ i) (h1 : i < n) :
    Calls Try.prog 22 #[pv A n c, .int .i64 i] w fun e w' => e = .returned (.bool true) ∧ Below w.heap.size w w' := by
  go_enter Try.func22, Try.ntmps22
  go_wp2
  go_ret
  exact ⟨rfl, (Below.refl _ _).alloc (Nat.le_refl _) _⟩

set_option maxHeartbeats 400000 in
theorem has_no (A : Option Addr) (n c : Nat) (i : Int) (w : World) (h : i < 0 ∨ (n : Int) ≤ i) :
    Calls Try.prog 22 #[pv A n c, .int .i64 i] w fun e w' => e = .returned (.bool false) ∧ Below w.heap.size w w' := by
  by_cases h0 : i < 0
  · clear h
    go_enter Try.func22, Try.ntmps22
    go_wp2
    go_ret
    exact ⟨rfl, (Below.refl _ _).alloc (Nat.le_refl _) _⟩
  · have h1 : (n : Int) ≤ i := h.resolve_left h0
    have h2 : 0 ≤ i := by omega
    have hd : decide (i < (n : Int)) = false := by simp; omega
    clear h h0
    go_enter Try.func22, Try.ntmps22
    go_wp2
    go_ret
    exact ⟨rfl, (Below.refl _ _).alloc (Nat.le_refl _) _⟩

set_option maxHeartbeats 400000 in
theorem all_any (A : Option Addr) (n c : Nat) (l : List Item) (w : World) (hr : Rd w 2 A n c (itemCells l)) (hn : n ≤ 65536) :
    Calls Try.prog 8 #[pv A n c] w fun e w' => ∃ A' c', e = .returned (.slice A' n c') ∧ w'.ownsRow w.heap.size 32 2 (.slice A' n c') n (itemCells l) ∧ Below w.heap.size w w' := by
  have Hr := hide (hr.alloc (.cells #[.slice A n c] 26)); clear hr
  go_enter Try.func8, Try.ntmps8
  go_wp2_with (go_at_call 19; refine (clone_any _ _ _ l _ Hr.out hn).mono ?_; rintro e w1 ⟨v1, rfl, hown1, hb1⟩)
  go_ret
  obtain ⟨A', c', rfl, _⟩ := own_slice hown1
  exact ⟨A', c', rfl, own_mono' hown1 (by simp), ((Below.refl _ _).alloc (Nat.le_refl _) _).trans (hb1.mono (by simp))⟩

theorem sendL_full (l : List Item) (x : Item) (h : l.length = 64) : sendL l x = (l ++ [x]).drop 1 := by unfold sendL; rw [h]
theorem sendL_short (l : List Item) (x : Item) (h : l.length < 64) : sendL l x = l ++ [x] := by unfold sendL; rw [show l.length + 1 - 64 = 0 by omega, List.drop_zero]
theorem sendL_len (l : List Item) (x : Item) (h : l.length ≤ 64) : (sendL l x).length ≤ 64 := by unfold sendL; simp; omega

set_option maxHeartbeats 1000000 in
theorem send_lt (A : Option Addr) (n c : Nat) (l : List Item) (to : Int) (s : ByteArray) (w : World) (hr : Rd w 2 A n c (itemCells l)) (hn : n < 63) :
    Calls Try.prog 7 #[pv A n c, .int .u64 to, .string s] w fun e w' => ∃ A' c', e = .returned (pv A' (n + 1) c') ∧ Rd w' 2 A' (n + 1) c' (itemCells (l ++ [(to, s)])) ∧ (∀ ad, A' = some ad → w.heap.size ≤ ad.block) ∧ Below w.heap.size w w' := by
  obtain ⟨i0, hi0, hz0, hz1, hz2⟩ := info_parts Try.info32
  have hle := hr.le
  have hnn : Rd w 2 A n n (itemCells l) := ⟨hr.len, Nat.le_refl _, Nat.le_trans hr.le hr.max, fun e => by have := hr.nil0 e; omega, hr.cell⟩
  have Hr := hide ((hnn.alloc (.cells #[.slice A n c] 26)).alloc (.cells #[.slice none 0 0] 26)); clear hr hnn
  have hsub : IntKind.i64.wrap ((n : Int) + 1 - 64) = (n : Int) + 1 - 64 := IntWalk.i64_in _ (by omega)
  have hneg : (n : Int) + 1 - 64 < 0 := by omega
  have hit := hide (items_append l [(to, s)]).symm
  go_enter Try.func7, Try.ntmps7
  go_wp2_with ((at_builtin
                refine wpList_append_full _ rfl (.tmp 16) (.tmp 20) 24 rfl 32 i0 _ 2 24 Try.underlying24 hi0 hz0 hz1 hz2 rfl (by omega) A n (itemCells l) rfl (Hr.out.alloc _) _ 1 1 (itemCells [(to, s)]) rfl (rd_item _ (to, s) 32 _ (by simp)) (items_one _) (by omega) (by simp only [maxLen]; omega) (by omega) ?_
                intro v1 w1 hown1 hb1
                obtain ⟨g, cap, rfl, hg1, hg2⟩ := own_form hown1 (by omega)
                have r0 : w1.cell? ⟨w.heap.size + 1, 0, none⟩ = some (.slice none 0 0) := cell_later hb1 (by go_simp)
                have r1 : w1.frozen? ⟨w.heap.size + 1, 0, none⟩ = false := (hb1.frozen (p := ⟨w.heap.size + 1, 0, none⟩) (by simp)).trans (by go_simp)
                have Hb1 := hide ((((Below.refl w.heap.size w).alloc (Nat.le_refl _) _).alloc (by simp) _).alloc (by simp; omega) _ |>.trans (hb1.mono (by simp; omega)))
                have hgg : w.heap.size + 2 < g := by simp at hg1; omega
                have Hown1 := hide hown1
                have hcap := (Rd.of_own hown1).le
                clear hown1 hb1 hg1 hg2))
  refine bodyPost_ret (v := pv (some ⟨g, 0, none⟩) (n + 1) cap) (by simp [results, Try.results7, go_sem, r0]) rfl ⟨_, cap, rfl, ?_, ?_, ?_⟩
  · have h := (Rd.of_own Hown1.out).setCell (p := ⟨w.heap.size + 1, 0, none⟩) (.slice (some ⟨g, 0, none⟩) (n + 1) cap) (by
      intro _ ad e
      injection e with e
      subst e
      simp only
      omega)
    rw [hit.out] at h
    exact h
  · intro ad e
    injection e with e
    subst e
    simp only
    omega
  · exact Hb1.out.setCell (p := ⟨w.heap.size + 1, 0, none⟩) (by simp) _

set_option maxHeartbeats 1000000 in
theorem send_63 (A : Option Addr) (c : Nat) (l : List Item) (to : Int) (s : ByteArray) (w : World) (hr : Rd w 2 A 63 c (itemCells l)) :
    Calls Try.prog 7 #[pv A 63 c, .int .u64 to, .string s] w fun e w' => ∃ A' c', e = .returned (pv A' 64 c') ∧ Rd w' 2 A' 64 c' (itemCells (l ++ [(to, s)])) ∧ (∀ ad, A' = some ad → w.heap.size ≤ ad.block) ∧ Below w.heap.size w w' := by
  obtain ⟨i0, hi0, hz0, hz1, hz2⟩ := info_parts Try.info32
  have hle := hr.le
  have hnn : Rd w 2 A 63 63 (itemCells l) := ⟨hr.len, Nat.le_refl _, Nat.le_trans hr.le hr.max, fun e => by have := hr.nil0 e; omega, hr.cell⟩
  have Hr := hide ((hnn.alloc (.cells #[.slice A 63 c] 26)).alloc (.cells #[.slice none 0 0] 26)); clear hr hnn
  have hit := hide (items_append l [(to, s)]).symm
  go_enter Try.func7, Try.ntmps7
  go_wp2_with ((at_builtin
                refine wpList_append_full _ rfl (.tmp 16) (.tmp 20) 24 rfl 32 i0 _ 2 24 Try.underlying24 hi0 hz0 hz1 hz2 rfl (by omega) A 63 (itemCells l) rfl (Hr.out.alloc _) _ 1 1 (itemCells [(to, s)]) rfl (rd_item _ (to, s) 32 _ (by simp)) (items_one _) (by omega) (by simp only [maxLen]; omega) (by omega) ?_
                intro v1 w1 hown1 hb1
                obtain ⟨g, cap, rfl, hg1, hg2⟩ := own_form hown1 (by omega)
                have r0 : w1.cell? ⟨w.heap.size + 1, 0, none⟩ = some (.slice none 0 0) := cell_later hb1 (by go_simp)
                have r1 : w1.frozen? ⟨w.heap.size + 1, 0, none⟩ = false := (hb1.frozen (p := ⟨w.heap.size + 1, 0, none⟩) (by simp)).trans (by go_simp)
                have Hb1 := hide ((((Below.refl w.heap.size w).alloc (Nat.le_refl _) _).alloc (by simp) _).alloc (by simp; omega) _ |>.trans (hb1.mono (by simp; omega)))
                have hgg : w.heap.size + 2 < g := by simp at hg1; omega
                have Hown1 := hide hown1
                have hcap := (Rd.of_own hown1).le
                clear hown1 hb1 hg1 hg2))
  refine bodyPost_ret (v := pv (some ⟨g, 0, none⟩) 64 cap) (by simp [results, Try.results7, go_sem, r0]) rfl ⟨_, cap, rfl, ?_, ?_, ?_⟩
  · have h := (Rd.of_own Hown1.out).setCell (p := ⟨w.heap.size + 1, 0, none⟩) (.slice (some ⟨g, 0, none⟩) 64 cap) (by
      intro _ ad e
      injection e with e
      subst e
      simp only
      omega)
    rw [hit.out] at h
    exact h
  · intro ad e
    injection e with e
    subst e
    simp only
    omega
  · exact Hb1.out.setCell (p := ⟨w.heap.size + 1, 0, none⟩) (by simp) _

set_option maxHeartbeats 1000000 in
theorem send_full (A : Option Addr) (c : Nat) (l : List Item) (to : Int) (s : ByteArray) (w : World) (hr : Rd w 2 A 64 c (itemCells l)) :
    Calls Try.prog 7 #[pv A 64 c, .int .u64 to, .string s] w fun e w' => ∃ A' c', e = .returned (pv A' 64 c') ∧ Rd w' 2 A' 64 c' (itemCells ((l ++ [(to, s)]).drop 1)) ∧ (∀ ad, A' = some ad → w.heap.size ≤ ad.block) ∧ Below w.heap.size w w' := by
  obtain ⟨i0, hi0, hz0, hz1, hz2⟩ := info_parts Try.info32
  have hle := hr.le
  have hnn : Rd w 2 A 64 64 (itemCells l) := ⟨hr.len, Nat.le_refl _, Nat.le_trans hr.le hr.max, fun e => by have := hr.nil0 e; omega, hr.cell⟩
  have Hr := hide ((hnn.alloc (.cells #[.slice A 64 c] 26)).alloc (.cells #[.slice none 0 0] 26)); clear hr hnn
  have hit := hide (items_append l [(to, s)]).symm
  go_enter Try.func7, Try.ntmps7
  go_wp2_with ((at_builtin
                refine wpList_append_full _ rfl (.tmp 16) (.tmp 20) 24 rfl 32 i0 _ 2 24 Try.underlying24 hi0 hz0 hz1 hz2 rfl (by omega) A 64 (itemCells l) rfl (Hr.out.alloc _) _ 1 1 (itemCells [(to, s)]) rfl (rd_item _ (to, s) 32 _ (by simp)) (items_one _) (by omega) (by simp only [maxLen]; omega) (by omega) ?_
                intro v1 w1 hown1 hb1
                obtain ⟨g, cap, rfl, hg1, hg2⟩ := own_form hown1 (by omega)
                have r0 : w1.cell? ⟨w.heap.size + 1, 0, none⟩ = some (.slice none 0 0) := cell_later hb1 (by go_simp)
                have r1 : w1.frozen? ⟨w.heap.size + 1, 0, none⟩ = false := (hb1.frozen (p := ⟨w.heap.size + 1, 0, none⟩) (by simp)).trans (by go_simp)
                have Hb1 := hide ((((Below.refl w.heap.size w).alloc (Nat.le_refl _) _).alloc (by simp) _).alloc (by simp; omega) _ |>.trans (hb1.mono (by simp; omega)))
                have hgg : w.heap.size + 2 < g := by simp at hg1; omega
                have Hown1 := hide hown1
                have hcap := (Rd.of_own hown1).le
                clear hown1 hb1 hg1 hg2))
  refine bodyPost_ret (v := pv (some ⟨g, 2, none⟩) 64 (cap - 1)) (by simp [results, Try.results7, go_sem, r0]) rfl ⟨_, (cap - 1), rfl, ?_, ?_, ?_⟩
  · have hne : ¬ cap = 1 := by omega
    have h0 := Rd.from_ (Rd.of_own Hown1.out) (k := 1) (by omega)
    rw [hit.out, items_drop] at h0
    simp only [hne, if_false, Option.map_some, Addr.add_lit] at h0
    exact h0.setCell (p := ⟨w.heap.size + 1, 0, none⟩) _ (by
      intro _ ad e
      injection e with e
      subst e
      simp only
      omega)
  · intro ad e
    injection e with e
    subst e
    simp only
    omega
  · exact Hb1.out.setCell (p := ⟨w.heap.size + 1, 0, none⟩) (by simp) _

/-- Send, at most 64 on their way. -/
theorem send_any (A : Option Addr) (n c : Nat) (l l' : List Item) (to : Int) (s : ByteArray) (w : World) (hr : Rd w 2 A n c (itemCells l)) (hn : n ≤ 64) (hl : sendL l (to, s) = l') :
    Calls Try.prog 7 #[pv A n c, .int .u64 to, .string s] w fun e w' => ∃ A' c', e = .returned (pv A' l'.length c') ∧ Rd w' 2 A' l'.length c' (itemCells l') ∧ (∀ ad, A' = some ad → w.heap.size ≤ ad.block) ∧ Below w.heap.size w w' := by
  have hlen := hr.itemLen
  rcases Nat.lt_or_ge n 63 with h | h
  · rw [sendL_short l _ (by omega)] at hl
    subst hl
    refine (send_lt A n c l to s w hr h).mono ?_
    rintro e w' ⟨A', c', rfl, h1, h2, h3⟩
    have e1 : (l ++ [(to, s)]).length = n + 1 := by simp [hlen]
    rw [e1]
    exact ⟨A', c', rfl, h1, h2, h3⟩
  · by_cases h6 : n = 63
    · subst h6
      rw [sendL_short l _ (by omega)] at hl
      subst hl
      refine (send_63 A c l to s w hr).mono ?_
      rintro e w' ⟨A', c', rfl, h1, h2, h3⟩
      have e1 : (l ++ [(to, s)]).length = 64 := by simp [hlen]
      rw [e1]
      exact ⟨A', c', rfl, h1, h2, h3⟩
    · obtain rfl : n = 64 := by omega
      rw [sendL_full l _ (by omega)] at hl
      subst hl
      refine (send_full A c l to s w hr).mono ?_
      rintro e w' ⟨A', c', rfl, h1, h2, h3⟩
      have e1 : ((l ++ [(to, s)]).drop 1).length = 64 := by simp [hlen]
      rw [e1]
      exact ⟨A', c', rfl, h1, h2, h3⟩
end Go.Proofs.Ytoocklaoedcbjaa
