/-
  Contracts of the document's functions: Has, Drop, Put. Conditions: the lists can be read, and are short.
-/
import Derived.Test.YtghmjfinmbgjiaaSmall
namespace Go.Proofs.Ytghmjfinmbgjiaa
open Go.RowKit

theorem snoc_u64s (zs : List Int) (x : Int) : u64s (zs ++ [x]) = u64s zs ++ [.int .u64 x] := by simp [u64s]

theorem contains_at {l : List Int} {x : Int} {k : Nat} (hk : k < l.length) (hx : (l.getD k 0 == x) = true) : l.contains x = true := by
  simp [List.getD, hk] at hx ⊢
  rw [← hx]
  exact List.getElem_mem hk
theorem contains_none {l : List Int} {x : Int} (h : ∀ j, j < l.length → (l.getD j 0 == x) = false) : l.contains x = false := by
  rw [Bool.eq_false_iff]
  intro hc
  simp at hc
  obtain ⟨j, hj, rfl⟩ := List.getElem_of_mem hc
  have := h j hj
  simp [List.getD, hj] at this

set_option maxHeartbeats 400000 in
theorem has_any (A : Option Addr) (n c : Nat) (zs : List Int) (x : Int) (b : Bool) (w : World) (hr : Rd w 1 A n c (u64s zs)) (hb : zs.contains x = b) :
    Calls Try.prog 24 #[.slice A n c, .int .u64 x] w fun e w' => e = .returned (.bool b) ∧ w = w' := by
  have Hc := hide hb; clear hb
  have hl := hr.intLen
  have hm := hr.max
  have hle := hr.le
  unfold maxLen at hm
  have Hr := hide hr; clear hr
  have Hl := hide hl; clear hl
  go_enter Try.func24, Try.ntmps24
  go_wp2
  go_loop [9] (fun i => ∃ k : Nat, k ≤ n ∧ i = .int .i64 k ∧ ∀ j, j < k → (zs.getD j 0 == x) = false) (fun i => n - (intOf i).toNat)
  case atStart => exact ⟨0, Nat.zero_le _, rfl, by omega⟩
  case round =>
    obtain ⟨k, hk, rfl, hb⟩ := hrel
    have Hb := hide hb; clear hb
    by_cases hlt : k < n
    · obtain ⟨ad, rfl⟩ := Hr.out.isSome (by omega)
      obtain ⟨y, hy⟩ : ∃ y, y = zs.getD k 0 := ⟨_, rfl⟩
      have hcell : w.cell? (ad.add k) = some (.int .u64 y) := by rw [hy]; exact Hr.out.ints k hlt
      have Hy := hide hy; clear hy
      go_wp2
      · have hx : (y == x) = true := by assumption
        go_ret
        exact ⟨ret_bool (contains_at (k := k) (by rw [Hl.out]; exact hlt) (by rw [← Hy.out]; exact hx) ▸ Hc.out), rfl⟩
      · have hx : (y == x) = false := by assumption
        go_round
        case rel =>
          refine ⟨k + 1, by omega, by go_num, fun j hj => ?_⟩
          by_cases e : j = k
          · subst e; rw [← Hy.out]; exact hx
          · exact Hb.out j (by omega)
        case measure => simp [intOf]; omega
    · go_wp2
      go_ret
      exact ⟨ret_bool (contains_none (fun j hj => Hb.out j (by rw [Hl.out] at hj; omega)) ▸ Hc.out), rfl⟩

theorem has_yes (A : Option Addr) (n c : Nat) (zs : List Int) (x : Int) (w : World) (hr : Rd w 1 A n c (u64s zs)) (h : zs.contains x = true) :
    Calls Try.prog 24 #[.slice A n c, .int .u64 x] w fun e w' => e = .returned (.bool true) ∧ w = w' := has_any A n c zs x _ w hr h
theorem has_no (A : Option Addr) (n c : Nat) (zs : List Int) (x : Int) (w : World) (hr : Rd w 1 A n c (u64s zs)) (h : zs.contains x = false) :
    Calls Try.prog 24 #[.slice A n c, .int .u64 x] w fun e w' => e = .returned (.bool false) ∧ w = w' := has_any A n c zs x _ w hr h

/-- What is left without x, of the first k. -/
abbrev keepTo (zs : List Int) (x : Int) (k : Nat) : List Int := (zs.take k).filter (· != x)
theorem keepTo_len (zs : List Int) (x : Int) (k : Nat) : (keepTo zs x k).length ≤ k := Nat.le_trans (List.length_filter_le _ _) (List.length_take_le _ _)
theorem keepTo_succ (zs : List Int) (x : Int) (k : Nat) (hk : k < zs.length) : keepTo zs x (k + 1) = keepTo zs x k ++ (if (zs.getD k 0 != x) = true then [zs.getD k 0] else []) := by
  unfold keepTo
  rw [List.take_succ_eq_append_getElem hk, List.filter_append]
  simp [List.getD, hk, List.filter_cons]

set_option maxHeartbeats 1000000 in
theorem refDrop_any (A : Option Addr) (n c : Nat) (zs : List Int) (x : Int) (w : World) (hr : Rd w 1 A n c (u64s zs)) (hn : n ≤ 65536) :
    Calls Try.prog 25 #[.slice A n c, .int .u64 x] w fun e w' => ∃ v, e = .returned v ∧ w'.ownsRow w.heap.size 29 1 v (zs.filter (· != x)).length (u64s (zs.filter (· != x))) ∧ Below w.heap.size w w' := by
  obtain ⟨i0, hi0, hz0, hz1, hz2⟩ := info_parts Try.info29
  have hl := hr.intLen
  have Hr := hide hr; clear hr
  have Hl := hide hl; clear hl
  go_enter Try.func25, Try.ntmps25
  go_wp2
  go_loopw [5, 10] (fun v i wr => ∃ k : Nat, k ≤ n ∧ i = .int .i64 k ∧ wr.ownsRow w.heap.size 29 1 v (keepTo zs x k).length (u64s (keepTo zs x k)) ∧ Below w.heap.size w wr) (fun _ i _ => n - (intOf i).toNat)
  case atStart => exact ⟨0, Nat.zero_le _, rfl, World.ownsRow_nil _ _ _ _, Below.refl _ _⟩
  case round =>
    obtain ⟨k, hk, rfl, hown, hbel⟩ := hrel
    have Hown := hide hown; clear hown
    have Hbel := hide hbel; clear hbel
    by_cases hlt : k < n
    · obtain ⟨ad, rfl⟩ := Hr.out.isSome (by omega)
      obtain ⟨y, hy⟩ : ∃ y, y = zs.getD k 0 := ⟨_, rfl⟩
      have hcell : wr.cell? (ad.add k) = some (.int .u64 y) := by rw [hy]; exact cell_later Hbel.out (Hr.out.ints k hlt)
      have hst := keepTo_succ zs x k (by rw [Hl.out]; exact hlt)
      rw [← hy] at hst
      have Hst := hide hst; clear hst
      have hkl := keepTo_len zs x k
      clear hy
      cases hne : (y != x) with
      | true =>
        have Hne := hide hne
        go_wp2_with ((at_builtin
                      refine wpList_append_rd _ rfl (.tmp 17) (.tmp 19) 22 rfl w.heap.size 29 i0 _ 1 8 Try.underlying22 hi0 hz0 hz1 hz2 rfl (by omega) _ (keepTo zs x k).length (u64s (keepTo zs x k)) rfl (Hown.out.alloc _) _ 1 1 [.int .u64 y] rfl (rd_new _ _ _) (u64s_one [y]) (by simp only [maxLen]; omega) (by omega) (by have := Hbel.out.size; simp; omega) ?_
                      intro v2 w2 hown2 hg2 hat2
                      have HB2 := hide ((Hbel.out.alloc Hbel.out.size _).grown hg2 (by have := Hbel.out.size; simp; omega) (fun k e => (Hown.out.lt k e).1))
                      have Hown2 := hide hown2
                      clear hown2 hg2 hat2))
        go_roundw
        case rel =>
          refine ⟨k + 1, by omega, by go_num, ?_, HB2.out⟩
          rw [Hst.out, if_pos Hne.out, List.length_append, snoc_u64s]
          exact Hown2.out
        case measure => simp [intOf]; omega
      | false =>
        have Hne := hide hne
        go_wp2
        go_roundw
        case rel =>
          refine ⟨k + 1, by omega, by go_num, ?_, Hbel.out⟩
          rw [Hst.out, Hne.out]
          simpa using Hown.out
        case measure => simp [intOf]; omega
    · obtain rfl : k = n := by omega
      clear hlt hk
      go_wp2
      go_ret
      refine ⟨_, rfl, ?_, Hbel.out⟩
      have h := Hown.out
      unfold keepTo at h
      rw [← Hl.out, List.take_length] at h
      exact h

theorem refDrop_to (A : Option Addr) (n c : Nat) (zs zf : List Int) (x : Int) (w : World) (hr : Rd w 1 A n c (u64s zs)) (hn : n ≤ 65536) (hf : zs.filter (· != x) = zf) :
    Calls Try.prog 25 #[.slice A n c, .int .u64 x] w fun e w' => ∃ V vc, e = .returned (.slice V zf.length vc) ∧ Rd w' 1 V zf.length vc (u64s zf) ∧ (∀ ad, V = some ad → w.heap.size ≤ ad.block) ∧ Below w.heap.size w w' := by
  subst hf
  refine (refDrop_any A n c zs x w hr hn).mono ?_
  rintro e w' ⟨v, rfl, ho, hb⟩
  obtain ⟨V, vc, rfl, hr'⟩ := own_slice ho
  exact ⟨V, vc, rfl, hr', fun ad e => (ho.lt ad.block (by rw [e]; rfl)).1, hb⟩

set_option maxHeartbeats 1000000 in
theorem refPut_twice (room : Int) (A : Option Addr) (n c : Nat) (zs : List Int) (x : Int) (w : World) (hr : Rd w 1 A n c (u64s zs)) (h : zs.contains x = true) :
    Calls Try.prog 15 #[.slice A n c, .int .i64 room, .int .u64 x] w fun e w' => e = .returned (.tuple #[.slice A n c, .int .i64 11]) ∧ w = w' := by
  have Hr := hide hr; clear hr
  have Hh := hide h; clear h
  go_enter Try.func15, Try.ntmps15
  go_wp2_with (go_at_call 24; refine (has_yes _ _ _ zs _ _ Hr.out Hh.out).mono ?_; rintro e w' ⟨rfl, rfl⟩)
  go_ret2
  exact ⟨rfl, rfl⟩

set_option maxHeartbeats 1000000 in
theorem refPut_full (room : Int) (A : Option Addr) (n c : Nat) (zs : List Int) (x : Int) (w : World) (hr : Rd w 1 A n c (u64s zs)) (h : zs.contains x = false) (hf : room ≤ n) :
    Calls Try.prog 15 #[.slice A n c, .int .i64 room, .int .u64 x] w fun e w' => e = .returned (.tuple #[.slice A n c, .int .i64 17]) ∧ w = w' := by
  have Hr := hide hr; clear hr
  have Hh := hide h; clear h
  go_enter Try.func15, Try.ntmps15
  go_wp2_with (go_at_call 24; refine (has_no _ _ _ zs _ _ Hr.out Hh.out).mono ?_; rintro e w' ⟨rfl, rfl⟩)
  go_ret2
  exact ⟨rfl, rfl⟩

set_option maxHeartbeats 1000000 in
theorem refPut_ok (room : Int) (A : Option Addr) (n c : Nat) (zs : List Int) (x : Int) (w : World) (hr : Rd w 1 A n c (u64s zs)) (hn : n < 65536) (h : zs.contains x = false) (hf : (n : Int) < room) :
    Calls Try.prog 15 #[.slice A n c, .int .i64 room, .int .u64 x] w fun e w' => ∃ A' c', e = .returned (.tuple #[.slice A' (n + 1) c', .int .i64 0]) ∧ Rd w' 1 A' (n + 1) c' (u64s (zs ++ [x])) ∧ (∀ ad, A' = some ad → w.heap.size ≤ ad.block) ∧ Below w.heap.size w w' := by
  obtain ⟨i0, hi0, hz0, hz1, hz2⟩ := info_parts Try.info29
  have Hr := hide hr; clear hr
  have Hh := hide h; clear h
  go_enter Try.func15, Try.ntmps15
  go_wp2_with (first
    | (go_at_call 24; refine (has_no _ _ _ zs _ _ Hr.out Hh.out).mono ?_; rintro e w' ⟨rfl, rfl⟩)
    | (at_builtin
       refine wpList_append_rd _ rfl (.tmp 18) (.tmp 19) 22 rfl w.heap.size 29 i0 _ 1 8 Try.underlying22 hi0 hz0 hz1 hz2 rfl (by omega) (.slice none 0 0) 0 [] rfl (World.ownsRow_nil _ _ _ _) A n c (u64s zs) rfl Hr.out (u64s_one zs) (by simp only [maxLen]; omega) (by omega) (Nat.le_refl _) ?_
       intro v1 w1 hown1 hg1 hat1
       have Hown1 := hide hown1
       have Hg1 := hide ((Below.refl w.heap.size w).grown hg1 (Nat.le_refl _) (by simp [Value.ownBlock]))
       clear hown1 hg1 hat1)
    | (at_builtin
       refine wpList_append_rd _ rfl (.tmp 21) (.tmp 23) 22 rfl w.heap.size 29 i0 _ 1 8 Try.underlying22 hi0 hz0 hz1 hz2 rfl (by omega) v1 (0 + n) ([] ++ u64s zs) rfl (Hown1.out.alloc _) _ 1 1 [.int .u64 x] rfl (rd_new _ _ _) (u64s_one [x]) (by simp only [maxLen]; omega) (by omega) (by have := Hg1.out.size; simp; omega) ?_
       intro v2 w2 hown2 hg2 hat2
       have Hown2 := hide hown2
       have Hg2 := hide ((Hg1.out.alloc Hg1.out.size _).grown hg2 (by have := Hg1.out.size; simp; omega) (fun k e => (Hown1.out.lt k e).1))
       clear hown2 hg2 hat2))
  obtain ⟨A', c', rfl, hr2⟩ := own_slice Hown2.out
  go_ret2
  refine ⟨A', c', by simp, by simpa [snoc_u64s] using hr2, fun ad e => (Hown2.out.lt ad.block (by rw [e]; rfl)).1, Hg2.out⟩
end Go.Proofs.Ytghmjfinmbgjiaa
