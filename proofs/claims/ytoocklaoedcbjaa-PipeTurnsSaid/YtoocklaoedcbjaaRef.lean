/-
  Contracts of the document's functions: Drop, Send, Clear on lists of items. Conditions: the lists can be read, and are short.
-/
import Derived.Test.YtoocklaoedcbjaaClear
namespace Go.Proofs.Ytoocklaoedcbjaa
open Go.RowKit

/-- Of the first k, those that p lets by. -/
def keepIf (l : List Item) (p : Nat → Item → Bool) : Nat → List Item
  | 0 => []
  | k + 1 => keepIf l p k ++ (match l[k]? with | some x => if p k x = true then [x] else [] | none => [])
theorem keepIf_succ (l : List Item) (p : Nat → Item → Bool) (k : Nat) (x : Item) (hx : l[k]? = some x) : keepIf l p (k + 1) = keepIf l p k ++ (if p k x = true then [x] else []) := by
  rw [keepIf, hx]
theorem keepIf_len (l : List Item) (p : Nat → Item → Bool) (k : Nat) : (keepIf l p k).length ≤ k := by
  induction k with
  | zero => simp [keepIf]
  | succ k ih =>
    rw [keepIf, List.length_append]
    cases l[k]? with
    | none => simp; omega
    | some x => simp only; split <;> simp <;> omega
theorem keepIf_filter (l : List Item) (q : Item → Bool) (k : Nat) : keepIf l (fun _ x => q x) k = (l.take k).filter q := by
  induction k with
  | zero => simp [keepIf]
  | succ k ih =>
    by_cases hk : k < l.length
    · rw [keepIf_succ l _ k l[k] (by simp [hk]), ih, List.take_succ_eq_append_getElem hk, List.filter_append]
      by_cases h : q l[k] = true
      · simp [h]
      · simp [h]
    · rw [keepIf, List.getElem?_eq_none (by omega), ih, List.take_of_length_le (by omega), List.take_of_length_le (by omega)]
      simp
theorem keepIf_erase (l : List Item) (i k : Nat) (p : Nat → Item → Bool) (hp : ∀ j x, p j x = !decide (j = i)) : keepIf l p k = (l.take k).eraseIdx i := by
  induction k with
  | zero => simp [keepIf]
  | succ k ih =>
    by_cases hk : k < l.length
    · rw [keepIf_succ l _ k l[k] (by simp [hk]), ih, List.take_succ_eq_append_getElem hk, hp]
      have hl : (l.take k).length = k := by simp; omega
      by_cases h : k = i
      · subst h
        rw [List.eraseIdx_of_length_le (by omega), List.eraseIdx_append_of_length_le (by omega), hl]
        simp
      · rcases Nat.lt_or_ge i k with hlt | hge
        · rw [List.eraseIdx_append_of_lt_length (by omega)]
          simp [h]
        · rw [List.eraseIdx_of_length_le (by omega), List.eraseIdx_of_length_le (by simp; omega)]
          simp [h]
    · rw [keepIf, List.getElem?_eq_none (by omega), ih, List.take_of_length_le (by omega), List.take_of_length_le (by omega)]
      simp
theorem keepIf_all (l : List Item) (k : Nat) (p : Nat → Item → Bool) (hp : ∀ j x, p j x = true) : keepIf l p k = l.take k := by
  induction k with
  | zero => simp [keepIf]
  | succ k ih =>
    by_cases hk : k < l.length
    · rw [keepIf_succ l _ k l[k] (by simp [hk]), ih, List.take_succ_eq_append_getElem hk, hp]
      simp
    · rw [keepIf, List.getElem?_eq_none (by omega), ih, List.take_of_length_le (by omega), List.take_of_length_le (by omega)]
      simp

set_option maxRecDepth 100000 in
set_option maxHeartbeats 1000000 in
theorem refDrop_any (A : Option Addr) (n c : Nat) (l lf : List Item) (i : Int) (w : World) (hr : Rd w 2 A n c (itemCells l)) (hn : n ≤ 65536) (hlf : keepIf l (fun k _ => (k : Int) != i) n = lf) :
    Calls Try.prog 11 #[.slice A n c, .int .i64 i] w fun e w' => ∃ V vc, e = .returned (.slice V lf.length vc) ∧ Rd w' 2 V lf.length vc (itemCells lf) ∧ (∀ ad, V = some ad → w.heap.size ≤ ad.block) ∧ Below w.heap.size w w' := by
  obtain ⟨i0, hi0, hz0, hz1, hz2⟩ := info_parts Try.info41
  have hl := hr.itemLen
  have Hr := hide hr; clear hr
  have Hl := hide hl; clear hl
  have Hlf := hide hlf; clear hlf
  go_enter Try.func11, Try.ntmps11
  go_wp2_with fail
  go_loopw [5, 10] (fun v a wr => ∃ k : Nat, k ≤ n ∧ a = .int .i64 k ∧ wr.ownsRow w.heap.size 41 2 v (keepIf l (fun k _ => (k : Int) != i) k).length (itemCells (keepIf l (fun k _ => (k : Int) != i) k)) ∧ Below w.heap.size w wr) (fun _ a _ => n - (intOf a).toNat)
  case atStart => exact ⟨0, Nat.zero_le _, rfl, World.ownsRow_nil _ _ _ _, Below.refl _ _⟩
  case round =>
    obtain ⟨k, hk, rfl, hown, hbel⟩ := hrel
    obtain ⟨K, hK⟩ : ∃ K, keepIf l (fun k _ => (k : Int) != i) k = K := ⟨_, rfl⟩
    have hkl := keepIf_len l (fun k _ => (k : Int) != i) k
    rw [hK] at hown hkl
    have HK := hide hK
    have Hown := hide hown
    have Hbel := hide hbel
    clear hK hown hbel
    by_cases hlt : k < n
    · obtain ⟨⟨bb, o, sp⟩, rfl⟩ := Hr.out.isSome (by omega)
      have hkl2 : k < l.length := by rw [Hl.out]; exact hlt
      obtain ⟨x, hx⟩ : ∃ x, l[k]? = some x := ⟨l[k], by simp [hkl2]⟩
      obtain ⟨rfl, hx0, hx1⟩ := Hr.out.items k x hx
      have hst := keepIf_succ l (fun k _ => (k : Int) != i) k x hx
      rw [HK.out] at hst
      have Hst := hide hst
      obtain ⟨a, s⟩ := x
      have x0 := cell_later Hbel.out hx0
      have x1 := cell_later Hbel.out hx1
      simp only at x0 x1
      clear hx0 hx1 hx hst hkl2
      cases hne : ((k : Int) != i) with
      | true =>
        have Hne := hide hne
        go_wp2_with ((at_builtin
                      refine wpList_append_rd _ rfl (.tmp 18) (.tmp 20) 35 rfl w.heap.size 41 i0 _ 2 24 Try.underlying35 hi0 hz0 hz1 hz2 rfl (by omega) _ K.length (itemCells K) rfl ((Hown.out.alloc (.cells #[.int .u64 a, .string s] 41)).alloc _) _ 1 1 (itemCells [(a, s)]) rfl (rd_item _ (a, s) 41 _ (by simp)) (items_one _) (by simp only [maxLen]; omega) (by omega) (by have := Hbel.out.size; simp; omega) ?_
                      intro v2 w2 hown2 hg2 hat2
                      have HB2 := hide (((Hbel.out.alloc Hbel.out.size (.cells #[.int .u64 a, .string s] 41)).alloc (by have := Hbel.out.size; simp; omega) (.cells #[.int .u64 a, .string s] 41)).grown hg2 (by have := Hbel.out.size; simp; omega) (fun k e => (Hown.out.lt k e).1))
                      have Hown2 := hide hown2
                      clear hown2 hg2 hat2))
        go_roundw
        case rel =>
          refine ⟨k + 1, by omega, by go_num, ?_, HB2.out⟩
          rw [Hst.out, if_pos Hne.out, List.length_append, items_append]
          exact Hown2.out
        case measure => simp [intOf]; omega
      | false =>
        have Hne := hide hne
        go_wp2_with fail
        go_roundw
        case rel =>
          refine ⟨k + 1, by omega, by go_num, ?_, Hbel.out.alloc Hbel.out.size _⟩
          rw [Hst.out, if_neg (by rw [Hne.out]; simp), List.append_nil]
          exact Hown.out.alloc _
        case measure => simp [intOf]; omega
    · obtain rfl : k = n := by omega
      have hKf : K = lf := by rw [← HK.out, Hlf.out]
      subst hKf
      clear hlt hk
      obtain ⟨V, vc, hv, hrr⟩ := own_slice Hown.out
      have Hv := hide hv
      have Hrr := hide hrr
      clear hv hrr
      go_wp2_with fail
      go_ret
      exact ⟨V, vc, by rw [← Hv.out]; rfl, Hrr.out, fun ad e => (Hown.out.lt ad.block (by rw [Hv.out, e]; rfl)).1, Hbel.out⟩

set_option maxRecDepth 100000 in
set_option maxHeartbeats 1000000 in
theorem refClear_any (A : Option Addr) (n c : Nat) (l lf : List Item) (to : Int) (w : World) (hr : Rd w 2 A n c (itemCells l)) (hn : n ≤ 65536) (hlf : keepIf l (fun _ x => x.1 != to) n = lf) :
    Calls Try.prog 15 #[.slice A n c, .int .u64 to] w fun e w' => ∃ V vc, e = .returned (.slice V lf.length vc) ∧ Rd w' 2 V lf.length vc (itemCells lf) ∧ (∀ ad, V = some ad → w.heap.size ≤ ad.block) ∧ Below w.heap.size w w' := by
  obtain ⟨i0, hi0, hz0, hz1, hz2⟩ := info_parts Try.info41
  have hl := hr.itemLen
  have Hr := hide hr; clear hr
  have Hl := hide hl; clear hl
  have Hlf := hide hlf; clear hlf
  go_enter Try.func15, Try.ntmps15
  go_wp2_with fail
  go_loopw [5, 10] (fun v a wr => ∃ k : Nat, k ≤ n ∧ a = .int .i64 k ∧ wr.ownsRow w.heap.size 41 2 v (keepIf l (fun _ x => x.1 != to) k).length (itemCells (keepIf l (fun _ x => x.1 != to) k)) ∧ Below w.heap.size w wr) (fun _ a _ => n - (intOf a).toNat)
  case atStart => exact ⟨0, Nat.zero_le _, rfl, World.ownsRow_nil _ _ _ _, Below.refl _ _⟩
  case round =>
    obtain ⟨k, hk, rfl, hown, hbel⟩ := hrel
    obtain ⟨K, hK⟩ : ∃ K, keepIf l (fun _ x => x.1 != to) k = K := ⟨_, rfl⟩
    have hkl := keepIf_len l (fun _ x => x.1 != to) k
    rw [hK] at hown hkl
    have HK := hide hK
    have Hown := hide hown
    have Hbel := hide hbel
    clear hK hown hbel
    by_cases hlt : k < n
    · obtain ⟨⟨bb, o, sp⟩, rfl⟩ := Hr.out.isSome (by omega)
      have hkl2 : k < l.length := by rw [Hl.out]; exact hlt
      obtain ⟨x, hx⟩ : ∃ x, l[k]? = some x := ⟨l[k], by simp [hkl2]⟩
      obtain ⟨rfl, hx0, hx1⟩ := Hr.out.items k x hx
      have hst := keepIf_succ l (fun _ x => x.1 != to) k x hx
      rw [HK.out] at hst
      have Hst := hide hst
      obtain ⟨a, s⟩ := x
      have x0 := cell_later Hbel.out hx0
      have x1 := cell_later Hbel.out hx1
      simp only at x0 x1
      clear hx0 hx1 hx hst hkl2
      cases hne : (a != to) with
      | true =>
        have Hne := hide hne
        go_wp2_with ((at_builtin
                      refine wpList_append_rd _ rfl (.tmp 18) (.tmp 20) 35 rfl w.heap.size 41 i0 _ 2 24 Try.underlying35 hi0 hz0 hz1 hz2 rfl (by omega) _ K.length (itemCells K) rfl ((Hown.out.alloc (.cells #[.int .u64 a, .string s] 41)).alloc _) _ 1 1 (itemCells [(a, s)]) rfl (rd_item _ (a, s) 41 _ (by simp)) (items_one _) (by simp only [maxLen]; omega) (by omega) (by have := Hbel.out.size; simp; omega) ?_
                      intro v2 w2 hown2 hg2 hat2
                      have HB2 := hide (((Hbel.out.alloc Hbel.out.size (.cells #[.int .u64 a, .string s] 41)).alloc (by have := Hbel.out.size; simp; omega) (.cells #[.int .u64 a, .string s] 41)).grown hg2 (by have := Hbel.out.size; simp; omega) (fun k e => (Hown.out.lt k e).1))
                      have Hown2 := hide hown2
                      clear hown2 hg2 hat2))
        go_roundw
        case rel =>
          refine ⟨k + 1, by omega, by go_num, ?_, HB2.out⟩
          rw [Hst.out, if_pos Hne.out, List.length_append, items_append]
          exact Hown2.out
        case measure => simp [intOf]; omega
      | false =>
        have Hne := hide hne
        go_wp2_with fail
        go_roundw
        case rel =>
          refine ⟨k + 1, by omega, by go_num, ?_, Hbel.out.alloc Hbel.out.size _⟩
          rw [Hst.out, if_neg (by rw [Hne.out]; simp), List.append_nil]
          exact Hown.out.alloc _
        case measure => simp [intOf]; omega
    · obtain rfl : k = n := by omega
      have hKf : K = lf := by rw [← HK.out, Hlf.out]
      subst hKf
      clear hlt hk
      obtain ⟨V, vc, hv, hrr⟩ := own_slice Hown.out
      have Hv := hide hv
      have Hrr := hide hrr
      clear hv hrr
      go_wp2_with fail
      go_ret
      exact ⟨V, vc, by rw [← Hv.out]; rfl, Hrr.out, fun ad e => (Hown.out.lt ad.block (by rw [Hv.out, e]; rfl)).1, Hbel.out⟩

set_option maxRecDepth 100000 in
set_option maxHeartbeats 1000000 in
theorem refSend_any (A : Option Addr) (n c : Nat) (l lf : List Item) (y : Item) (w : World) (hr : Rd w 2 A n c (itemCells l)) (hn : n ≤ 65536) (hlf : keepIf l (fun k _ => decide (n < 64) || decide (0 < k)) n ++ [y] = lf) :
    Calls Try.prog 13 #[.slice A n c, itemV y] w fun e w' => ∃ V vc, e = .returned (.slice V lf.length vc) ∧ Rd w' 2 V lf.length vc (itemCells lf) ∧ (∀ ad, V = some ad → w.heap.size ≤ ad.block) ∧ Below w.heap.size w w' := by
  obtain ⟨i0, hi0, hz0, hz1, hz2⟩ := info_parts Try.info41
  have hl := hr.itemLen
  obtain ⟨to, ys⟩ := y
  have Hr := hide (hr.alloc (.cells #[.int .u64 to, .string ys] 41))
  have Hb0 := hide ((Below.refl w.heap.size w).alloc (Nat.le_refl _) (.cells #[.int .u64 to, .string ys] 41))
  have C0 := hide (show (w.alloc (.cells #[.int .u64 to, .string ys] 41)).cell? ⟨w.heap.size, 0, none⟩ = some (.int .u64 to) by go_simp)
  have C1 := hide (show (w.alloc (.cells #[.int .u64 to, .string ys] 41)).cell? ⟨w.heap.size, 1, none⟩ = some (.string ys) by go_simp)
  have Hs0 := hide (show w.heap.size < (w.alloc (.cells #[.int .u64 to, .string ys] 41)).heap.size by simp)
  clear hr
  have Hl := hide hl; clear hl
  have Hlf := hide hlf; clear hlf
  go_enter Try.func13, Try.ntmps13
  go_wp2_with fail
  generalize hW : w.alloc (.cells #[.int .u64 to, .string ys] 41) = W at *
  clear hW
  go_loopw [5, 10] (fun v a wr => ∃ k : Nat, k ≤ n ∧ a = .int .i64 k ∧ wr.ownsRow W.heap.size 41 2 v (keepIf l (fun k _ => decide (n < 64) || decide (0 < k)) k).length (itemCells (keepIf l (fun k _ => decide (n < 64) || decide (0 < k)) k)) ∧ Below W.heap.size W wr) (fun _ a _ => n - (intOf a).toNat)
  case atStart => exact ⟨0, Nat.zero_le _, rfl, World.ownsRow_nil _ _ _ _, Below.refl _ _⟩
  case round =>
    obtain ⟨k, hk, rfl, hown, hbel⟩ := hrel
    obtain ⟨K, hK⟩ : ∃ K, keepIf l (fun k _ => decide (n < 64) || decide (0 < k)) k = K := ⟨_, rfl⟩
    have hkl := keepIf_len l (fun k _ => decide (n < 64) || decide (0 < k)) k
    rw [hK] at hown hkl
    have HK := hide hK
    have Hown := hide hown
    have Hbel := hide hbel
    clear hK hown hbel
    by_cases hlt : k < n
    · obtain ⟨⟨bb, o, sp⟩, rfl⟩ := Hr.out.isSome (by omega)
      have hkl2 : k < l.length := by rw [Hl.out]; exact hlt
      obtain ⟨x, hx⟩ : ∃ x, l[k]? = some x := ⟨l[k], by simp [hkl2]⟩
      obtain ⟨rfl, hx0, hx1⟩ := Hr.out.items k x hx
      have hst := keepIf_succ l (fun k _ => decide (n < 64) || decide (0 < k)) k x hx
      rw [HK.out] at hst
      have Hst := hide hst
      obtain ⟨a, s⟩ := x
      have x0 := cell_later Hbel.out hx0
      have x1 := cell_later Hbel.out hx1
      simp only at x0 x1
      clear hx0 hx1 hx hst hkl2
      by_cases hpk : n < 64 ∨ 0 < k
      · have hne : (decide (n < 64) || decide (0 < k)) = true := by simpa using hpk
        have Hne := hide hne
        clear hne
        by_cases h64 : n < 64
        · go_wp2_with ((at_builtin
                        refine wpList_append_rd _ rfl (.tmp 22) (.tmp 24) 35 rfl W.heap.size 41 i0 _ 2 24 Try.underlying35 hi0 hz0 hz1 hz2 rfl (by omega) _ K.length (itemCells K) rfl ((Hown.out.alloc (.cells #[.int .u64 a, .string s] 41)).alloc _) _ 1 1 (itemCells [(a, s)]) rfl (rd_item _ (a, s) 41 _ (by simp)) (items_one _) (by simp only [maxLen]; omega) (by omega) (by have := Hbel.out.size; simp; omega) ?_
                        intro v2 w2 hown2 hg2 hat2
                        have HB2 := hide (((Hbel.out.alloc Hbel.out.size (.cells #[.int .u64 a, .string s] 41)).alloc (by have := Hbel.out.size; simp; omega) (.cells #[.int .u64 a, .string s] 41)).grown hg2 (by have := Hbel.out.size; simp; omega) (fun k e => (Hown.out.lt k e).1))
                        have Hown2 := hide hown2
                        clear hown2 hg2 hat2))
          go_roundw
          case rel =>
            refine ⟨k + 1, by omega, by go_num, ?_, HB2.out⟩
            rw [Hst.out, if_pos Hne.out, List.length_append, items_append]
            exact Hown2.out
          case measure => simp [intOf]; omega
        · have hk0 : 0 < k := by omega
          go_wp2_with ((at_builtin
                        refine wpList_append_rd _ rfl (.tmp 22) (.tmp 24) 35 rfl W.heap.size 41 i0 _ 2 24 Try.underlying35 hi0 hz0 hz1 hz2 rfl (by omega) _ K.length (itemCells K) rfl ((Hown.out.alloc (.cells #[.int .u64 a, .string s] 41)).alloc _) _ 1 1 (itemCells [(a, s)]) rfl (rd_item _ (a, s) 41 _ (by simp)) (items_one _) (by simp only [maxLen]; omega) (by omega) (by have := Hbel.out.size; simp; omega) ?_
                        intro v2 w2 hown2 hg2 hat2
                        have HB2 := hide (((Hbel.out.alloc Hbel.out.size (.cells #[.int .u64 a, .string s] 41)).alloc (by have := Hbel.out.size; simp; omega) (.cells #[.int .u64 a, .string s] 41)).grown hg2 (by have := Hbel.out.size; simp; omega) (fun k e => (Hown.out.lt k e).1))
                        have Hown2 := hide hown2
                        clear hown2 hg2 hat2))
          go_roundw
          case rel =>
            refine ⟨k + 1, by omega, by go_num, ?_, HB2.out⟩
            rw [Hst.out, if_pos Hne.out, List.length_append, items_append]
            exact Hown2.out
          case measure => simp [intOf]; omega
      · have hne : (decide (n < 64) || decide (0 < k)) = false := by simp; omega
        have Hne := hide hne
        have h64 : ¬ n < 64 := by omega
        have hk0 : ¬ 0 < k := by omega
        clear hne hpk
        go_wp2_with fail
        go_roundw
        case rel =>
          refine ⟨k + 1, by omega, by go_num, ?_, Hbel.out.alloc Hbel.out.size _⟩
          rw [Hst.out, if_neg (by rw [Hne.out]; simp), List.append_nil]
          exact Hown.out.alloc _
        case measure => simp [intOf]; omega
    · obtain rfl : k = n := by omega
      clear hlt hk
      have c0 := cell_later Hbel.out C0.out
      have c1 := cell_later Hbel.out C1.out
      go_wp2_with ((at_builtin
                    refine wpList_append_rd _ rfl (.tmp 27) (.tmp 29) 35 rfl W.heap.size 41 i0 _ 2 24 Try.underlying35 hi0 hz0 hz1 hz2 rfl (by omega) _ K.length (itemCells K) rfl (Hown.out.alloc _) _ 1 1 (itemCells [(to, ys)]) rfl (rd_item _ (to, ys) 41 _ (by simp)) (items_one _) (by simp only [maxLen]; omega) (by omega) (by have := Hbel.out.size; simp; omega) ?_
                    intro v2 w2 hown2 hg2 hat2
                    have HB2 := hide ((Hbel.out.alloc Hbel.out.size (.cells #[.int .u64 to, .string ys] 41)).grown hg2 (by have := Hbel.out.size; simp; omega) (fun k e => (Hown.out.lt k e).1))
                    have Hown2 := hide hown2
                    clear hown2 hg2 hat2))
      have hKf : lf = K ++ [(to, ys)] := by rw [← Hlf.out, HK.out]
      subst hKf
      obtain ⟨V, vc, hv, hrr⟩ := own_slice Hown2.out
      go_ret
      refine ⟨V, vc, by rw [List.length_append, List.length_singleton, ← hv]; rfl, ?_, fun ad e => ?_, Hb0.out.trans (HB2.out.mono (Nat.le_of_lt Hs0.out))⟩
      · rw [List.length_append, List.length_singleton, items_append]
        exact hrr
      · have h := (Hown2.out.lt ad.block (by rw [hv, e]; rfl)).1
        have h2 := Hs0.out
        omega
end Go.Proofs.Ytoocklaoedcbjaa
