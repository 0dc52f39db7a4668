/-
  Contract of the document's Cut. Conditions: the text is short.
-/
import Derived.Test.YtdjpcdimcjjemaaDoorRefLower
namespace Go.Proofs.YtdjpcdimcjjemaaDoor
open Go.RowKit

/-- The cells of texts. -/
abbrev strs (ps : List Bs) : List Value := ps.map fun p => .string (tx p)
theorem strs_one (ps : List Bs) : ∀ u ∈ strs ps, u.oneCell' = true := by
  intro u hu
  obtain ⟨p, _, rfl⟩ := List.mem_map.1 hu
  rfl
@[go_sem] theorem tx_extract (l : Bs) (a b : Nat) : (tx l).extract a b = tx ((l.drop a).take (b - a)) := by
  have h := Lib.extract_data (tx l) a b
  show (⟨((tx l).extract a b).data⟩ : ByteArray) = ⟨((l.drop a).take (b - a)).toArray⟩
  rw [← show ((tx l).extract a b).data.toList.toArray = ((tx l).extract a b).data from Array.toArray_toList, h]

/-- While a text is cut. -/
def CutI (b : UInt8) (l : Bs) (k a : Nat) (done : List Bs) : Prop :=
  (k ≤ l.length ∧ a ≤ k ∧ done ++ cutA b ((l.drop a).take (k - a)) (l.drop k) = cut b l) ∨ (k = l.length + 1 ∧ done = cut b l)
theorem drop_bt {l : Bs} {k : Nat} (h : k < l.length) : l.drop k = bt l k :: l.drop (k + 1) := by
  rw [List.drop_eq_getElem_cons h]
  simp [bt, List.getD, h]
theorem CutI.hit {b : UInt8} {l : Bs} {k a : Nat} {done : List Bs} (h : CutI b l k a done) (hk : k < l.length) (hb : bt l k = b) : CutI b l (k + 1) (k + 1) (done ++ [(l.drop a).take (k - a)]) := by
  rcases h with ⟨h1, h2, h3⟩ | ⟨h1, _⟩
  · rw [drop_bt hk, cutA, if_pos hb] at h3
    exact .inl ⟨hk, Nat.le_refl _, by simpa using h3⟩
  · omega
theorem CutI.miss {b : UInt8} {l : Bs} {k a : Nat} {done : List Bs} (h : CutI b l k a done) (hk : k < l.length) (hb : ¬ bt l k = b) : CutI b l (k + 1) a done := by
  rcases h with ⟨h1, h2, h3⟩ | ⟨h1, _⟩
  · rw [drop_bt hk, cutA, if_neg hb] at h3
    refine .inl ⟨hk, by omega, ?_⟩
    rw [← h3]
    congr 2
    rw [show k + 1 - a = (k - a) + 1 by omega, List.take_succ_eq_append_getElem (by simp; omega)]
    congr 2
    rw [List.getElem_drop]
    simp [bt, List.getD, show a + (k - a) = k by omega, hk]
  · omega
theorem CutI.last {b : UInt8} {l : Bs} {a : Nat} {done : List Bs} (h : CutI b l l.length a done) : CutI b l (l.length + 1) (l.length + 1) (done ++ [(l.drop a).take (l.length - a)]) := by
  rcases h with ⟨h1, h2, h3⟩ | ⟨h1, _⟩
  · rw [List.drop_length, cutA] at h3
    exact .inr ⟨rfl, h3⟩
  · omega
theorem CutI.le {b : UInt8} {l : Bs} {k a : Nat} {done : List Bs} (h : CutI b l k a done) (hk : k ≤ l.length) : a ≤ k := by
  rcases h with h | h
  · exact h.2.1
  · omega
theorem cutA_short (b : UInt8) : ∀ (l acc : Bs), ∀ p ∈ cutA b acc l, p.length ≤ acc.length + l.length
  | [], acc, p, hp => by
    simp [cutA] at hp
    rw [hp]
    simp
  | c :: r, acc, p, hp => by
    unfold cutA at hp
    split at hp
    · rcases List.mem_cons.1 hp with rfl | hp
      · simp
      · have := cutA_short b r [] p hp
        simp at this ⊢
        omega
    · have := cutA_short b r _ p hp
      simp at this ⊢
      omega
theorem cut_short (b : UInt8) (l : Bs) : ∀ p ∈ cut b l, p.length ≤ l.length := fun p hp => by simpa using cutA_short b l [] p hp
theorem cutA_count (b : UInt8) : ∀ (l acc : Bs), (cutA b acc l).length ≤ l.length + 1
  | [], acc => by simp [cutA]
  | c :: r, acc => by
    unfold cutA
    split
    · have := cutA_count b r []
      simp
      omega
    · have := cutA_count b r (acc ++ [c])
      simp
      omega
theorem cut_count (b : UInt8) (l : Bs) : (cut b l).length ≤ l.length + 1 := cutA_count b l []
theorem rd_str {w : World} {ad : Addr} {n c : Nat} {ps : List Bs} (h : Rd w 1 (some ad) n c (strs ps)) (k : Nat) (hk : k < ps.length) : w.cell? (ad.add k) = some (.string (tx (ps.getD k []))) :=
  h.cell ad rfl k _ (by simp [strs, List.getD, hk])
theorem rd_strLen {w : World} {A : Option Addr} {n c : Nat} {ps : List Bs} (h : Rd w 1 A n c (strs ps)) : ps.length = n := by have := h.len; simpa using this
theorem Tryd.info9 : (Tryd.prog.info? 9).map (fun i => (i.zero, i.size, i.bytes)) = some (some (.string ByteArray.empty), 1, 16) := by kernel_rfl

set_option maxRecDepth 100000 in
set_option maxHeartbeats 8000000 in
theorem cut_any (l : Bs) (b : UInt8) (w : World) (hl : l.length ≤ 1000) : Calls Tryd.prog 28 #[.string (tx l), .int .u8 b.toNat] w fun e w' => ∃ v, e = .returned v ∧ w'.ownsRow w.heap.size 9 1 v (cut b l).length (strs (cut b l)) ∧ Below w.heap.size w w' := by
  obtain ⟨i0, hi0, hz0, hz1, hz2⟩ := info_parts Tryd.info9
  go_enter Tryd.func28, Tryd.ntmps28
  go_wp2_with fail
  go_loopw [5, 6, 7] (fun o a i wr => ∃ (k at_ : Nat) (V : Option Addr) (vc : Nat) (done : List Bs), k ≤ l.length + 1 ∧ i = .int .i64 k ∧ a = .int .i64 at_ ∧ o = .slice V done.length vc ∧ wr.ownsRow w.heap.size 9 1 (.slice V done.length vc) done.length (strs done) ∧
    done.length ≤ k ∧ CutI b l k at_ done ∧ Below w.heap.size w wr) (fun _ _ i _ => l.length + 1 - (intOf i).toNat)
  case atStart => exact ⟨0, 0, none, 0, [], by omega, rfl, rfl, rfl, World.ownsRow_nil _ _ _ _, Nat.le_refl _, .inl ⟨Nat.zero_le _, Nat.le_refl _, by simp [cut]⟩, Below.refl _ _⟩
  case round =>
    obtain ⟨k, a, V, vc, done, hk, rfl, rfl, rfl, ho, hd, hC, hb⟩ := hrel
    have HC := hide hC
    have Hb := hide hb
    have Ho := hide ho
    have hsz := hb.size
    clear hC hb ho
    by_cases hlt : k < l.length
    · obtain ⟨x, hx⟩ : ∃ x, bt l k = x := ⟨_, rfl⟩
      have Hx := hide hx
      have hne : ((k : Int) == (l.length : Int)) = false := by rw [beq_eq_false_iff_ne]; omega
      by_cases hxb : x = b
      · subst hxb
        have ha := HC.out.le (by omega)
        have HC2 := hide (HC.out.hit hlt Hx.out)
        go_wp2_with ((at_builtin
                      refine wpList_append_rd _ rfl (.tmp 25) (.tmp 30) 25 rfl w.heap.size 9 i0 _ 1 16 Tryd.underlying25 hi0 hz0 hz1 hz2 rfl (by omega) (.slice V done.length vc) done.length (strs done) rfl (Ho.out.alloc _) _ 1 1 (strs [(l.drop a).take (k - a)]) rfl (rd_new _ _ _) (strs_one _) (by simp only [maxLen]; omega) (by omega) (by simp; omega) ?_
                      intro v2 w2 hown2 hg2 hat2
                      obtain ⟨V2, c2, rfl, _⟩ := own_slice hown2
                      have HB2 := hide ((Hb.out.alloc Hb.out.size _).grown hg2 (by have := Hb.out.size; simp; omega) (fun q e => (Ho.out.lt q e).1))
                      have Ho2 := hide (show w2.ownsRow w.heap.size 9 1 (.slice V2 (done ++ [(l.drop a).take (k - a)]).length c2) (done ++ [(l.drop a).take (k - a)]).length (strs (done ++ [(l.drop a).take (k - a)])) from by
                        rw [List.length_append]
                        simpa [strs] using hown2)
                      clear hown2 hg2 hat2))
        go_roundw
        case rel => exact ⟨k + 1, k + 1, V2, c2, _, by omega, by go_num, by go_num, by simp, Ho2.out, by simp <;> omega, HC2.out, HB2.out⟩
        case measure => simp [intOf] <;> omega
      · have hxn : ¬ (x.toNat : Int) = (b.toNat : Int) := fun e => hxb (UInt8.toNat_inj.1 (by omega))
        have HC2 := hide (HC.out.miss hlt (by rw [Hx.out]; exact hxb))
        clear hxb
        go_wp2_with fail
        go_roundw
        case rel => exact ⟨k + 1, a, V, vc, done, by omega, by go_num, rfl, rfl, Ho.out, by omega, HC2.out, Hb.out⟩
        case measure => simp [intOf] <;> omega
    · by_cases he : k = l.length
      · subst he
        have ha := HC.out.le (Nat.le_refl _)
        have HC2 := hide HC.out.last
        go_wp2_with ((at_builtin
                      refine wpList_append_rd _ rfl (.tmp 25) (.tmp 30) 25 rfl w.heap.size 9 i0 _ 1 16 Tryd.underlying25 hi0 hz0 hz1 hz2 rfl (by omega) (.slice V done.length vc) done.length (strs done) rfl (Ho.out.alloc _) _ 1 1 (strs [(l.drop a).take (l.length - a)]) rfl (rd_new _ _ _) (strs_one _) (by simp only [maxLen]; omega) (by omega) (by simp; omega) ?_
                      intro v2 w2 hown2 hg2 hat2
                      obtain ⟨V2, c2, rfl, _⟩ := own_slice hown2
                      have HB2 := hide ((Hb.out.alloc Hb.out.size _).grown hg2 (by have := Hb.out.size; simp; omega) (fun q e => (Ho.out.lt q e).1))
                      have Ho2 := hide (show w2.ownsRow w.heap.size 9 1 (.slice V2 (done ++ [(l.drop a).take (l.length - a)]).length c2) (done ++ [(l.drop a).take (l.length - a)]).length (strs (done ++ [(l.drop a).take (l.length - a)])) from by
                        rw [List.length_append]
                        simpa [strs] using hown2)
                      clear hown2 hg2 hat2))
        go_roundw
        case rel => exact ⟨l.length + 1, l.length + 1, V2, c2, _, by omega, by go_num, by go_num, by simp, Ho2.out, by simp <;> omega, HC2.out, HB2.out⟩
        case measure => simp [intOf] <;> omega
      · obtain rfl : k = l.length + 1 := by omega
        have hdone : done = cut b l := by
          rcases HC.out with h | h
          · omega
          · exact h.2
        subst hdone
        go_wp2_with fail
        go_ret
        exact ⟨_, rfl, Ho.out, Hb.out⟩
end Go.Proofs.YtdjpcdimcjjemaaDoor
