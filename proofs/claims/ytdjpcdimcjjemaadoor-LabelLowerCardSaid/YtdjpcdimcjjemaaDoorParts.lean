/-
  Contracts of Parts and Under, the program's and the document's. Conditions: the text is short; the variable MaxLen holds a number.
-/
import Derived.Test.YtdjpcdimcjjemaaDoorDel
import Derived.Deep.QuietTactic
import Derived.BigQuiet
namespace Go.Proofs.YtdjpcdimcjjemaaDoor
open Go.RowKit

/-- A path's parts. -/
def parts (l : Bs) : List Bs := (cut 47 l).filter (fun p => !p.isEmpty)
theorem parts_len (l : Bs) : (parts l).length ≤ l.length + 1 := Nat.le_trans (List.length_filter_le _ _) (cut_count 47 l)

theorem idxE_ex : ∀ zs : List Bs, ∃ i, IdxE zs i
  | [] => ⟨-1, .inr ⟨rfl, fun j h => by simp at h⟩⟩
  | p :: r => by
    cases hp : p.isEmpty with
    | true => exact ⟨0, .inl ⟨0, rfl, by simp, hp, by omega⟩⟩
    | false =>
      obtain ⟨i, hi⟩ := idxE_ex r
      rcases hi with ⟨k, rfl, h1, h2, h3⟩ | ⟨rfl, h3⟩
      · refine ⟨((k + 1 : Nat) : Int), .inl ⟨k + 1, rfl, by simp; omega, h2, fun j hj => ?_⟩⟩
        cases j with
        | zero => exact hp
        | succ j => exact h3 j (by omega)
      · refine ⟨-1, .inr ⟨rfl, fun j hj => ?_⟩⟩
        cases j with
        | zero => exact hp
        | succ j => exact h3 j (by simp at hj; omega)
theorem filter_all {zs : List Bs} (h : ∀ j, j < zs.length → (zs.getD j []).isEmpty = false) : zs.filter (fun p => !p.isEmpty) = zs := by
  rw [List.filter_eq_self]
  intro p hp
  obtain ⟨i, hi, rfl⟩ := List.mem_iff_getElem.1 hp
  have := h i hi
  simp [List.getD, hi] at this
  simp [this]
theorem keepS_first {zs : List Bs} {k : Nat} (h1 : k < zs.length) (h2 : (zs.getD k []).isEmpty = true) (h3 : ∀ j, j < k → (zs.getD j []).isEmpty = false) : keepS zs (k + 1) = zs.take k := by
  rw [keepS_succ zs k h1, if_pos h2, List.append_nil]
  unfold keepS
  refine filter_all fun j hj => ?_
  rw [List.length_take] at hj
  have := h3 j (by omega)
  simp only [List.getD, List.getElem?_take]
  rw [if_pos (by omega)]
  exact this

set_option maxHeartbeats 1000000 in
theorem deleteFunc_none (A : Option Addr) (n c : Nat) (zs : List Bs) (w : World) (hr : Rd w 1 A n c (strs zs)) (hn : n ≤ 65536) (hi : IdxE zs (-1)) :
    Calls Tryd.prog 24 #[.slice A n c, testV] w fun e w' => e = .returned (.slice A n c) ∧ w = w' := by
  have Hr := hide hr
  have Hi := hide hi
  clear hr hi
  go_enter Tryd.func24, Tryd.ntmps24
  go_wp2_with fail
  refine (indexFunc_any A n c zs (-1) w Hr.out hn Hi.out).mono ?_
  rintro e w1 ⟨rfl, rfl⟩
  go_wp2_with fail
  go_ret
  exact ⟨rfl, rfl⟩

set_option maxHeartbeats 1000000 in
theorem parts_any (l : Bs) (m : Int) (w : World) (hm : w.cell? ⟨0, 0, none⟩ = some (.int .i64 m)) (hl : l.length ≤ 1000) :
    Calls Tryd.prog 10 #[.string (tx l)] w fun e w' => ∃ V c, e = .returned (.slice V (parts l).length c) ∧ w'.ownsRow w.heap.size 9 1 (.slice V (parts l).length c) (parts l).length (strs (parts l)) ∧ Below w.heap.size w w' := by
  have hcn := cut_count 47 l
  have Ho := hide (own_split w (cut 47 l) (by omega))
  have HB := hide ((Below.refl w.heap.size w).alloc (Nat.le_refl _) (.cells (strs (cut 47 l)).toArray 9))
  go_enter Tryd.func10, Tryd.ntmps10
  go_wp2_with fail
  refine (split_any l 47 m w hm (by omega)).mono ?_
  rintro e w1 ⟨rfl, rfl⟩
  obtain ⟨i, hi⟩ := idxE_ex (cut 47 l)
  rcases hi with ⟨k, rfl, h1, h2, h3⟩ | ⟨rfl, h3⟩
  · have Hd := hide (deleteFunc_own w.heap.size (cut 47 l).length (cut 47 l).length w.heap.size k (cut 47 l) _ (by omega) Ho.out (parts l) rfl (.inl ⟨k, rfl, h1, h2, h3⟩) h1 (keepS_first h1 h2 h3))
    clear h1 h2 h3 hm
    go_wp2_with fail
    refine (Hd.out).mono ?_
    rintro e w2 ⟨rfl, ho, hg⟩
    have HB2 := hide (HB.out.grown hg (by simp) (fun q e => by injection e with e; omega))
    have Ho2 := hide ho
    clear ho hg
    go_wp2_with fail
    go_ret
    exact ⟨_, _, rfl, Ho2.out, HB2.out⟩
  · have he : parts l = cut 47 l := filter_all h3
    have Hd := hide (deleteFunc_none _ _ _ (cut 47 l) _ (Rd.of_own Ho.out) (by omega) (.inr ⟨rfl, h3⟩))
    have He := hide he
    clear h3 he hm
    go_wp2_with fail
    refine (Hd.out).mono ?_
    rintro e w2 ⟨rfl, rfl⟩
    go_wp2_with fail
    go_ret
    rw [He.out]
    exact ⟨_, _, rfl, Ho.out, HB.out⟩

theorem partsTo_succ (zs : List Bs) (j : Nat) (hj : j < zs.length) : keepS zs (j + 1) = keepS zs j ++ if (zs.getD j []).isEmpty = true then [] else [zs.getD j []] := keepS_succ zs j hj

set_option maxRecDepth 100000 in
set_option maxHeartbeats 4000000 in
theorem refParts_any (l : Bs) (w : World) (hl : l.length ≤ 1000) :
    Calls Tryd.prog 18 #[.string (tx l)] w fun e w' => ∃ V c, e = .returned (.slice V (parts l).length c) ∧ w'.ownsRow w.heap.size 9 1 (.slice V (parts l).length c) (parts l).length (strs (parts l)) ∧ Below w.heap.size w w' := by
  obtain ⟨i0, hi0, hz0, hz1, hz2⟩ := info_parts Tryd.info9
  have hcn := cut_count 47 l
  go_enter Tryd.func18, Tryd.ntmps18
  go_wp2_with fail
  refine (cut_any l 47 w hl).mono ?_
  rintro e w1 ⟨v, rfl, ho, hb⟩
  obtain ⟨A, ac, rfl, hr⟩ := own_slice ho
  have Hr := hide hr
  have hlt0 := ho.lt
  have HB1 := hide hb
  have hs1 := hb.size
  clear hr ho hb hlt0
  go_wp2_with fail
  have hpt : (cut 47 l).filter (fun p => !p.isEmpty) = parts l := rfl
  have Hpt := hide hpt
  clear hpt
  generalize cut 47 l = zs at *
  go_loopw [3, 9] (fun v i wr => ∃ (k : Nat) (V : Option Addr) (vc : Nat), k ≤ zs.length ∧ i = .int .i64 k ∧ v = .slice V (keepS zs k).length vc ∧ wr.ownsRow w1.heap.size 9 1 (.slice V (keepS zs k).length vc) (keepS zs k).length (strs (keepS zs k)) ∧ Below w1.heap.size w1 wr) (fun _ i _ => zs.length - (intOf i).toNat)
  case atStart => exact ⟨0, none, 0, Nat.zero_le _, rfl, rfl, World.ownsRow_nil _ _ _ _, Below.refl _ _⟩
  case round =>
    obtain ⟨k, V, vc, hk, rfl, rfl, ho, hb⟩ := hrel
    have Ho := hide ho
    have Hb := hide hb
    have hkl := keepS_len zs k
    have hsz := hb.size
    clear ho hb
    by_cases hlt : k < zs.length
    · obtain ⟨ad, rfl⟩ := (Hr.out.below Hb.out).isSome (by omega)
      have x0 := rd_str (Hr.out.below Hb.out) k hlt
      obtain ⟨y, hy⟩ : ∃ y, zs.getD k [] = y := ⟨_, rfl⟩
      rw [hy] at x0
      have hsucc := keepS_succ zs k hlt
      rw [hy] at hsucc
      have Hs := hide hsucc
      clear hsucc hy
      cases he : y.isEmpty with
      | true =>
        have He := hide he
        go_wp2_with fail
        go_roundw
        case rel =>
          have h := Hs.out
          rw [if_pos He.out, List.append_nil] at h
          exact ⟨k + 1, V, vc, by omega, by go_num, by rw [h], by rw [h]; exact Ho.out, Hb.out⟩
        case measure => simp [intOf] <;> omega
      | false =>
        have He := hide he
        generalize hq : (keepS zs k).length = q at *
        go_wp2_with ((at_builtin
                      refine wpList_append_rd _ rfl (.tmp 15) (.tmp 17) 25 rfl w1.heap.size 9 i0 _ 1 16 Tryd.underlying25 hi0 hz0 hz1 hz2 rfl (by omega) (.slice V q vc) q (strs (keepS zs k)) rfl (Ho.out.alloc _) _ 1 1 (strs [y]) rfl (rd_new _ _ _) (strs_one _) (by simp only [maxLen]; omega) (by omega) (by simp; omega) ?_
                      intro v2 w2 hown2 hg2 hat2
                      obtain ⟨V2, c2, rfl, _⟩ := own_slice hown2
                      have HB2 := hide ((Hb.out.alloc Hb.out.size _).grown hg2 (by have := Hb.out.size; simp; omega) (fun q e => (Ho.out.lt q e).1))
                      have Ho2 := hide hown2
                      clear hown2 hg2 hat2))
        go_roundw
        case rel =>
          have h := Hs.out
          rw [if_neg (by rw [He.out]; simp)] at h
          have h2 : (keepS zs (k + 1)).length = q + 1 := by rw [h, List.length_append, hq]; rfl
          refine ⟨k + 1, V2, c2, by omega, by go_num, by rw [h2], ?_, HB2.out⟩
          rw [h2, show strs (keepS zs (k + 1)) = strs (keepS zs k) ++ strs [y] by rw [h]; simp [strs]]
          exact Ho2.out
        case measure => simp [intOf] <;> omega
    · obtain rfl : k = zs.length := by omega
      have hf : keepS zs zs.length = parts l := by rw [← Hpt.out]; unfold keepS; rw [List.take_length]
      go_wp2_with fail
      go_ret
      refine ⟨V, vc, by rw [← hf]; rfl, ?_, HB1.out.trans (Hb.out.mono hs1)⟩
      rw [← hf]
      exact own_mono' Ho.out hs1

/-- A fresh list of texts against another. -/
theorem equal_strs (A B : Option Addr) (n c m d : Nat) (xs ys : List Bs) (w : World) (hx : Rd w 1 A n c (strs xs)) (hy : Rd w 1 B m d (strs ys)) :
    Calls Tryd.prog 17 #[.slice A n c, .slice B m d] w fun e w' => e = .returned (.bool (decide (xs = ys))) ∧ Below w.heap.size w w' := by
  have lx := rd_strLen hx
  have ly := rd_strLen hy
  have hmx := hx.max
  have hlx := hx.le
  have hmy := hy.max
  have hly := hy.le
  simp only [maxLen] at hmx hmy
  by_cases hnm : n = m
  · subst hnm
    rcases Nat.eq_zero_or_pos n with rfl | hn
    · refine (Tryd.slices_Equal_string_empty A B c 0 d w (by omega)).mono ?_
      rintro e w' ⟨rfl, rfl⟩
      have e1 := List.length_eq_zero_iff.1 lx
      have e2 := List.length_eq_zero_iff.1 ly
      subst e1 e2
      exact ⟨rfl, Below.refl _ _⟩
    · obtain ⟨⟨b1, o1, s1⟩, rfl⟩ := hx.isSome hn
      obtain ⟨⟨b2, o2, s2⟩, rfl⟩ := hy.isSome hn
      obtain rfl : s1 = none := hx.spot (by intro e; have := congrArg List.length e; simp at this; rw [this] at lx; simp at lx; omega)
      obtain rfl : s2 = none := hy.spot (by intro e; have := congrArg List.length e; simp at this; rw [this] at ly; simp at ly; omega)
      refine (Tryd.slices_Equal_string b1 o1 n c b2 o2 n d (xs.map tx) (ys.map tx) w (by simp; omega) (by simp; omega) (by omega) (by omega) (fun j hj => ?_) (fun j hj => ?_)).mono ?_
      · have hj' : j < xs.length := by simpa using hj
        have := rd_str hx j hj'
        simp only [Addr.add_lit] at this
        rw [this]
        simp [List.getD, hj']
      · have hj' : j < ys.length := by simpa using hj
        have := rd_str hy j hj'
        simp only [Addr.add_lit] at this
        rw [this]
        simp [List.getD, hj']
      · rintro e w' ⟨rfl, q, rfl⟩
        refine ⟨ret_bool ?_, below_drewN _ _ _⟩
        rw [decide_eq_decide, List.take_of_length_le (by simp; omega), List.take_of_length_le (by simp; omega)]
        constructor
        · intro h
          refine List.map_inj_right (f := tx) (fun a b h => tx_inj h) |>.1 h
        · intro h
          rw [h]
  · refine (Tryd.slices_Equal_string_lens A B n c m d w hnm).mono ?_
    rintro e w' ⟨rfl, rfl⟩
    refine ⟨ret_bool ?_, Below.refl _ _⟩
    rw [eq_comm, decide_eq_false_iff_not]
    intro h
    rw [h] at lx
    omega

/-- Whether a path is under another. -/
def und (a b : Bs) : Bool := decide (parts a <+: parts b)

set_option maxHeartbeats 2000000 in
theorem under_any (a b : Bs) (m : Int) (w : World) (hm : w.cell? ⟨0, 0, none⟩ = some (.int .i64 m)) (ha : a.length ≤ 1000) (hb : b.length ≤ 1000) :
    Calls Tryd.prog 11 #[.string (tx a), .string (tx b)] w fun e w' => e = .returned (.bool (und a b)) ∧ Below w.heap.size w w' := by
  go_enter Tryd.func11, Tryd.ntmps11
  go_wp2_with fail
  refine (parts_any a m w hm ha).mono ?_
  rintro e w1 ⟨V, vc, rfl, ho1, hb1⟩
  have hm1 := cell_later hb1 hm
  have HB1 := hide hb1
  have Hr1 := hide (Rd.of_own ho1)
  clear ho1 hb1
  go_wp2_with fail
  refine (parts_any b m w1 hm1 hb).mono ?_
  rintro e w2 ⟨U, uc, rfl, ho2, hb2⟩
  have HB2 := hide (HB1.out.trans (hb2.mono HB1.out.size))
  have Hr2 := hide (Hr1.out.below hb2)
  have Hs2 := hide (Rd.of_own ho2)
  clear ho2 hb2 HB1 Hr1
  have hv : und a b = decide (parts a <+: parts b) := rfl
  have Hv := hide hv
  clear hv
  generalize parts a = xs at *
  generalize parts b = ys at *
  by_cases hle : xs.length ≤ ys.length
  · have ht := Hs2.out.to_ hle
    rw [Nat.mul_one, show (strs ys).take xs.length = strs (ys.take xs.length) by simp [strs, List.map_take]] at ht
    have Ht := hide ht
    have hd : decide ((xs.length : Int) ≤ (ys.length : Int)) = true := by rw [decide_eq_true_iff]; omega
    have hcu := Hs2.out.le
    clear ht
    go_wp2_with fail
    refine (equal_strs _ _ _ _ _ _ xs (ys.take xs.length) _ Hr2.out Ht.out).mono ?_
    rintro e w3 ⟨rfl, hb3⟩
    have HB3 := hide (HB2.out.trans (hb3.mono HB2.out.size))
    clear hb3
    go_wp2_with fail
    go_ret
    refine ⟨ret_bool ?_, HB3.out⟩
    rw [Hv.out, decide_eq_decide]
    exact List.prefix_iff_eq_take.symm
  · have hd : decide ((xs.length : Int) ≤ (ys.length : Int)) = false := by rw [decide_eq_false_iff_not]; omega
    go_wp2_with fail
    go_ret
    refine ⟨ret_bool ?_, HB2.out⟩
    rw [Hv.out, eq_comm, decide_eq_false_iff_not]
    intro h
    exact hle h.length_le
end Go.Proofs.YtdjpcdimcjjemaaDoor
