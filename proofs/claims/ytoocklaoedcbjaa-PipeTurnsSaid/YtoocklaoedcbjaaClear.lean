/-
  Contracts of Clear, and of IndexFunc and DeleteFunc with its test. Conditions: the slices can be read, and are short.
-/
import Derived.Test.YtoocklaoedcbjaaLose
namespace Go.Proofs.Ytoocklaoedcbjaa
open Go.RowKit

abbrev isTo (to : Int) (x : Item) : Bool := x.1 == to
abbrev notTo (to : Int) (x : Item) : Bool := !(x.1 == to)
/-- The test of Clear, as a value: it holds the variable in block pb. -/
abbrev testV (pb : Nat) : Value := .func (.func 21) #[] #[.pointer (some ⟨pb, 0, none⟩)]

set_option maxHeartbeats 400000 in
theorem test_any (a : Int) (s : ByteArray) (pb : Nat) (to : Int) (w : World) (hp : w.cell? ⟨pb, 0, none⟩ = some (.int .u64 to)) (b : Bool) (hb : (a == to) = b) :
    Calls Try.prog 21 #[itemV (a, s), .pointer (some ⟨pb, 0, none⟩)] w fun e w' => e = .returned (.bool b) ∧ Below w.heap.size w w' := by
  have hp2 : (w.alloc (.cells #[.int .u64 a, .string s] 32)).cell? ⟨pb, 0, none⟩ = some (.int .u64 to) := cell_later ((Below.refl _ _).alloc (Nat.le_refl _) _) hp
  clear hp
  go_enter Try.func21, Try.ntmps21
  go_wp2
  go_ret
  exact ⟨rfl, (Below.refl _ _).alloc (Nat.le_refl _) _⟩

/-- Where one for 'to' stands first, or -1. -/
def fidx (l : List Item) (to : Int) : Int := match l.findIdx? (isTo to) with | some i => (i : Int) | none => -1
theorem fidx_at {l : List Item} {to : Int} {k : Nat} {x : Item} (hk : l[k]? = some x) (hx : (x.1 == to) = true) (hb : ∀ (j : Nat) (y : Item), j < k → l[j]? = some y → (y.1 == to) = false) : fidx l to = (k : Int) := by
  have hkl : k < l.length := (List.getElem?_eq_some_iff.1 hk).1
  have : l.findIdx? (isTo to) = some k := by
    rw [List.findIdx?_eq_some_iff_getElem]
    refine ⟨hkl, ?_, fun j hj => ?_⟩
    · rw [(List.getElem?_eq_some_iff.1 hk).2]; exact hx
    · have := hb j l[j] hj (by simp)
      simp [isTo, this]
  simp [fidx, this]
theorem fidx_none {l : List Item} {to : Int} (hb : ∀ (j : Nat) (y : Item), l[j]? = some y → (y.1 == to) = false) : fidx l to = -1 := by
  have : l.findIdx? (isTo to) = none := by
    rw [List.findIdx?_eq_none_iff]
    intro y hy
    obtain ⟨j, hj, rfl⟩ := List.getElem_of_mem hy
    exact hb j _ (by simp)
  simp [fidx, this]

set_option maxHeartbeats 1000000 in
theorem indexFunc_any (A : Option Addr) (n c : Nat) (l : List Item) (pb : Nat) (to : Int) (w : World) (hr : Rd w 2 A n c (itemCells l)) (hn : n ≤ 65536) (hp : w.cell? ⟨pb, 0, none⟩ = some (.int .u64 to)) :
    Calls Try.prog 25 #[.slice A n c, testV pb] w fun e w' => e = .returned (.int .i64 (fidx l to)) ∧ Below w.heap.size w w' := by
  have hl := hr.itemLen
  have Hr := hide hr; clear hr
  have Hl := hide hl; clear hl
  have Hp := hide hp; clear hp
  go_enter Try.func25, Try.ntmps25
  go_wp2_with fail
  go_loopw [8] (fun i wr => ∃ k : Nat, k ≤ n ∧ i = .int .i64 k ∧ (∀ (j : Nat) (y : Item), j < k → l[j]? = some y → (y.1 == to) = false) ∧ Below w.heap.size w wr) (fun i _ => n - (intOf i).toNat)
  case atStart => exact ⟨0, Nat.zero_le _, rfl, by omega, Below.refl _ _⟩
  case round =>
    obtain ⟨k, hk, rfl, hb, hbel⟩ := hrel
    have Hb := hide hb; clear hb
    have Hbel := hide hbel; clear hbel
    by_cases hlt : k < n
    · obtain ⟨⟨bb, o, sp⟩, rfl⟩ := Hr.out.isSome (by omega)
      have hkl : k < l.length := by rw [Hl.out]; exact hlt
      obtain ⟨x, hx⟩ : ∃ x, l[k]? = some x := ⟨l[k], by simp [hkl]⟩
      obtain ⟨rfl, hx0, hx1⟩ := Hr.out.items k x hx
      obtain ⟨a, s⟩ := x
      have x0 := cell_later Hbel.out hx0
      have x1 := cell_later Hbel.out hx1
      have Hx := hide hx
      have Hp1 := hide (cell_later Hbel.out Hp.out)
      clear hx0 hx1 hx hkl
      simp only at x0 x1
      cases he : (a == to) with
      | true =>
        have He := hide he
        clear he
        go_wp2_with fail
        refine (test_any a s pb to _ Hp1.out true He.out).mono ?_
        rintro e w1 ⟨rfl, hb1⟩
        have Hb1 := hide (Hbel.out.trans (hb1.mono Hbel.out.size))
        clear hb1
        go_wp2_with fail
        go_ret
        exact ⟨ret_int (fidx_at Hx.out He.out Hb.out).symm, Hb1.out⟩
      | false =>
        have He := hide he
        clear he
        go_wp2_with fail
        refine (test_any a s pb to _ Hp1.out false He.out).mono ?_
        rintro e w1 ⟨rfl, hb1⟩
        have Hb1 := hide (Hbel.out.trans (hb1.mono Hbel.out.size))
        clear hb1
        go_wp2_with fail
        go_roundw
        case rel =>
          refine ⟨k + 1, by omega, by go_num, fun j y hj hy => ?_, Hb1.out⟩
          by_cases e : j = k
          · subst e
            rw [Hx.out] at hy
            injection hy with hy
            subst hy
            exact He.out
          · exact Hb.out j y (by omega) hy
        case measure => simp [intOf]; omega
    · go_wp2_with fail
      go_ret
      exact ⟨ret_int (fidx_none (fun j y hy => Hb.out j y (by have := (List.getElem?_eq_some_iff.1 hy).1; rw [Hl.out] at this; omega) hy)).symm, Hbel.out⟩

theorem items_set (l : List Item) (k : Nat) (x : Item) : itemCells (l.set k x) = ((itemCells l).set (k * 2) (.int .u64 x.1)).set (k * 2 + 1) (.string x.2) := by
  induction l generalizing k with
  | nil => simp [itemCells]
  | cons a l ih =>
    cases k with
    | zero => simp [itemCells, List.flatMap_cons]
    | succ k =>
      have := ih k
      rw [show (k + 1) * 2 = k * 2 + 1 + 1 by omega]
      simp [itemCells, List.flatMap_cons] at this ⊢
      rw [this]

theorem fidx_cases (l : List Item) (to : Int) : (fidx l to = -1 ∧ l.filter (notTo to) = l) ∨ ∃ i : Nat, fidx l to = (i : Int) ∧ i < l.length ∧ (l.take (i + 1)).filter (notTo to) = l.take i := by
  unfold fidx
  cases h : l.findIdx? (isTo to) with
  | none =>
    left
    rw [List.findIdx?_eq_none_iff] at h
    refine ⟨rfl, ?_⟩
    rw [List.filter_eq_self]
    intro y hy
    have := h y hy
    simp [notTo, isTo] at this ⊢
    exact this
  | some i =>
    right
    rw [List.findIdx?_eq_some_iff_getElem] at h
    obtain ⟨hi, hx, hb⟩ := h
    refine ⟨i, rfl, hi, ?_⟩
    rw [List.take_succ_eq_append_getElem hi, List.filter_append]
    have h1 : [l[i]].filter (notTo to) = [] := by
      simp [isTo] at hx
      simp [notTo, hx]
    have h2 : (l.take i).filter (notTo to) = l.take i := by
      rw [List.filter_eq_self]
      intro y hy
      obtain ⟨j, hj, rfl⟩ := List.getElem_of_mem hy
      have hj' : j < i := by simp at hj; omega
      have := hb j hj'
      simp [isTo] at this
      simp [notTo, this]
    rw [h1, h2, List.append_nil]

/-- What is kept of the first j. -/
abbrev kept (l : List Item) (to : Int) (j : Nat) : List Item := (l.take j).filter (notTo to)
theorem kept_len (l : List Item) (to : Int) (j : Nat) : (kept l to j).length ≤ j := Nat.le_trans (List.length_filter_le _ _) (List.length_take_le _ _)
theorem kept_succ (l : List Item) (to : Int) (j : Nat) (x : Item) (hx : l[j]? = some x) : kept l to (j + 1) = kept l to j ++ (if (x.1 == to) = true then [] else [x]) := by
  have hj := (List.getElem?_eq_some_iff.1 hx).1
  have e := (List.getElem?_eq_some_iff.1 hx).2
  unfold kept
  rw [List.take_succ_eq_append_getElem hj, List.filter_append, e]
  by_cases h : (x.1 == to) = true
  · rw [if_pos h]; simp [notTo, h]
  · rw [if_neg h]; simp [notTo, h]
/-- The row while it is being cut: what is kept, then what stood there. -/
abbrev rowAt (l : List Item) (to : Int) (j : Nat) : List Item := kept l to j ++ l.drop (kept l to j).length
theorem rowAt_len (l : List Item) (to : Int) (j : Nat) (hj : j ≤ l.length) : (rowAt l to j).length = l.length := by
  have := kept_len l to j
  simp only [rowAt, List.length_append, List.length_drop]
  omega
theorem rowAt_at (l : List Item) (to : Int) (j : Nat) (x : Item) (hx : l[j]? = some x) : (rowAt l to j)[j]? = some x := by
  have := kept_len l to j
  simp only [rowAt]
  rw [List.getElem?_append_right this, List.getElem?_drop]
  rw [show (kept l to j).length + (j - (kept l to j).length) = j by omega]
  exact hx
theorem rowAt_skip (l : List Item) (to : Int) (j : Nat) (x : Item) (hx : l[j]? = some x) (h : (x.1 == to) = true) : rowAt l to (j + 1) = rowAt l to j := by
  have := kept_succ l to j x hx
  rw [if_pos h, List.append_nil] at this
  simp only [rowAt, this]
theorem rowAt_take (l : List Item) (to : Int) (j : Nat) (x : Item) (hx : l[j]? = some x) (h : (x.1 == to) = false) : rowAt l to (j + 1) = (rowAt l to j).set (kept l to j).length x := by
  have hk := kept_succ l to j x hx
  rw [if_neg (by simp [h])] at hk
  have hl := kept_len l to j
  have hj := (List.getElem?_eq_some_iff.1 hx).1
  simp only [rowAt, hk, List.length_append, List.length_singleton]
  rw [List.set_append_right _ _ (Nat.le_refl _), Nat.sub_self, List.append_assoc]
  congr 1
  have hd : l.drop (kept l to j).length = l[(kept l to j).length]'(by omega) :: l.drop ((kept l to j).length + 1) := List.drop_eq_getElem_cons (by omega)
  rw [hd, List.set_cons_zero]
  rfl

set_option maxRecDepth 100000 in
set_option maxHeartbeats 4000000 in
theorem deleteFunc_own (g n cap base : Nat) (l : List Item) (pb : Nat) (to : Int) (w : World) (hn : n ≤ 65536) (ho : w.ownsRow base 32 2 (.slice (some ⟨g, 0, none⟩) n cap) n (itemCells l)) (hp : w.cell? ⟨pb, 0, none⟩ = some (.int .u64 to)) (hpg : pb ≠ g) (lf : List Item) (hlf : l.filter (notTo to) = lf) :
    Calls Try.prog 20 #[.slice (some ⟨g, 0, none⟩) n cap, testV pb] w fun e w' => e = .returned (.slice (some ⟨g, 0, none⟩) lf.length cap) ∧ w'.ownsRow base 32 2 (.slice (some ⟨g, 0, none⟩) lf.length cap) lf.length (itemCells lf) ∧ w.grownBy w' (some g) := by
  obtain ⟨i0, hi0, hz0, hz1, hz2⟩ := info_parts Try.info32
  have hr := Rd.of_own ho
  have hl := hr.itemLen
  have hcap := hr.le
  have hm := hr.max
  unfold maxLen at hm
  have Hr := hide hr
  have Ho := hide ho
  have Hl := hide hl
  have Hp := hide hp
  have Hlf := hide hlf
  have Hpg := hide hpg
  have hone : ∀ u ∈ (Value.agg #[.int .u64 0, .string ⟨#[]⟩]).cells, u.oneCell' = true := by simp [Value.cells, Value.oneCell']
  have Hone := hide hone
  clear hr ho hl hp hlf hpg hone
  rcases fidx_cases l to with ⟨hf, hfl⟩ | ⟨i, hf, hil, hfl⟩
  · have Hf := hide (hf ▸ indexFunc_any _ _ _ l pb to w Hr.out hn Hp.out)
    have hll : lf = l := by rw [← Hlf.out, hfl]
    subst hll
    have Hl2 := Hl
    clear hf hfl Hlf
    go_enter Try.func20, Try.ntmps20
    go_wp2_with fail
    refine (Hf.out).mono ?_
    rintro e w1 ⟨rfl, hb1⟩
    have Hb1 := hide hb1
    clear hb1
    go_wp2_with fail
    go_ret
    rw [Hl.out]
    refine ⟨rfl, own_below Ho.out Hb1.out (Nat.le_refl _), ⟨Hb1.out.os, Hb1.out.tape, Hb1.out.output, Hb1.out.size, fun k hk _ => Hb1.out.block k hk⟩⟩
  · have Hf := hide (hf ▸ indexFunc_any _ _ _ l pb to w Hr.out hn Hp.out)
    have hin : i < n := by rw [Hl.out] at hil; exact hil
    have hk1 : (kept l to (i + 1)).length = i := by
      show ((l.take (i + 1)).filter (notTo to)).length = i
      rw [hfl, List.length_take]
      omega
    have hrow : rowAt l to (i + 1) = l := by
      have h : kept l to (i + 1) = l.take i := hfl
      simp only [rowAt, h]
      rw [List.length_take, Nat.min_eq_left (by omega), List.take_append_drop]
    have Hk1 := hide hk1
    have Hrow := hide hrow
    have hne : ((i : Int) == -1) = false := by rw [beq_eq_false_iff_ne]; omega
    clear hf hfl hil hk1 hrow
    go_enter Try.func20, Try.ntmps20
    go_wp2_with fail
    refine (Hf.out).mono ?_
    rintro e w1 ⟨rfl, hb1⟩
    have Ho1 := hide (own_below Ho.out hb1 (Nat.le_refl _))
    have Hg1 := hide (show w.grownBy w1 (some g) from ⟨hb1.os, hb1.tape, hb1.output, hb1.size, fun k hk _ => hb1.block k hk⟩)
    clear hb1 Hf
    go_wp2_with fail
    go_loopw [5, 6] (fun a b wr => ∃ j : Nat, i + 1 ≤ j ∧ j ≤ n ∧ b = .int .i64 j ∧ a = .int .i64 (kept l to j).length ∧ (kept l to j).length + 1 ≤ j ∧
        wr.ownsRow base 32 2 (.slice (some ⟨g, 0, none⟩) n cap) n (itemCells (rowAt l to j)) ∧ w.grownBy wr (some g)) (fun _ b _ => n - (intOf b).toNat)
    case atStart => exact ⟨i + 1, Nat.le_refl _, by omega, by go_num, by rw [Hk1.out], by rw [Hk1.out]; omega, by rw [Hrow.out]; exact Ho1.out, Hg1.out⟩
    case round =>
      clear Ho1 Hg1 Hk1 Hrow
      obtain ⟨j, hj1, hj, rfl, rfl, hkl, ho, hg⟩ := hrel
      have Ho := hide ho
      have Hg := hide hg
      clear ho hg
      obtain ⟨q, hq⟩ : ∃ q, (kept l to j).length = q := ⟨_, rfl⟩
      rw [hq] at hkl
      rw [hq]
      have Hq := hide hq
      clear hq
      by_cases hlt : j < n
      · have hjl : j < l.length := by rw [Hl.out]; exact hlt
        obtain ⟨x, hx⟩ : ∃ x, l[j]? = some x := ⟨l[j], by simp [hjl]⟩
        have hrl := rowAt_len l to j (by omega)
        obtain ⟨y, hy⟩ : ∃ y, (rowAt l to j)[q]? = some y := ⟨(rowAt l to j)[q]'(by rw [hrl]; omega), by simp⟩
        obtain ⟨_, x0, x1⟩ := (Rd.of_own Ho.out).items j x (rowAt_at l to j x hx)
        obtain ⟨_, y0, y1⟩ := (Rd.of_own Ho.out).items q y hy
        rw [Nat.zero_add] at x0 x1 y0 y1
        have z0 := Ho.out.frozenAt (q * 2)
        have z1 := Ho.out.frozenAt (q * 2 + 1)
        have hgs : g < wr.heap.size := World.block_lt_of_cell? _ _ x0
        obtain ⟨a, s⟩ := x
        simp only at x0 x1
        have hnb := hide ((Below.refl wr.heap.size wr).alloc (Nat.le_refl _) (.cells #[.int .u64 a, .string s] 32))
        have Hp1 := hide (cell_later hnb.out (Hg.out.cell Hp.out (by intro e; injection e with e; exact Hpg.out e)))
        have Y0 := hide (cell_later hnb.out y0)
        have Y1 := hide (cell_later hnb.out y1)
        have Z0 := hide ((hnb.out.frozen (p := ⟨g, q * 2, none⟩) hgs).trans z0)
        have Z1 := hide ((hnb.out.frozen (p := ⟨g, q * 2 + 1, none⟩) hgs).trans z1)
        have Hx := hide hx
        clear y0 y1 z0 z1 hx hy hrl hjl
        have hgsz : g < (wr.alloc (.cells #[.int .u64 a, .string s] 32)).heap.size := by simp; omega
        cases he : (a == to) with
        | true =>
          have He := hide he
          clear he Y0 Y1 Z0 Z1
          go_wp2_with fail
          refine (test_any a s pb to _ Hp1.out true He.out).mono ?_
          rintro e w2 ⟨rfl, hb2⟩
          have Ho2 := hide (own_below (own_below Ho.out hnb.out (Nat.le_refl _)) hb2 (Nat.le_refl _))
          have Hg2 := hide (Hg.out.trans (World.grownBy.trans (World.grownBy_alloc wr (.cells #[.int .u64 a, .string s] 32) (some g)) (show (wr.alloc (.cells #[.int .u64 a, .string s] 32)).grownBy w2 (some g) from ⟨hb2.os, hb2.tape, hb2.output, hb2.size, fun k hk _ => hb2.block k hk⟩)))
          clear hb2 x0 x1
          go_wp2_with fail
          go_roundw
          case rel =>
            have h := kept_succ l to j _ Hx.out
            rw [if_pos He.out, List.append_nil] at h
            refine ⟨j + 1, by omega, by omega, by go_num, ?_, by rw [h, Hq.out]; omega, ?_, Hg2.out⟩
            · rw [h, Hq.out]
            · rw [rowAt_skip l to j _ Hx.out He.out]
              exact Ho2.out
          case measure => simp [intOf]; omega
        | false =>
          have He := hide he
          clear he
          have b0 : (wr.alloc (.cells #[.int .u64 a, .string s] 32)).cell? ⟨wr.heap.size, 0, none⟩ = some (.int .u64 a) := by go_simp
          have b1 : (wr.alloc (.cells #[.int .u64 a, .string s] 32)).cell? ⟨wr.heap.size, 1, none⟩ = some (.string s) := by go_simp
          have B0 := hide b0
          have B1 := hide b1
          clear b0 b1
          go_wp2_with fail
          refine (test_any a s pb to _ Hp1.out false He.out).mono ?_
          rintro e w2 ⟨rfl, hb2⟩
          have Ho2 := hide (own_below (own_below Ho.out hnb.out (Nat.le_refl _)) hb2 (Nat.le_refl _))
          have Hg2 := hide (Hg.out.trans (World.grownBy.trans (World.grownBy_alloc wr (.cells #[.int .u64 a, .string s] 32) (some g)) (show (wr.alloc (.cells #[.int .u64 a, .string s] 32)).grownBy w2 (some g) from ⟨hb2.os, hb2.tape, hb2.output, hb2.size, fun k hk _ => hb2.block k hk⟩)))
          have y0 := cell_later hb2 Y0.out
          have y1 := cell_later hb2 Y1.out
          have z0 := (hb2.frozen (p := ⟨g, q * 2, none⟩) hgsz).trans Z0.out
          have z1 := (hb2.frozen (p := ⟨g, q * 2 + 1, none⟩) hgsz).trans Z1.out
          have b0 := cell_later hb2 B0.out
          have b1 := cell_later hb2 B1.out
          have hq0 : (0 : Int) ≤ (q : Int) := by omega
          have hq1 : (q : Int) < (n : Int) := by omega
          clear hb2 x0 x1
          go_wp2_with fail
          have h3 := Ho2.out.stored (q * 2) (.int .u64 a)
          have h4 := h3.1.stored (q * 2 + 1) (.string s)
          have Ho4 := hide h4.1
          have Hg4 := hide (Hg2.out.trans (h3.2.trans h4.2))
          clear h3 h4
          go_roundw
          case rel =>
            have h := kept_succ l to j _ Hx.out
            rw [if_neg (by simp [He.out])] at h
            refine ⟨j + 1, by omega, by omega, by go_num, ?_, by rw [h, List.length_append, Hq.out, List.length_singleton]; omega, ?_, Hg4.out⟩
            · rw [h, List.length_append, Hq.out]
              go_num
            · rw [rowAt_take l to j _ Hx.out He.out, items_set, Hq.out]
              exact Ho4.out
          case measure => simp [intOf]; omega
      · obtain rfl : j = n := by omega
        have hkf : kept l to j = lf := by
          show (l.take j).filter (notTo to) = lf
          rw [← Hl.out, List.take_length, Hlf.out]
        have hqf : lf.length = q := by rw [← hkf, Hq.out]
        have hrow : (itemCells (rowAt l to j)).take (q * 2) = itemCells lf := by
          rw [items_take]
          simp only [rowAt, hkf]
          rw [List.take_append_of_le_length (by omega), List.take_of_length_le (by omega)]
        have hsh := own_shorter Ho.out (k := q) (by omega)
        rw [hrow] at hsh
        have Hsh := hide hsh
        have Hqf := hide hqf
        clear hsh hrow hqf hkf hlt hj
        have hq0 : (0 : Int) ≤ (q : Int) := by omega
        have hq1 : (q : Int) ≤ (j : Int) := by omega
        have hq2 : (q : Int) ≤ (cap : Int) := by omega
        have hq3 : ¬ cap = q := by omega
        go_wp2_with ((refine wpList_clear_own _ rfl (.tmp 38) 24 rfl base 32 i0 _ 2 Try.underlying24 hi0 hz0 rfl (by decide) Hone.out g q cap _ Hsh.out _ (j - q) (cap - q) rfl ?hA (by omega) ?_; rotate_left; intro w3 hown3 hg3))
        · go_ret
          rw [Hqf.out]
          exact ⟨rfl, hown3, Hg.out.trans hg3⟩

set_option maxHeartbeats 1000000 in
theorem deleteFunc_nil (pb : Nat) (to : Int) (w : World) (hp : w.cell? ⟨pb, 0, none⟩ = some (.int .u64 to)) :
    Calls Try.prog 20 #[.slice none 0 0, testV pb] w fun e w' => e = .returned (.slice none 0 0) ∧ Below w.heap.size w w' := by
  have Hp := hide hp
  clear hp
  go_enter Try.func20, Try.ntmps20
  go_wp2_with fail
  refine (indexFunc_any none 0 0 [] pb to w (Rd.nil_ _ _) (by omega) Hp.out).mono ?_
  rintro e w1 ⟨rfl, hb1⟩
  have Hb1 := hide hb1
  clear hb1
  go_wp2_with fail
  go_ret
  exact ⟨rfl, Hb1.out⟩

set_option maxHeartbeats 1000000 in
theorem clear_any (A : Option Addr) (n c : Nat) (l lf : List Item) (to : Int) (w : World) (hr : Rd w 2 A n c (itemCells l)) (hn : n ≤ 65536) (hlf : l.filter (notTo to) = lf) :
    Calls Try.prog 9 #[pv A n c, .int .u64 to] w fun e w' => ∃ A' c', e = .returned (pv A' lf.length c') ∧ Rd w' 2 A' lf.length c' (itemCells lf) ∧ (∀ ad, A' = some ad → w.heap.size ≤ ad.block) ∧ Below w.heap.size w w' := by
  have hl := hr.itemLen
  have Hlf := hide hlf
  have Hl := hide hl
  have Hr := hide (((hr.alloc (.cells #[.slice A n c] 26)).alloc (.cells #[.int .u64 to] 28)).alloc (.cells #[.slice none 0 0] 26))
  clear hr hlf hl
  go_enter Try.func9, Try.ntmps9
  go_wp2_with fail
  refine (clone_any A n c l _ Hr.out hn).mono ?_
  rintro e w1 ⟨v1, rfl, ho1, hb1⟩
  have hp := cell_later (a := ⟨w.heap.size + 1, 0, none⟩) (v := .int .u64 to) hb1 (by go_simp)
  have r0 := cell_later (a := ⟨w.heap.size + 2, 0, none⟩) (v := .slice none 0 0) hb1 (by go_simp)
  have f0 : w1.frozen? ⟨w.heap.size + 2, 0, none⟩ = false := (hb1.frozen (p := ⟨w.heap.size + 2, 0, none⟩) (by simp)).trans (by go_simp)
  have hbl : Below w.heap.size w w1 := ((((Below.refl _ _).alloc (Nat.le_refl _) _).alloc (by simp) _).alloc (by simp; omega) _).trans (hb1.mono (by simp; omega))
  have Hp := hide hp
  have R0 := hide r0
  have F0 := hide f0
  have Hbl := hide hbl
  have Ho1 := hide (own_mono' ho1 (base' := w.heap.size + 3) (by simp))
  have hs1 : w.heap.size + 3 ≤ w1.heap.size := by have := hb1.size; simpa using this
  clear hp r0 f0 hbl ho1 hb1
  by_cases hv : v1 = .slice none 0 0
  · subst hv
    have hln : n = 0 := by
      rcases Ho1.out.2 with ⟨_, h⟩ | ⟨g, cap, cur, h, _⟩
      · exact h
      · cases h
    have hl0 : l = [] := List.eq_nil_of_length_eq_zero (by rw [Hl.out]; exact hln)
    have hlf0 : lf = [] := by rw [← Hlf.out, hl0]; rfl
    subst hlf0
    clear hln hl0 Hlf Hl Ho1 Hr
    go_wp2_with fail
    refine (deleteFunc_nil (w.heap.size + 1) to _ Hp.out).mono ?_
    rintro e w2 ⟨rfl, hb2⟩
    have r0 := cell_later hb2 R0.out
    have f0 := (hb2.frozen (p := ⟨w.heap.size + 2, 0, none⟩) (by simp; omega)).trans F0.out
    have Hb2 := hide (Hbl.out.trans (hb2.mono Hbl.out.size))
    clear hb2
    go_wp2_with fail
    refine bodyPost_ret (v := pv none 0 0) (by simp [results, Try.results9, go_sem, r0]) rfl ⟨none, 0, rfl, Rd.nil_ _ _, (fun ad h => by cases h), ?_⟩
    exact Hb2.out.setCell (p := ⟨w.heap.size + 2, 0, none⟩) (by simp) _
  · obtain ⟨g, cap, rfl, hg1, hg2⟩ : ∃ g cap, v1 = .slice (some ⟨g, 0, none⟩) n cap ∧ w.heap.size + 3 ≤ g ∧ g < w1.heap.size := by
      rcases Ho1.out.2 with ⟨h, _⟩ | ⟨g, cap, cur, h, hb, hg, _⟩
      · exact absurd h hv
      · exact ⟨g, cap, h, hb, (Array.getElem?_eq_some_iff.1 hg).1⟩
    clear hv
    go_wp2_with fail
    refine (deleteFunc_own g n cap (w.heap.size + 3) l (w.heap.size + 1) to _ hn Ho1.out Hp.out (by omega) lf Hlf.out).mono ?_
    rintro e w2 ⟨rfl, ho2, hgr2⟩
    have r0 : w2.cell? ⟨w.heap.size + 2, 0, none⟩ = some (.slice none 0 0) := hgr2.cell R0.out (by intro e; injection e with e; simp only at e; omega)
    have f0 : w2.frozen? ⟨w.heap.size + 2, 0, none⟩ = false := (World.frozen?_of_block (hgr2.block (w.heap.size + 2) (by omega) (by intro e; injection e with e; omega))).trans F0.out
    have Hr2 := hide (Rd.of_own ho2)
    have Hb2 := hide (Hbl.out.grown hgr2 Hbl.out.size (fun k e => by injection e with e; omega))
    clear ho2 hgr2
    go_wp2_with fail
    refine bodyPost_ret (v := pv (some ⟨g, 0, none⟩) lf.length cap) (by simp [results, Try.results9, go_sem, r0]) rfl ⟨_, cap, rfl, ?_, ?_, ?_⟩
    · refine Hr2.out.setCell (p := ⟨w.heap.size + 2, 0, none⟩) _ ?_
      intro _ ad e
      injection e with e
      subst e
      simp only
      omega
    · intro ad e
      injection e with e
      subst e
      simp only
      omega
    · exact Hb2.out.setCell (p := ⟨w.heap.size + 2, 0, none⟩) (by simp) _
end Go.Proofs.Ytoocklaoedcbjaa
