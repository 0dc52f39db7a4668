/-
  Contracts of the library's functions on slices of pairs and of whole numbers: Clone, Equal, Index, Contains; of the document's 'has'. Conditions: the slices can be read.
-/
import Derived.Test.YtnabckcdffpimaaPair3
import Derived.Test.YtnabckcdffpimaaOwn
import Derived.Deep.QuietTactic
import Derived.BigQuiet
import Derived.Deep.RegionHeld3
namespace Go.Proofs.Ytnabckcdffpimaa
open Go.RowKit Ieee

/-- The cells of whole numbers. -/
abbrev i64s (zs : List Int) : List Value := zs.map (Value.int .i64)
theorem i64s_one (zs : List Int) : ∀ u ∈ i64s zs, u.oneCell' = true := ints_oneCell .i64 zs
theorem rd_of_cells {w : World} {x : Addr} {len cap : Nat} {zs : List Int} (hl : len ≤ cap) (hm : cap ≤ maxLen) (hz : zs.length = cap)
    (hcell : ∀ i, i < zs.length → w.cell? (x.add i) = some (.int .i64 (zs.getD i 0))) : Rd w 1 (some x) len cap (i64s (zs.take len)) := by
  refine ⟨by simp [i64s]; omega, hl, hm, (fun h => by cases h), fun ad e j u hj => ?_⟩
  injection e with e
  subst e
  have hjl : j < len := by have := (List.getElem?_eq_some_iff.1 hj).1; simp [i64s] at this; omega
  rw [hcell j (by omega)]
  rw [← hj]
  simp [i64s, List.getElem?_take, hjl, List.getD, show j < zs.length by omega]

theorem Try.info26 : (Try.prog.info? 26).map (fun i => (i.zero, i.size, i.bytes)) = some (some (.complex .f64 0 0), 1, 16) := by kernel_rfl
theorem Try.info3 : (Try.prog.info? 3).map (fun i => (i.zero, i.size, i.bytes)) = some (some (.int .i64 0), 1, 8) := by kernel_rfl

/-- Where x stands first, or -1. -/
def idx (l : List Int) (x : Int) : Int := match l.findIdx? (x == ·) with | some i => (i : Int) | none => -1

theorem idx_at {l : List Int} {x : Int} {k : Nat} (hk : k < l.length) (hx : (x == l[k]) = true) (hb : ∀ j, j < k → (x == l.getD j 0) = false) : idx l x = (k : Int) := by
  have : l.findIdx? (x == ·) = some k := by
    rw [List.findIdx?_eq_some_iff_getElem]
    exact ⟨hk, hx, fun j hj => by have := hb j hj; simp [List.getD, show j < l.length by omega] at this ⊢; exact this⟩
  simp [idx, this]
theorem idx_none {l : List Int} {x : Int} (hb : ∀ j, j < l.length → (x == l.getD j 0) = false) : idx l x = -1 := by
  have : l.findIdx? (x == ·) = none := by
    rw [List.findIdx?_eq_none_iff]
    intro y hy
    obtain ⟨j, hj, rfl⟩ := List.getElem_of_mem hy
    have := hb j hj
    simpa [List.getD, hj] using this
  simp [idx, this]
theorem idx_contains (l : List Int) (x : Int) : decide (0 ≤ idx l x) = l.contains x := by
  unfold idx
  cases h : l.findIdx? (x == ·) with
  | none =>
    rw [List.findIdx?_eq_none_iff] at h
    have : l.contains x = false := by
      rw [Bool.eq_false_iff]; intro hc
      have := h x (by simpa using hc)
      simp at this
    rw [this]; rfl
  | some i =>
    rw [List.findIdx?_eq_some_iff_getElem] at h
    obtain ⟨hi, hx, _⟩ := h
    have : l.contains x = true := by simp at hx ⊢; rw [hx]; exact List.getElem_mem hi
    rw [this]; simp

set_option maxHeartbeats 400000 in
theorem index_some (ad : Addr) (n c : Nat) (zs : List Int) (x : Int) (w : World) (hr : Rd w 1 (some ad) n c (i64s zs)) :
    Calls Try.prog 43 #[.slice (some ad) n c, .int .i64 x] w fun e w' => e = .returned (.int .i64 (idx zs x)) ∧ w = w' := by
  have hl := hr.intLen
  have hm := hr.max
  have hle := hr.le
  unfold maxLen at hm
  have Hr := hide hr; clear hr
  go_enter Try.func43, Try.ntmps43
  go_wp2
  go_loop [8] (fun i => ∃ k : Nat, k ≤ n ∧ i = .int .i64 k ∧ ∀ j, j < k → (x == zs.getD j 0) = false) (fun i => n - (intOf i).toNat)
  case atStart => exact ⟨0, Nat.zero_le _, rfl, by omega⟩
  case round =>
    obtain ⟨k, hk, rfl, hb⟩ := hrel
    by_cases hlt : k < n
    · obtain ⟨y, hy⟩ : ∃ y, y = zs.getD k 0 := ⟨_, rfl⟩
      have hcell : w.cell? (ad.add k) = some (.int .i64 y) := by rw [hy]; exact Hr.out.ints k hlt
      have Hy := hide hy; clear hy
      have Hb := hide hb; clear hb
      have Hl := hide hl; clear hl
      go_wp2
      · have hx : (x == y) = true := by assumption
        have hk' : k < zs.length := by rw [Hl.out]; exact hlt
        go_ret
        exact ⟨ret_int (idx_at hk' (by rw [Hy.out] at hx; simpa [List.getD, hk'] using hx) Hb.out).symm, rfl⟩
      · have hx : (x == y) = false := by assumption
        go_round
        case rel =>
          refine ⟨k + 1, by omega, by go_num, fun j hj => ?_⟩
          by_cases e : j = k
          · subst e; rw [← Hy.out]; exact hx
          · exact Hb.out j (by omega)
        case measure => simp [intOf]; omega
    · have Hb := hide hb; clear hb
      have Hl := hide hl; clear hl
      go_wp2
      go_ret
      exact ⟨ret_int (idx_none (fun j hj => Hb.out j (by rw [Hl.out] at hj; omega))).symm, rfl⟩

theorem index_any (A : Option Addr) (n c : Nat) (zs : List Int) (x : Int) (w : World) (hr : Rd w 1 A n c (i64s zs)) :
    Calls Try.prog 43 #[.slice A n c, .int .i64 x] w fun e w' => e = .returned (.int .i64 (idx zs x)) ∧ w = w' := by
  cases A with
  | some ad => exact index_some ad n c zs x w hr
  | none =>
    have hc := hr.nil0 rfl
    have hn : n = 0 := by have := hr.le; omega
    subst hc hn
    have hz : zs = [] := List.eq_nil_of_length_eq_zero hr.intLen
    subst hz
    clear hr
    go_enter Try.func43, Try.ntmps43
    go_wp2
    go_loop [8] (fun i => i = .int .i64 0) (fun _ => 0)
    case atStart => rfl
    case round =>
      subst hrel
      go_wp2
      go_ret
      exact ⟨rfl, rfl⟩

theorem contains_any (A : Option Addr) (n c : Nat) (zs : List Int) (x : Int) (w : World) (hr : Rd w 1 A n c (i64s zs)) :
    Calls Try.prog 36 #[.slice A n c, .int .i64 x] w fun e w' => e = .returned (.bool (zs.contains x)) ∧ w = w' := by
  have Hr := hide hr; clear hr
  go_enter Try.func36, Try.ntmps36
  go_wp2_with (go_at_call 43; refine (index_any _ _ _ _ _ _ Hr.out).mono ?_; rintro e w' ⟨rfl, rfl⟩)
  go_ret
  exact ⟨ret_bool (idx_contains zs x), rfl⟩

set_option maxHeartbeats 400000 in
theorem clone_any (A : Option Addr) (n c : Nat) (zs : List PN) (w : World) (hr : Rd w 1 A n c (pvs zs)) (hn : n ≤ 65536) :
    Calls Try.prog 35 #[.slice A n c] w fun e w' => ∃ v, e = .returned v ∧ w'.ownsRow w.heap.size 26 1 v n (pvs zs) ∧ Below w.heap.size w w' := by
  obtain ⟨i0, hi0, hz0, hz1, hz2⟩ := info_parts Try.info26
  have q22 := fun (w : World) (A : Option Addr) (n c : Nat) => Lib.run_eql_slice_nil (P := Try.prog) w 24 26 A n c 0 0 Try.underlying24
  cases A with
  | none =>
    have hc := hr.nil0 rfl
    have hn : n = 0 := by have := hr.le; omega
    subst hc hn
    have hz : zs = [] := List.eq_nil_of_length_eq_zero hr.pairLen
    subst hz
    clear hr
    go_enter Try.func35, Try.ntmps35
    go_wp2
    go_ret
    exact ⟨_, rfl, World.ownsRow_nil _ _ _ _, Below.refl _ _⟩
  | some ad =>
    have Hr := hide hr; clear hr
    go_enter Try.func35, Try.ntmps35
    go_wp2_with (at_builtin; refine wpList_append_rd _ rfl (.tmp 5) (.tmp 6) 24 rfl w.heap.size 26 i0 (.complex .f64 0 0) 1 16 Try.underlying24 hi0 hz0 hz1 hz2 rfl (by omega) (.slice (some ⟨w.heap.size, 0, none⟩) 0 0) 0 [] rfl (World.ownsRow_made w #[] 0 (Nat.le_refl _) (by simp [maxLen]) rfl) (some ad) n c (pvs zs) rfl (Hr.out.alloc _) (pvs_one _) (by simp only [maxLen]; omega) (by omega) (by simp) ?_; intro v1 w1 hown hg _)
    go_ret
    exact ⟨_, rfl, by simpa using hown, ((Below.refl _ _).alloc (Nat.le_refl _) _).grown hg (by simp) (by simp [Value.ownBlock])⟩
set_option maxHeartbeats 1000000 in
theorem equal_some (a b : Addr) (n c d : Nat) (l : List PN) (w : World) (hx : Rd w 1 (some a) n c (pvs l)) (hy : Rd w 1 (some b) n d (pvs l)) (hok : ∀ p ∈ l, okP p) :
    Calls Try.prog 37 #[.slice (some a) n c, .slice (some b) n d] w fun e w' => e = .returned (.bool true) ∧ ∃ q, w' = w.drewN q := by
  have hm := hx.max
  have hle := hx.le
  unfold maxLen at hm
  have Hx := hide hx; clear hx
  have Hy := hide hy; clear hy
  have Hok := hide hok; clear hok
  go_enter Try.func37, Try.ntmps37
  go_wp2
  go_loopw [13] (fun i wr => ∃ k q : Nat, k ≤ n ∧ i = .int .i64 k ∧ wr = w.drewN q) (fun i _ => n - (intOf i).toNat)
  case atStart => exact ⟨0, 0, Nat.zero_le _, rfl, rfl⟩
  case round =>
    obtain ⟨k, q, hk, rfl, rfl⟩ := hrel
    by_cases hlt : k < n
    · have hcx := Hx.out.pair k hlt
      have hcy := Hy.out.pair k hlt
      have ho := okP_getD Hok.out k
      obtain ⟨⟨x, y⟩, hxy⟩ : ∃ p : PN, l.getD k (0, 0) = p := ⟨_, rfl⟩
      rw [hxy] at hcx hcy ho
      simp only at hcx hcy
      have o1 : FloatKind.f64.format.order (fl x) (fl x) = some .eq := by rw [ord_fl x x (by have := ho.1; simp only at this; omega) (by have := ho.1; simp only at this; omega), cmp_same]
      have o2 : FloatKind.f64.format.order (fl y) (fl y) = some .eq := by rw [ord_fl y y (by have := ho.2; simp only at this; omega) (by have := ho.2; simp only at this; omega), cmp_same]
      clear ho hxy
      go_wp2
      go_quiet (fail)
      go_wp2
      refine ⟨⟨k + 1, q + nq, by omega, by go_num, rfl⟩, by simp [intOf]; omega⟩
    · go_wp2
      go_ret
      exact ⟨rfl, q, rfl⟩

/-- slices.Equal on the same pairs. -/
theorem equal_same (A B : Option Addr) (n c d : Nat) (l : List PN) (w : World) (hx : Rd w 1 A n c (pvs l)) (hy : Rd w 1 B n d (pvs l)) (hok : ∀ p ∈ l, okP p) :
    Calls Try.prog 37 #[.slice A n c, .slice B n d] w fun e w' => e = .returned (.bool true) ∧ Below w.heap.size w w' := by
  by_cases h0 : n = 0
  · subst h0
    clear hx hy
    go_enter Try.func37, Try.ntmps37
    go_wp2
    go_loop [13] (fun i => i = .int .i64 0) (fun _ => 0)
    case atStart => rfl
    case round =>
      subst hrel
      go_wp2
      go_ret
      exact ⟨rfl, Below.refl _ _⟩
  · obtain ⟨a, rfl⟩ := hx.isSome (by omega)
    obtain ⟨b, rfl⟩ := hy.isSome (by omega)
    refine (equal_some a b n c d l w hx hy hok).mono ?_
    rintro e w' ⟨rfl, q, rfl⟩
    exact ⟨rfl, below_drewN _ _ _⟩

theorem contains_at {l : List Int} {x : Int} {k : Nat} (hk : k < l.length) (hx : (l.getD k 0 == x) = true) : l.contains x = true := by
  simp [List.getD, hk] at hx ⊢
  rw [← hx]
  exact List.getElem_mem hk
theorem contains_none {l : List Int} {x : Int} (h : ∀ j, j < l.length → (l.getD j 0 == x) = false) : l.contains x = false := by
  rw [Bool.eq_false_iff]
  intro hc
  simp at hc
  obtain ⟨j, hj, rfl⟩ := List.getElem_of_mem hc
  have := h j hj
  simp [List.getD, hj] at this

set_option maxHeartbeats 400000 in
theorem has_any (A : Option Addr) (n c : Nat) (zs : List Int) (x : Int) (b : Bool) (w : World) (hr : Rd w 1 A n c (i64s zs)) (hb : zs.contains x = b) :
    Calls Try.prog 38 #[.slice A n c, .int .i64 x] w fun e w' => e = .returned (.bool b) ∧ w = w' := by
  have Hc := hide hb; clear hb
  have hl := hr.intLen
  have hm := hr.max
  have hle := hr.le
  unfold maxLen at hm
  have Hr := hide hr; clear hr
  have Hl := hide hl; clear hl
  go_enter Try.func38, Try.ntmps38
  go_wp2
  go_loop [9] (fun i => ∃ k : Nat, k ≤ n ∧ i = .int .i64 k ∧ ∀ j, j < k → (zs.getD j 0 == x) = false) (fun i => n - (intOf i).toNat)
  case atStart => exact ⟨0, Nat.zero_le _, rfl, by omega⟩
  case round =>
    obtain ⟨k, hk, rfl, hb⟩ := hrel
    have Hb := hide hb; clear hb
    by_cases hlt : k < n
    · obtain ⟨ad, rfl⟩ := Hr.out.isSome (by omega)
      obtain ⟨y, hy⟩ : ∃ y, y = zs.getD k 0 := ⟨_, rfl⟩
      have hcell : w.cell? (ad.add k) = some (.int .i64 y) := by rw [hy]; exact Hr.out.ints k hlt
      have Hy := hide hy; clear hy
      go_wp2
      · have hx : (y == x) = true := by assumption
        go_ret
        exact ⟨ret_bool (contains_at (k := k) (by rw [Hl.out]; exact hlt) (by rw [← Hy.out]; exact hx) ▸ Hc.out), rfl⟩
      · have hx : (y == x) = false := by assumption
        go_round
        case rel =>
          refine ⟨k + 1, by omega, by go_num, fun j hj => ?_⟩
          by_cases e : j = k
          · subst e; rw [← Hy.out]; exact hx
          · exact Hb.out j (by omega)
        case measure => simp [intOf]; omega
    · go_wp2
      go_ret
      exact ⟨ret_bool (contains_none (fun j hj => Hb.out j (by rw [Hl.out] at hj; omega)) ▸ Hc.out), rfl⟩

theorem has_yes (A : Option Addr) (n c : Nat) (zs : List Int) (x : Int) (w : World) (hr : Rd w 1 A n c (i64s zs)) (h : zs.contains x = true) :
    Calls Try.prog 38 #[.slice A n c, .int .i64 x] w fun e w' => e = .returned (.bool true) ∧ w = w' := has_any A n c zs x _ w hr h
theorem has_no (A : Option Addr) (n c : Nat) (zs : List Int) (x : Int) (w : World) (hr : Rd w 1 A n c (i64s zs)) (h : zs.contains x = false) :
    Calls Try.prog 38 #[.slice A n c, .int .i64 x] w fun e w' => e = .returned (.bool false) ∧ w = w' := has_any A n c zs x _ w hr h

theorem contains_yes (A : Option Addr) (n c : Nat) (zs : List Int) (x : Int) (w : World) (hr : Rd w 1 A n c (i64s zs)) (h : zs.contains x = true) :
    Calls Try.prog 36 #[.slice A n c, .int .i64 x] w fun e w' => e = .returned (.bool true) ∧ w = w' := h ▸ contains_any A n c zs x w hr
theorem contains_no (A : Option Addr) (n c : Nat) (zs : List Int) (x : Int) (w : World) (hr : Rd w 1 A n c (i64s zs)) (h : zs.contains x = false) :
    Calls Try.prog 36 #[.slice A n c, .int .i64 x] w fun e w' => e = .returned (.bool false) ∧ w = w' := h ▸ contains_any A n c zs x w hr
end Go.Proofs.Ytnabckcdffpimaa
