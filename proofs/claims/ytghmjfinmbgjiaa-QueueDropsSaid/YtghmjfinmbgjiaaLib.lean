/-
  Contracts of the library's functions on slices of uint64 that this seat's laws call: Index, Contains, Clone, Equal. Conditions: the slices can be read.
-/
import Derived.Test.YtghmjfinmbgjiaaProg
import Derived.Test.YtghmjfinmbgjiaaOwn
import Derived.Deep.QuietTactic
import Derived.BigQuiet
import Derived.Deep.RegionHeld3
namespace Go.Proofs.Ytghmjfinmbgjiaa
open Go.RowKit

/-- The cells of numbers of 64 bits. -/
abbrev u64s (zs : List Int) : List Value := zs.map (Value.int .u64)
theorem u64s_one (zs : List Int) : ∀ u ∈ u64s zs, u.oneCell' = true := ints_oneCell .u64 zs

theorem rd_of_cells {w : World} {x : Addr} {len cap : Nat} {zs : List Int} (hl : len ≤ cap) (hm : cap ≤ maxLen) (hz : zs.length = cap)
    (hcell : ∀ i, i < zs.length → w.cell? (x.add i) = some (.int .u64 (zs.getD i 0))) : Rd w 1 (some x) len cap (u64s (zs.take len)) := by
  refine ⟨by simp [u64s]; omega, hl, hm, (fun h => by cases h), fun ad e j u hj => ?_⟩
  injection e with e
  subst e
  have hjl : j < len := by have := (List.getElem?_eq_some_iff.1 hj).1; simp [u64s] at this; omega
  rw [hcell j (by omega)]
  rw [← hj]
  simp [u64s, List.getElem?_take, hjl, List.getD, show j < zs.length by omega]

theorem Try.info29 : (Try.prog.info? 29).map (fun i => (i.zero, i.size, i.bytes)) = some (some (.int .u64 0), 1, 8) := by kernel_rfl

/-- Where x stands first, or -1. -/
def idx (l : List Int) (x : Int) : Int := match l.findIdx? (x == ·) with | some i => (i : Int) | none => -1

theorem idx_at {l : List Int} {x : Int} {k : Nat} (hk : k < l.length) (hx : (x == l[k]) = true) (hb : ∀ j, j < k → (x == l.getD j 0) = false) : idx l x = (k : Int) := by
  have : l.findIdx? (x == ·) = some k := by
    rw [List.findIdx?_eq_some_iff_getElem]
    exact ⟨hk, hx, fun j hj => by have := hb j hj; simp [List.getD, show j < l.length by omega] at this ⊢; exact this⟩
  simp [idx, this]
theorem idx_none {l : List Int} {x : Int} (hb : ∀ j, j < l.length → (x == l.getD j 0) = false) : idx l x = -1 := by
  have : l.findIdx? (x == ·) = none := by
    rw [List.findIdx?_eq_none_iff]
    intro y hy
    obtain ⟨j, hj, rfl⟩ := List.getElem_of_mem hy
    have := hb j hj
    simpa [List.getD, hj] using this
  simp [idx, this]
theorem idx_contains (l : List Int) (x : Int) : decide (0 ≤ idx l x) = l.contains x := by
  unfold idx
  cases h : l.findIdx? (x == ·) with
  | none =>
    rw [List.findIdx?_eq_none_iff] at h
    have : l.contains x = false := by
      rw [Bool.eq_false_iff]; intro hc
      have := h x (by simpa using hc)
      simp at this
    rw [this]; rfl
  | some i =>
    rw [List.findIdx?_eq_some_iff_getElem] at h
    obtain ⟨hi, hx, _⟩ := h
    have : l.contains x = true := by simp at hx ⊢; rw [hx]; exact List.getElem_mem hi
    rw [this]; simp

set_option maxHeartbeats 400000 in
theorem index_some (ad : Addr) (n c : Nat) (zs : List Int) (x : Int) (w : World) (hr : Rd w 1 (some ad) n c (u64s zs)) :
    Calls Try.prog 23 #[.slice (some ad) n c, .int .u64 x] w fun e w' => e = .returned (.int .i64 (idx zs x)) ∧ w = w' := by
  have hl := hr.intLen
  have hm := hr.max
  have hle := hr.le
  unfold maxLen at hm
  have Hr := hide hr; clear hr
  go_enter Try.func23, Try.ntmps23
  go_wp2
  go_loop [8] (fun i => ∃ k : Nat, k ≤ n ∧ i = .int .i64 k ∧ ∀ j, j < k → (x == zs.getD j 0) = false) (fun i => n - (intOf i).toNat)
  case atStart => exact ⟨0, Nat.zero_le _, rfl, by omega⟩
  case round =>
    obtain ⟨k, hk, rfl, hb⟩ := hrel
    by_cases hlt : k < n
    · obtain ⟨y, hy⟩ : ∃ y, y = zs.getD k 0 := ⟨_, rfl⟩
      have hcell : w.cell? (ad.add k) = some (.int .u64 y) := by rw [hy]; exact Hr.out.ints k hlt
      have Hy := hide hy; clear hy
      have Hb := hide hb; clear hb
      have Hl := hide hl; clear hl
      go_wp2
      · have hx : (x == y) = true := by assumption
        have hk' : k < zs.length := by rw [Hl.out]; exact hlt
        go_ret
        exact ⟨ret_int (idx_at hk' (by rw [Hy.out] at hx; simpa [List.getD, hk'] using hx) Hb.out).symm, rfl⟩
      · have hx : (x == y) = false := by assumption
        go_round
        case rel =>
          refine ⟨k + 1, by omega, by go_num, fun j hj => ?_⟩
          by_cases e : j = k
          · subst e; rw [← Hy.out]; exact hx
          · exact Hb.out j (by omega)
        case measure => simp [intOf]; omega
    · have Hb := hide hb; clear hb
      have Hl := hide hl; clear hl
      go_wp2
      go_ret
      exact ⟨ret_int (idx_none (fun j hj => Hb.out j (by rw [Hl.out] at hj; omega))).symm, rfl⟩

theorem index_any (A : Option Addr) (n c : Nat) (zs : List Int) (x : Int) (w : World) (hr : Rd w 1 A n c (u64s zs)) :
    Calls Try.prog 23 #[.slice A n c, .int .u64 x] w fun e w' => e = .returned (.int .i64 (idx zs x)) ∧ w = w' := by
  cases A with
  | some ad => exact index_some ad n c zs x w hr
  | none =>
    have hc := hr.nil0 rfl
    have hn : n = 0 := by have := hr.le; omega
    subst hc hn
    have hz : zs = [] := List.eq_nil_of_length_eq_zero hr.intLen
    subst hz
    clear hr
    go_enter Try.func23, Try.ntmps23
    go_wp2
    go_loop [8] (fun i => i = .int .i64 0) (fun _ => 0)
    case atStart => rfl
    case round =>
      subst hrel
      go_wp2
      go_ret
      exact ⟨rfl, rfl⟩

theorem contains_any (A : Option Addr) (n c : Nat) (zs : List Int) (x : Int) (w : World) (hr : Rd w 1 A n c (u64s zs)) :
    Calls Try.prog 10 #[.slice A n c, .int .u64 x] w fun e w' => e = .returned (.bool (zs.contains x)) ∧ w = w' := by
  have Hr := hide hr; clear hr
  go_enter Try.func10, Try.ntmps10
  go_wp2_with (go_at_call 23; refine (index_any _ _ _ _ _ _ Hr.out).mono ?_; rintro e w' ⟨rfl, rfl⟩)
  go_ret
  exact ⟨ret_bool (idx_contains zs x), rfl⟩

set_option maxHeartbeats 400000 in
theorem clone_any (A : Option Addr) (n c : Nat) (zs : List Int) (w : World) (hr : Rd w 1 A n c (u64s zs)) (hn : n ≤ 65536) :
    Calls Try.prog 20 #[.slice A n c] w fun e w' => ∃ v, e = .returned v ∧ w'.ownsRow w.heap.size 29 1 v n (u64s zs) ∧ Below w.heap.size w w' := by
  obtain ⟨i0, hi0, hz0, hz1, hz2⟩ := info_parts Try.info29
  have q22 := fun (w : World) (A : Option Addr) (n c : Nat) => Lib.run_eql_slice_nil (P := Try.prog) w 22 29 A n c 0 0 Try.underlying22
  cases A with
  | none =>
    have hc := hr.nil0 rfl
    have hn : n = 0 := by have := hr.le; omega
    subst hc hn
    have hz : zs = [] := List.eq_nil_of_length_eq_zero hr.intLen
    subst hz
    clear hr
    go_enter Try.func20, Try.ntmps20
    go_wp2
    go_ret
    exact ⟨_, rfl, World.ownsRow_nil _ _ _ _, Below.refl _ _⟩
  | some ad =>
    have Hr := hide hr; clear hr
    go_enter Try.func20, Try.ntmps20
    go_wp2_with (at_builtin; refine wpList_append_rd _ rfl (.tmp 5) (.tmp 6) 22 rfl w.heap.size 29 i0 (.int .u64 0) 1 8 Try.underlying22 hi0 hz0 hz1 hz2 rfl (by omega) (.slice (some ⟨w.heap.size, 0, none⟩) 0 0) 0 [] rfl (World.ownsRow_made w #[] 0 (Nat.le_refl _) (by simp [maxLen]) rfl) (some ad) n c (u64s zs) rfl (Hr.out.alloc _) (u64s_one _) (by simp only [maxLen]; omega) (by omega) (by simp) ?_; intro v1 w1 hown hg _)
    go_ret
    exact ⟨_, rfl, by simpa using hown, ((Below.refl _ _).alloc (Nat.le_refl _) _).grown hg (by simp) (by simp [Value.ownBlock])⟩
set_option maxHeartbeats 400000 in
theorem equal_some (a b : Addr) (n c d : Nat) (xs ys : List Int) (w : World) (hx : Rd w 1 (some a) n c (u64s xs)) (hy : Rd w 1 (some b) n d (u64s ys)) :
    Calls Try.prog 16 #[.slice (some a) n c, .slice (some b) n d] w fun e w' => e = .returned (.bool (xs == ys)) ∧ ∃ q, w' = w.drewN q := by
  have hlx := hx.intLen
  have hly := hy.intLen
  have hm := hx.max
  have hle := hx.le
  unfold maxLen at hm
  have Hx := hide hx; clear hx
  have Hy := hide hy; clear hy
  have Hlx := hide hlx; clear hlx
  have Hly := hide hly; clear hly
  go_enter Try.func16, Try.ntmps16
  go_wp2
  go_loopw [13] (fun i wr => ∃ k q : Nat, k ≤ n ∧ i = .int .i64 k ∧ wr = w.drewN q ∧ ∀ j, j < k → xs.getD j 0 = ys.getD j 0) (fun i _ => n - (intOf i).toNat)
  case atStart => exact ⟨0, 0, Nat.zero_le _, rfl, rfl, by omega⟩
  case round =>
    obtain ⟨k, q, hk, rfl, rfl, hb⟩ := hrel
    have Hb := hide hb; clear hb
    by_cases hlt : k < n
    · obtain ⟨x, ex⟩ : ∃ x, x = xs.getD k 0 := ⟨_, rfl⟩
      obtain ⟨y, ey⟩ : ∃ y, y = ys.getD k 0 := ⟨_, rfl⟩
      have hcx : w.cell? (a.add k) = some (.int .u64 x) := by rw [ex]; exact Hx.out.ints k hlt
      have hcy : w.cell? (b.add k) = some (.int .u64 y) := by rw [ey]; exact Hy.out.ints k hlt
      have Ex := hide ex; clear ex
      have Ey := hide ey; clear ey
      go_wp2
      go_quiet (fail)
      go_wp2
      · have hne : (x != y) = true := by assumption
        go_ret
        refine ⟨ret_bool ?_, q + nq, World.drewN_drewN _ _ _⟩
        rw [Ex.out, Ey.out] at hne
        symm
        rw [beq_eq_false_iff_ne]
        rintro rfl
        simp at hne
      · have heq : (x != y) = false := by assumption
        refine ⟨⟨k + 1, q + nq, by omega, by go_num, rfl, fun j hj => ?_⟩, by simp [intOf]; omega⟩
        by_cases e : j = k
        · subst e; rw [← Ex.out, ← Ey.out]; simpa using heq
        · exact Hb.out j (by omega)
    · go_wp2
      go_ret
      refine ⟨ret_bool ?_, q, rfl⟩
      symm
      rw [beq_iff_eq]
      refine List.ext_getElem (by rw [Hlx.out, Hly.out]) fun j h1 h2 => ?_
      have := Hb.out j (by rw [Hlx.out] at h1; omega)
      simpa [List.getD, h1, h2] using this

/-- slices.Equal on numbers of 64 bits. -/
theorem equal_any (A B : Option Addr) (n c m d : Nat) (xs ys : List Int) (w : World) (hx : Rd w 1 A n c (u64s xs)) (hy : Rd w 1 B m d (u64s ys)) :
    Calls Try.prog 16 #[.slice A n c, .slice B m d] w fun e w' => e = .returned (.bool (xs == ys)) ∧ ∃ q, w' = w.drewN q := by
  have hlx := hx.intLen
  have hly := hy.intLen
  by_cases hnm : n = m
  · subst hnm
    by_cases h0 : n = 0
    · subst h0
      obtain rfl : xs = [] := List.eq_nil_of_length_eq_zero hlx
      obtain rfl : ys = [] := List.eq_nil_of_length_eq_zero hly
      clear hx hy hlx hly
      go_enter Try.func16, Try.ntmps16
      go_wp2
      go_loop [13] (fun i => i = .int .i64 0) (fun _ => 0)
      case atStart => rfl
      case round =>
        subst hrel
        go_wp2
        go_ret
        exact ⟨rfl, 0, rfl⟩
    · obtain ⟨a, rfl⟩ := hx.isSome (by omega)
      obtain ⟨b, rfl⟩ := hy.isSome (by omega)
      exact equal_some a b n c d xs ys w hx hy
  · have hne : ((n : Int) != (m : Int)) = true := by simp; omega
    have hxy : (xs == ys) = false := by
      rw [beq_eq_false_iff_ne]; rintro rfl; omega
    clear hx hy hlx hly
    have Hxy := hide hxy; clear hxy
    go_enter Try.func16, Try.ntmps16
    go_wp2
    go_ret
    exact ⟨ret_bool Hxy.out.symm, 0, rfl⟩

theorem erase_split (zs : List Int) (i : Nat) : (u64s zs).take (i * 1) ++ (u64s zs).drop (i + 1) = u64s (zs.eraseIdx i) := by
  rw [Nat.mul_one, List.eraseIdx_eq_take_drop_succ]
  simp [u64s]

set_option maxHeartbeats 400000 in
theorem delete_own (g n cap i : Nat) (base : Nat) (zs : List Int) (w : World) (hi : i < n) (ho : w.ownsRow base 29 1 (.slice (some ⟨g, 0, none⟩) n cap) n (u64s zs)) :
    Calls Try.prog 26 #[.slice (some ⟨g, 0, none⟩) n cap, .int .i64 i, .int .i64 (i + 1)] w fun e w' =>
      e = .returned (.slice (some ⟨g, 0, none⟩) (n - 1) cap) ∧ w'.ownsRow base 29 1 (.slice (some ⟨g, 0, none⟩) (n - 1) cap) (n - 1) (u64s (zs.eraseIdx i)) ∧ w.grownBy w' (some g) := by
  obtain ⟨i0, hi0, hz0, hz1, hz2⟩ := info_parts Try.info29
  obtain ⟨m, rfl⟩ : ∃ m, n = i + 1 + m := ⟨n - (i + 1), by omega⟩
  clear hi
  have hn1 : i + 1 + m - 1 = i + m := by omega
  rw [hn1]
  clear hn1
  have hr := Rd.of_own ho
  have hcap := hr.le
  have hm := hr.max
  unfold maxLen at hm
  have h1 : (i : Int) + 1 ≤ (i : Int) + 1 + m := by omega
  have h2 : ((i : Int) == (i : Int) + 1) = false := by simp; omega
  have hic : i ≤ cap := by omega
  have h3 : (i : Int) + 1 ≤ (cap : Int) := by omega
  have h5 : (0 : Int) ≤ (i : Int) + 1 := by omega
  have h6 : (i : Int) ≤ (i : Int) + 1 := by omega
  have hroom : i + m ≤ cap := by omega
  have Hone := hide (fun u (hu : u ∈ (u64s zs).drop (i + 1)) => u64s_one zs u (List.mem_of_mem_drop hu))
  have Hs := hide (own_shorter ho (k := i) (by omega)).drew
  have hfrom := Rd.from_ hr (k := i + 1) (by omega)
  rw [show i + 1 + m - (i + 1) = m by omega] at hfrom
  have hone : ∀ u ∈ (Value.int IntKind.u64 0).cells, u.oneCell' = true := by simp [Value.cells, Value.oneCell']
  have Hone2 := hide hone; clear hone
  by_cases hlast : cap = i + 1
  · obtain rfl : m = 0 := by omega
    subst hlast
    have Hf := hide (Rd.drew (A := some ⟨g, 0, none⟩) (by simpa using hfrom)); clear hfrom hr ho
    go_enter Try.func26, Try.ntmps26
    go_wp2
    go_region_held3 (fun _ => True) (trivial) ((refine step_append_own _ rfl (.tmp 22) (.tmp 25) 22 rfl base 29 i0 1 Try.underlying22 hi0 hz1 g i (i + 1) _ rfl Hs.out (some ⟨g, 0, none⟩) 0 0 ((u64s zs).drop (i + 1)) rfl Hf.out Hone.out hroom ?_; intro w1 hown hg))
    go_wp2_with ((refine wpList_clear_own _ rfl (.tmp 31) 22 rfl base 29 i0 _ 1 Try.underlying22 hi0 hz0 rfl (by decide) Hone2.out g (i + 0) (i + 1) _ hown _ _ _ rfl (Or.inr (by simp)) (by omega) ?_; intro w2 hown2 hg2))
    go_ret
    exact ⟨rfl, by rw [← erase_split]; exact hown2, grown_drew (hg.trans hg2)⟩
  · have Hf := hide (Rd.drew (A := some ⟨g, i + 1, none⟩) (by simpa [hlast, Addr.add] using hfrom)); clear hfrom hr ho
    go_enter Try.func26, Try.ntmps26
    go_wp2
    go_region_held3 (fun _ => True) (trivial) ((refine step_append_own _ rfl (.tmp 22) (.tmp 25) 22 rfl base 29 i0 1 Try.underlying22 hi0 hz1 g i cap _ rfl Hs.out (some ⟨g, i + 1, none⟩) m (cap - (i + 1)) ((u64s zs).drop (i + 1)) rfl Hf.out Hone.out hroom ?_; intro w1 hown hg))
    go_wp2_with ((refine wpList_clear_own _ rfl (.tmp 31) 22 rfl base 29 i0 _ 1 Try.underlying22 hi0 hz0 rfl (by decide) Hone2.out g (i + m) cap _ hown _ _ _ rfl (Or.inr (by simp)) (by omega) ?_; intro w2 hown2 hg2))
    go_ret
    exact ⟨rfl, by rw [← erase_split]; exact hown2, grown_drew (hg.trans hg2)⟩
theorem contains_yes (A : Option Addr) (n c : Nat) (zs : List Int) (x : Int) (w : World) (hr : Rd w 1 A n c (u64s zs)) (h : zs.contains x = true) :
    Calls Try.prog 10 #[.slice A n c, .int .u64 x] w fun e w' => e = .returned (.bool true) ∧ w = w' := h ▸ contains_any A n c zs x w hr
theorem contains_no (A : Option Addr) (n c : Nat) (zs : List Int) (x : Int) (w : World) (hr : Rd w 1 A n c (u64s zs)) (h : zs.contains x = false) :
    Calls Try.prog 10 #[.slice A n c, .int .u64 x] w fun e w' => e = .returned (.bool false) ∧ w = w' := h ▸ contains_any A n c zs x w hr
theorem idx_of_contains {zs : List Int} {x : Int} (h : zs.contains x = true) : ∃ i : Nat, idx zs x = (i : Int) ∧ i < zs.length ∧ zs.getD i 0 = x ∧ ∀ j, j < i → zs.getD j 0 ≠ x := by
  unfold idx
  cases hf : zs.findIdx? (x == ·) with
  | none =>
    rw [List.findIdx?_eq_none_iff] at hf
    have := hf x (by simpa using h)
    simp at this
  | some i =>
    rw [List.findIdx?_eq_some_iff_getElem] at hf
    obtain ⟨hi, hx, hb⟩ := hf
    refine ⟨i, rfl, hi, ?_, fun j hj => ?_⟩
    · simp only [beq_iff_eq] at hx
      simp [List.getD, hi, hx]
    · have := hb j hj
      simp only [beq_iff_eq] at this
      have hj' : j < zs.length := by omega
      simp only [List.getD, List.getElem?_eq_getElem hj', Option.getD_some]
      exact fun e => this e.symm
theorem idx_of_not {zs : List Int} {x : Int} (h : zs.contains x = false) : idx zs x = -1 := by
  unfold idx
  cases hf : zs.findIdx? (x == ·) with
  | none => rfl
  | some i =>
    rw [List.findIdx?_eq_some_iff_getElem] at hf
    obtain ⟨hi, hx, hb⟩ := hf
    have : zs.contains x = true := by
      simp only [beq_iff_eq] at hx
      simp [hx]
    rw [this] at h
    cases h

/-- Where each stands once, to erase the one at i is to keep all others. -/
theorem erase_filter {zs : List Int} {x : Int} {i : Nat} (hnd : zs.Nodup) (hi : i < zs.length) (hx : zs.getD i 0 = x) : zs.eraseIdx i = zs.filter (· != x) := by
  induction zs generalizing i with
  | nil => simp at hi
  | cons y r ih =>
    rw [List.nodup_cons] at hnd
    cases i with
    | zero =>
      simp at hx
      subst hx
      rw [List.eraseIdx_cons_zero, List.filter_cons_of_neg (by simp)]
      symm
      rw [List.filter_eq_self]
      intro z hz
      simp only [bne_iff_ne, ne_eq]
      rintro rfl
      exact hnd.1 hz
    | succ i =>
      have hi' : i < r.length := by simpa using hi
      have hx' : r.getD i 0 = x := by simpa [List.getD] using hx
      have hmem : x ∈ r := by
        rw [← hx', List.getD, List.getElem?_eq_getElem hi', Option.getD_some]
        exact List.getElem_mem hi'
      have hyx : (y != x) = true := by
        simp only [bne_iff_ne, ne_eq]
        rintro rfl
        exact hnd.1 hmem
      rw [List.eraseIdx_cons_succ, ih hnd.2 hi' hx', List.filter_cons, if_pos hyx]

theorem filter_none {zs : List Int} {x : Int} (h : zs.contains x = false) : zs.filter (· != x) = zs := by
  rw [List.filter_eq_self]
  intro z hz
  simp only [bne_iff_ne, ne_eq]
  rintro rfl
  have : zs.contains z = true := by simpa using hz
  rw [this] at h
  cases h

theorem equal_same (A B : Option Addr) (n c m d : Nat) (xs : List Int) (w : World) (hx : Rd w 1 A n c (u64s xs)) (hy : Rd w 1 B m d (u64s xs)) :
    Calls Try.prog 16 #[.slice A n c, .slice B m d] w fun e w' => e = .returned (.bool true) ∧ ∃ q, w' = w.drewN q := by
  have h := equal_any A B n c m d xs xs w hx hy
  rwa [show (xs == xs) = true by simp] at h
end Go.Proofs.Ytghmjfinmbgjiaa
