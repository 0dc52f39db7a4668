/-
  What a pipe's slices hold, and the contracts of Clone, Delete, IndexFunc, DeleteFunc on them. Conditions: the slices can be read.
-/
import Derived.Test.YtoocklaoedcbjaaProg
import Derived.Test.YtoocklaoedcbjaaOwn
import Derived.Deep.QuietTactic
import Derived.BigQuiet
import Derived.Deep.RegionHeld3
namespace Go.Proofs.Ytoocklaoedcbjaa
open Go.RowKit

abbrev Item := Int × ByteArray
/-- An item's cells: to whom, the text. -/
abbrev itemCells (l : List Item) : List Value := l.flatMap fun a => [Value.int .u64 a.1, Value.string a.2]

theorem items_one (l : List Item) : ∀ u ∈ itemCells l, u.oneCell' = true := by
  intro u hu
  simp only [itemCells, List.mem_flatMap, List.mem_cons, List.not_mem_nil, or_false] at hu
  obtain ⟨a, _, rfl | rfl⟩ := hu <;> rfl
theorem items_len (l : List Item) : (itemCells l).length = l.length * 2 := by
  induction l with
  | nil => rfl
  | cons a l ih => simp [itemCells, List.flatMap_cons] at ih ⊢
                   omega
theorem items_append (l m : List Item) : itemCells (l ++ m) = itemCells l ++ itemCells m := by simp [itemCells]
theorem items_take (l : List Item) (k : Nat) : (itemCells l).take (k * 2) = itemCells (l.take k) := by
  induction l generalizing k with
  | nil => simp [itemCells]
  | cons a l ih =>
    cases k with
    | zero => simp [itemCells]
    | succ k =>
      rw [show (k + 1) * 2 = (k * 2) + 1 + 1 by omega]
      have := ih k
      simp [itemCells, List.flatMap_cons] at this ⊢
      exact this
theorem items_drop (l : List Item) (k : Nat) : (itemCells l).drop (k * 2) = itemCells (l.drop k) := by
  induction l generalizing k with
  | nil => simp [itemCells]
  | cons a l ih =>
    cases k with
    | zero => simp [itemCells]
    | succ k =>
      rw [show (k + 1) * 2 = (k * 2) + 1 + 1 by omega]
      have := ih k
      simp [itemCells, List.flatMap_cons] at this ⊢
      exact this
theorem items_at (l : List Item) (k : Nat) (a : Item) (hk : l[k]? = some a) : (itemCells l)[k * 2]? = some (.int .u64 a.1) ∧ (itemCells l)[k * 2 + 1]? = some (.string a.2) := by
  induction l generalizing k with
  | nil => simp at hk
  | cons b l ih =>
    cases k with
    | zero => simp at hk; subst hk; simp [itemCells, List.flatMap_cons]
    | succ k =>
      have h := ih k (by simpa using hk)
      rw [show (k + 1) * 2 = (k * 2 + 1) + 1 by omega]
      simpa [itemCells, List.flatMap_cons] using h

section
variable {w : World} {A : Option Addr} {n c : Nat} {l : List Item}
theorem Rd.itemLen (h : Rd w 2 A n c (itemCells l)) : l.length = n := by have := h.len; rw [items_len] at this; omega
theorem Rd.items {b o : Nat} {sp : Option Nat} (h : Rd w 2 (some ⟨b, o, sp⟩) n c (itemCells l)) (k : Nat) (a : Item) (hk : l[k]? = some a) :
    sp = none ∧ w.cell? ⟨b, o + k * 2, none⟩ = some (.int .u64 a.1) ∧ w.cell? ⟨b, o + k * 2 + 1, none⟩ = some (.string a.2) := by
  have hsp : sp = none := h.spot (fun e => by
    have h1 := items_len l
    rw [e] at h1
    have := (List.getElem?_eq_some_iff.1 hk).1
    simp at h1
    omega)
  subst hsp
  have h0 := h.cell _ rfl _ _ (items_at l k a hk).1
  have h1 := h.cell _ rfl _ _ (items_at l k a hk).2
  rw [Addr.add_lit] at h0 h1
  exact ⟨rfl, h0, h1⟩
end

theorem rd_item (w : World) (a : Item) (e : TypeId) (g : Nat) (hg : g = w.heap.size) : Rd (w.alloc (.cells #[.int .u64 a.1, .string a.2] e)) 2 (some ⟨g, 0, none⟩) 1 1 (itemCells [a]) := by
  subst hg
  refine ⟨rfl, Nat.le_refl _, by simp [maxLen], (fun h => by cases h), fun ad he j v hj => ?_⟩
  injection he with he
  subst he
  match j, hj with
  | 0, hj => simp [itemCells] at hj; subst hj; simp [Addr.add]
  | 1, hj => simp [itemCells] at hj; subst hj; simp [Addr.add]

theorem Try.info32 : (Try.prog.info? 32).map (fun i => (i.zero, i.size, i.bytes)) = some (some (.agg #[.int .u64 0, .string ⟨#[]⟩]), 2, 24) := by kernel_rfl
theorem Try.info41 : (Try.prog.info? 41).map (fun i => (i.zero, i.size, i.bytes)) = some (some (.agg #[.int .u64 0, .string ⟨#[]⟩]), 2, 24) := by kernel_rfl

set_option maxHeartbeats 400000 in
theorem clone_any (A : Option Addr) (n c : Nat) (l : List Item) (w : World) (hr : Rd w 2 A n c (itemCells l)) (hn : n ≤ 65536) :
    Calls Try.prog 19 #[.slice A n c] w fun e w' => ∃ v, e = .returned v ∧ w'.ownsRow w.heap.size 32 2 v n (itemCells l) ∧ Below w.heap.size w w' := by
  obtain ⟨i0, hi0, hz0, hz1, hz2⟩ := info_parts Try.info32
  have q24 := fun (w : World) (A : Option Addr) (n c : Nat) => Lib.run_eql_slice_nil (P := Try.prog) w 24 32 A n c 0 0 Try.underlying24
  cases A with
  | none =>
    have hc := hr.nil0 rfl
    have hn : n = 0 := by have := hr.le; omega
    subst hc hn
    have hz : l = [] := List.eq_nil_of_length_eq_zero hr.itemLen
    subst hz
    clear hr
    go_enter Try.func19, Try.ntmps19
    go_wp2
    go_ret
    exact ⟨_, rfl, World.ownsRow_nil _ _ _ _, Below.refl _ _⟩
  | some ad =>
    have Hr := hide hr; clear hr
    go_enter Try.func19, Try.ntmps19
    go_wp2_with (at_builtin; refine wpList_append_rd _ rfl (.tmp 5) (.tmp 6) 24 rfl w.heap.size 32 i0 _ 2 24 Try.underlying24 hi0 hz0 hz1 hz2 rfl (by omega) (.slice (some ⟨w.heap.size, 0, none⟩) 0 0) 0 [] rfl (World.ownsRow_made w #[] 0 (Nat.le_refl _) (by simp [maxLen]) rfl) (some ad) n c (itemCells l) rfl (Hr.out.alloc _) (items_one _) (by simp only [maxLen]; omega) (by omega) (by simp) ?_; intro v1 w1 hown hg _)
    go_ret
    exact ⟨_, rfl, by simpa using hown, ((Below.refl _ _).alloc (Nat.le_refl _) _).grown hg (by simp) (by simp [Value.ownBlock])⟩

theorem erase_items (l : List Item) (i : Nat) : (itemCells l).take (i * 2) ++ (itemCells l).drop ((i + 1) * 2) = itemCells (l.eraseIdx i) := by
  rw [items_take, items_drop, List.eraseIdx_eq_take_drop_succ, items_append]

set_option maxHeartbeats 400000 in
theorem delete_own (g n cap i : Nat) (base : Nat) (l : List Item) (w : World) (hi : i < n) (ho : w.ownsRow base 32 2 (.slice (some ⟨g, 0, none⟩) n cap) n (itemCells l)) :
    Calls Try.prog 23 #[.slice (some ⟨g, 0, none⟩) n cap, .int .i64 i, .int .i64 (i + 1)] w fun e w' =>
      e = .returned (.slice (some ⟨g, 0, none⟩) (n - 1) cap) ∧ w'.ownsRow base 32 2 (.slice (some ⟨g, 0, none⟩) (n - 1) cap) (n - 1) (itemCells (l.eraseIdx i)) ∧ w.grownBy w' (some g) := by
  obtain ⟨i0, hi0, hz0, hz1, hz2⟩ := info_parts Try.info32
  obtain ⟨m, rfl⟩ : ∃ m, n = i + 1 + m := ⟨n - (i + 1), by omega⟩
  clear hi
  have hn1 : i + 1 + m - 1 = i + m := by omega
  rw [hn1]
  clear hn1
  have hr := Rd.of_own ho
  have hcap := hr.le
  have hm := hr.max
  unfold maxLen at hm
  have h1 : (i : Int) + 1 ≤ (i : Int) + 1 + m := by omega
  have h2 : ((i : Int) == (i : Int) + 1) = false := by simp; omega
  have hic : i ≤ cap := by omega
  have h3 : (i : Int) + 1 ≤ (cap : Int) := by omega
  have h5 : (0 : Int) ≤ (i : Int) + 1 := by omega
  have h6 : (i : Int) ≤ (i : Int) + 1 := by omega
  have hroom : i + m ≤ cap := by omega
  have Hone := hide (fun u (hu : u ∈ (itemCells l).drop ((i + 1) * 2)) => items_one l u (List.mem_of_mem_drop hu))
  have Hs := hide (own_shorter ho (k := i) (by omega)).drew
  have hfrom := Rd.from_ hr (k := i + 1) (by omega)
  rw [show i + 1 + m - (i + 1) = m by omega] at hfrom
  have hone : ∀ u ∈ (Value.agg #[.int .u64 0, .string ⟨#[]⟩]).cells, u.oneCell' = true := by simp [Value.cells, Value.oneCell']
  have Hone2 := hide hone; clear hone
  by_cases hlast : cap = i + 1
  · obtain rfl : m = 0 := by omega
    subst hlast
    have Hf := hide (Rd.drew (A := some ⟨g, 0, none⟩) (by simpa only [if_pos] using hfrom)); clear hfrom hr ho
    go_enter Try.func23, Try.ntmps23
    go_wp2
    go_region_held3 (fun _ => True) (trivial) ((refine step_append_own _ rfl (.tmp 22) (.tmp 25) 24 rfl base 32 i0 2 Try.underlying24 hi0 hz1 g i (i + 1) _ rfl Hs.out (some ⟨g, 0, none⟩) 0 _ ((itemCells l).drop ((i + 1) * 2)) rfl (by simpa using Hf.out) Hone.out hroom ?_; intro w1 hown hg))
    go_wp2_with ((refine wpList_clear_own _ rfl (.tmp 31) 24 rfl base 32 i0 _ 2 Try.underlying24 hi0 hz0 rfl (by decide) Hone2.out g (i + 0) (i + 1) _ hown _ _ _ rfl (Or.inr (by simp)) (by omega) ?_; intro w2 hown2 hg2))
    go_ret
    exact ⟨rfl, by rw [← erase_items]; exact hown2, grown_drew (hg.trans hg2)⟩
  · have Hf := hide (Rd.drew (A := some ⟨g, (i + 1) * 2, none⟩) (by simpa [hlast, Addr.add] using hfrom)); clear hfrom hr ho
    go_enter Try.func23, Try.ntmps23
    go_wp2
    go_region_held3 (fun _ => True) (trivial) ((refine step_append_own _ rfl (.tmp 22) (.tmp 25) 24 rfl base 32 i0 2 Try.underlying24 hi0 hz1 g i cap _ rfl Hs.out (some ⟨g, (i + 1) * 2, none⟩) m (cap - (i + 1)) ((itemCells l).drop ((i + 1) * 2)) rfl Hf.out Hone.out hroom ?_; intro w1 hown hg))
    go_wp2_with ((refine wpList_clear_own _ rfl (.tmp 31) 24 rfl base 32 i0 _ 2 Try.underlying24 hi0 hz0 rfl (by decide) Hone2.out g (i + m) cap _ hown _ _ _ rfl (Or.inr (by simp)) (by omega) ?_; intro w2 hown2 hg2))
    go_ret
    exact ⟨rfl, by rw [← erase_items]; exact hown2, grown_drew (hg.trans hg2)⟩
end Go.Proofs.Ytoocklaoedcbjaa
