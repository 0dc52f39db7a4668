/-
  A spin in a variable; the turns that SpinUp takes: who is down keeps what it has, one alone is chosen ever. Conditions: the slices can be read; the numbers are small.
-/
import Derived.Test.YtnabckcdffpimaaSpin3
namespace Go.Proofs.Ytnabckcdffpimaa
open Go.RowKit Ieee

/-- A spin in the variable whose block is g. -/
structure SB (w : World) (g : Nat) (A : Option Addr) (n c : Nat) (l : List PN) : Prop where
  c0 : w.cell? ⟨g, 0, none⟩ = some (.slice A n c)
  f0 : w.frozen? ⟨g, 0, none⟩ = false
  rd : Rd w 1 A n c (pvs l)
  far : pvs l ≠ [] → ∀ ad, A = some ad → ad.block ≠ g

section
variable {w w' : World} {g : Nat} {A : Option Addr} {n c : Nat} {l : List PN}
theorem SB.lt (h : SB w g A n c l) : g < w.heap.size := World.block_lt_of_cell? w _ h.c0
theorem SB.step (h : SB w g A n c l) (hb : Below w.heap.size w w') : SB w' g A n c l :=
  ⟨cell_later hb h.c0, by rw [hb.frozen (p := ⟨g, 0, none⟩) h.lt]; exact h.f0, h.rd.below hb, h.far⟩
theorem SB.drew (h : SB w g A n c l) : SB w.drew g A n c l := h.step (below_drew _ _)
theorem SB.alloc (h : SB w g A n c l) (o : Obj) : SB (w.alloc o) g A n c l := h.step ((Below.refl _ _).alloc (Nat.le_refl _) o)
theorem SB.other (h : SB w g A n c l) {p : Nat} (hp : p ≠ g) (hpa : pvs l ≠ [] → ∀ ad, A = some ad → ad.block ≠ p) (v : Value) : SB (w.setCell ⟨p, 0, none⟩ v) g A n c l :=
  ⟨by rw [World.cell?_setCell_other w _ _ _ (fun e => hp (by injection e))]; exact h.c0,
   by have h1 := h.f0; simp [go_sem, h1], h.rd.setCell v (fun hx ad e he => hpa hx ad e he.symm), h.far⟩
theorem SB.store (h : SB w g A n c l) {A' : Option Addr} {c' : Nat} {l' : List PN} (hr : Rd w 1 A' n c' (pvs l')) (hf : pvs l' ≠ [] → ∀ ad, A' = some ad → ad.block ≠ g) :
    SB (w.setCell ⟨g, 0, none⟩ (.slice A' n c')) g A' n c' l' := by
  have h0 := h.c0
  have h1 := h.f0
  exact ⟨by simp [go_sem, h0], by simp [go_sem, h1], hr.setCell _ (fun hx ad e he => hf hx ad e he.symm), hf⟩
theorem SB.new (hr : Rd w 1 A n c (pvs l)) : SB (w.alloc (.cells #[.slice A n c] 41)) w.heap.size A n c l :=
  ⟨by go_simp, by go_simp, hr.alloc _, fun hx ad e => Nat.ne_of_lt (hr.lt hx e)⟩
end

theorem SP.len_eq {l : List PN} {H : Nat} {w : World} {A : Option Addr} {n c : Nat} (_ : SP l H) (hr : Rd w 1 A n c (pvs l)) : l.length = n := hr.pairLen

/-- A turn, whatever comes of it. -/
theorem next_u (A : Option Addr) (n c : Nat) (B : Option Addr) (m d : Nat) (l : List PN) (D : List Int) (H : Nat) (w : World) (hr : Rd w 1 A n c (pvs l)) (hD : Rd w 1 B m d (i64s D)) (hs : SP l H) (hH : H ≤ 100000000) :
    Calls Try.prog 19 #[sv A n c, .slice B m d] w fun e w' => ∃ A' c' l' bi ok, e = .returned (.tuple #[sv A' n c', .int .i64 bi, .bool ok]) ∧ Rd w' 1 A' n c' (pvs l') ∧ SP l' (H + 900) ∧ (A' = A ∨ ∀ ad, A' = some ad → w.heap.size ≤ ad.block) ∧
      (∀ i : Nat, i < n → D.contains (i : Int) = true → l'.getD i (0, 0) = l.getD i (0, 0) ∧ (ok = true → bi ≠ (i : Int))) ∧ Below w.heap.size w w' := by
  have hl := hr.pairLen
  refine (next_any A n c B m d l D H w hr hD hs hH).mono ?_
  rintro e w' ⟨hb, ⟨h1, rfl⟩ | ⟨b, A', c', h1, rfl, h2, h3⟩⟩
  · exact ⟨A, c, l, 0, false, rfl, hr.below hb, hs.mono (by omega), .inl rfl, fun i hi hd => ⟨rfl, fun h => by cases h⟩, hb⟩
  · refine ⟨A', c', after D l b, b, true, rfl, h2, hs.after D b, .inr h3, fun i hi hd => ?_, hb⟩
    have hbs := bestTo_spec D l l.length
    rw [h1] at hbs
    rcases hbs with ⟨h4, _⟩ | ⟨b', h4, h5, h6, _⟩
    · omega
    · obtain rfl : b = b' := by omega
      have hne : b ≠ i := fun e => by rw [e, hd] at h6; cases h6
      refine ⟨?_, fun _ e => hne (by omega)⟩
      rw [after_at D l b i (by omega), if_neg hne, upd_down _ hd]

/-- All of the first k but o. -/
def oth (o : Nat) : Nat → List Int
  | 0 => []
  | k + 1 => if k = o then oth o k else oth o k ++ [(k : Int)]
theorem oth_len (o : Nat) : ∀ k, (oth o k).length ≤ k
  | 0 => Nat.le_refl _
  | k + 1 => by
    have := oth_len o k
    unfold oth
    split
    · omega
    · simp; omega
theorem oth_has (o : Nat) : ∀ (k i : Nat), (oth o k).contains (i : Int) = (decide (i < k) && decide (i ≠ o))
  | 0, i => by simp [oth]
  | k + 1, i => by
    have ih := oth_has o k i
    unfold oth
    by_cases hk : k = o
    · rw [if_pos hk, ih]
      by_cases h1 : i = o
      · simp [h1]
      · by_cases h2 : i < k
        · simp [h1, h2, show i < k + 1 by omega]
        · simp [h1, h2, show ¬ i < k + 1 by omega]
    · rw [if_neg hk, List.contains_eq_any_beq, List.any_append, ← List.contains_eq_any_beq, ih]
      by_cases h1 : i = k
      · subst h1; simp [hk]
      · have h3 : ¬ ((i : Int) = (k : Int)) := by omega
        by_cases h2 : i < k
        · simp [h1, h2, show i < k + 1 by omega, h3]
        · simp [h1, h2, show ¬ i < k + 1 by omega, h3]

theorem alone_best {l : List PN} {o : Nat} (ho : o < l.length) : bestTo (oth o l.length) l l.length = (o : Int) := by
  rcases bestTo_spec (oth o l.length) l l.length with ⟨h1, h2⟩ | ⟨b, h1, h2, h3, _⟩
  · have := h2 o ho
    rw [oth_has] at this
    simp at this
  · rw [h1]
    rw [oth_has] at h3
    simp [h2] at h3
    omega
theorem alone_sum {l : List PN} {o : Nat} (n : Nat) : ∀ k, k ≤ n → sumTo (oth o n) l k = if o < k then (l.getD o (0, 0)).2 else 0
  | 0, _ => by simp [sumTo]
  | k + 1, hk => by
    have ih := alone_sum (l := l) (o := o) n k (by omega)
    by_cases h : k = o
    · rw [sumTo_up (by rw [oth_has]; simp [h]), ih, if_neg (by omega), if_pos (by omega), h, Int.zero_add]
    · rw [sumTo_down (by rw [oth_has]; simp [h]; omega), ih]
      by_cases h2 : o < k
      · rw [if_pos h2, if_pos (by omega)]
      · rw [if_neg h2, if_neg (by omega)]
theorem alone_after {l : List PN} {o : Nat} (ho : o < l.length) : after (oth o l.length) l o = l := by
  refine List.ext_getElem (by rw [after_len]) fun i h1 h2 => ?_
  have h := after_at (oth o l.length) l o i h2
  have h3 : (after (oth o l.length) l o).getD i (0, 0) = (after (oth o l.length) l o)[i] := by simp [List.getD, h1]
  have h4 : l.getD i (0, 0) = l[i] := by simp [List.getD, h2]
  rw [h3, h4] at h
  rw [h]
  by_cases hio : o = i
  · subst hio
    rw [if_pos rfl, upd_up _ (by rw [oth_has]; simp), alone_sum l.length l.length (Nat.le_refl _), if_pos ho, h4]
    simp only
    rw [show l[o].1 + l[o].2 - l[o].2 = l[o].1 by omega]
  · rw [if_neg hio, upd_down _ (by rw [oth_has]; simp [h2]; omega)]
theorem alone_next (A : Option Addr) (n c : Nat) (B : Option Addr) (d o : Nat) (ws : List Int) (w : World) (hr : Rd w 1 A n c (pvs (fresh ws))) (hD : Rd w 1 B (oth o n).length d (i64s (oth o n))) (hs : SP (fresh ws) 0) (ho : o < n) :
    Calls Try.prog 19 #[sv A n c, .slice B (oth o n).length d] w fun e w' => ∃ A' c', e = .returned (.tuple #[sv A' n c', .int .i64 o, .bool true]) ∧ Rd w' 1 A' n c' (pvs (fresh ws)) ∧ Below w.heap.size w w' := by
  have hl : (fresh ws).length = n := hr.pairLen
  subst hl
  refine (next_yes A _ c B _ d (fresh ws) (oth o (fresh ws).length) 0 o w hr hD hs (by omega) (alone_best ho) (fresh ws) (alone_after ho)).mono ?_
  rintro e w' ⟨A', c', h1, h2, _, h3⟩
  exact ⟨A', c', h1, h2, h3⟩
end Go.Proofs.Ytnabckcdffpimaa
