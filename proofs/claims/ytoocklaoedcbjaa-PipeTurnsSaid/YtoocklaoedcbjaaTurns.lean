/-
  PipeTurns: the walk: behind any turns each is answered, and what is on its way is, as the document says. Conditions: the turns can be read.
-/
import Derived.Test.YtoocklaoedcbjaaRoom
import Derived.Test.YtoocklaoedcbjaaActs
import Derived.Test.YtoocklaoedcbjaaHeld
namespace Go.Proofs.Ytoocklaoedcbjaa
open Go.RowKit

/-- What stays in the midst of a turn: the pipe and the list as they were, the turn. -/
structure OT (w : World) (g wb ab : Nat) (A : Option Addr) (n c : Nat) (V : Option Addr) (vc : Nat) (l : List Item) (a : ActT) (W : World) : Prop where
  w0 : W.cell? ⟨wb, 0, none⟩ = some (.slice A n c)
  r : Rd W 2 A n c (itemCells l)
  v : Rd W 2 V n vc (itemCells l)
  rf : ∀ ad, A = some ad → g < ad.block
  vf : ∀ ad, V = some ad → g < ad.block
  rl : itemCells l ≠ [] → ∀ ad, A = some ad → ad.block < wb
  vl : itemCells l ≠ [] → ∀ ad, V = some ad → ad.block < wb
  a0 : W.cell? ⟨ab, 0, none⟩ = some (.int .u8 a.1)
  a1 : W.cell? ⟨ab, 1, none⟩ = some (.int .u64 a.2.1)
  a2 : W.cell? ⟨ab, 2, none⟩ = some (.string a.2.2.1)
  a3 : W.cell? ⟨ab, 3, none⟩ = some (.int .i64 a.2.2.2)
  b : Below w.heap.size w W
  hg : w.heap.size ≤ g
  hw : ab < wb
  ha : g < ab

section
variable {w W W' : World} {g wb ab : Nat} {A V : Option Addr} {n c vc : Nat} {l : List Item} {a : ActT}
theorem OT.step (h : OT w g wb ab A n c V vc l a W) (hb : Below W.heap.size W W') : OT w g wb ab A n c V vc l a W' :=
  { h with w0 := cell_later hb h.w0, r := h.r.below hb, v := h.v.below hb, a0 := cell_later hb h.a0, a1 := cell_later hb h.a1, a2 := cell_later hb h.a2, a3 := cell_later hb h.a3, b := h.b.trans (hb.mono h.b.size) }
theorem OT.alloc (h : OT w g wb ab A n c V vc l a W) (o : Obj) : OT w g wb ab A n c V vc l a (W.alloc o) := h.step ((Below.refl _ _).alloc (Nat.le_refl _) o)
theorem OT.drewN (h : OT w g wb ab A n c V vc l a W) (q : Nat) : OT w g wb ab A n c V vc l a (W.drewN q) := h.step (below_drewN _ _ _)
theorem OT.drew (h : OT w g wb ab A n c V vc l a W) : OT w g wb ab A n c V vc l a W.drew := h.step (below_drew _ _)
theorem OT.store (h : OT w g wb ab A n c V vc l a W) (u : Value) : OT w g wb ab A n c V vc l a (W.setCell ⟨g, 0, none⟩ u) := by
  have h1 := h.hw
  have h2 := h.ha
  exact { h with
    w0 := cell_far h.w0 (by simp only; omega) _
    r := h.r.setCell _ (fun _ ad e => by have := h.rf ad e; simp only; omega)
    v := h.v.setCell _ (fun _ ad e => by have := h.vf ad e; simp only; omega)
    a0 := cell_far h.a0 (by simp only; omega) _
    a1 := cell_far h.a1 (by simp only; omega) _
    a2 := cell_far h.a2 (by simp only; omega) _
    a3 := cell_far h.a3 (by simp only; omega) _
    b := h.b.setCell (p := ⟨g, 0, none⟩) h.hg _ }
/-- A store in a variable that came behind. -/
theorem OT.far (h : OT w g wb ab A n c V vc l a W) (p : Addr) (hp : wb < p.block) (u : Value) : OT w g wb ab A n c V vc l a (W.setCell p u) := by
  have h1 := h.hw
  have h2 := h.ha
  have h3 := h.hg
  exact { h with
    w0 := cell_far h.w0 (by simp only; omega) _
    r := h.r.setCell _ (fun hx ad e => by have := h.rl hx ad e; omega)
    v := h.v.setCell _ (fun hx ad e => by have := h.vl hx ad e; omega)
    a0 := cell_far h.a0 (by simp only; omega) _
    a1 := cell_far h.a1 (by simp only; omega) _
    a2 := cell_far h.a2 (by simp only; omega) _
    a3 := cell_far h.a3 (by simp only; omega) _
    b := h.b.setCell (by omega) _ }
theorem PB.drewN (h : PB W g A n c l) (q : Nat) : PB (W.drewN q) g A n c l := h.step (below_drewN _ _ _)
theorem PB.drew (h : PB W g A n c l) : PB W.drew g A n c l := h.step (below_drew _ _)
theorem PB.far' (h : PB W g A n c l) (p : Addr) (hp : g < p.block) (hx : ∀ ad, A = some ad → itemCells l ≠ [] → p.block ≠ ad.block) (u : Value) : PB (W.setCell p u) g A n c l :=
  ⟨cell_far h.c0 (by simp only; omega) _, by rw [World.frozen?_setCell]; exact h.f0, h.rd.setCell _ (fun h1 ad e => hx ad e h1), h.far⟩
/-- The midst of a turn begins. -/
theorem OT.start (hp : PB W g A n c l) (hv : Rd W 2 V n vc (itemCells l)) (hvf : ∀ ad, V = some ad → g < ad.block) (hb : Below w.heap.size w W) (hg : w.heap.size ≤ g) (a : ActT) :
    OT w g (W.heap.size + 1) W.heap.size A n c V vc l a ((W.alloc (.cells #[.int .u8 a.1, .int .u64 a.2.1, .string a.2.2.1, .int .i64 a.2.2.2] 37)).alloc (.cells #[.slice A n c] 26)) where
  w0 := by go_simp
  r := (hp.rd.alloc _).alloc _
  v := (hv.alloc _).alloc _
  rf := hp.far
  vf := hvf
  rl := fun hx ad e => by have := hp.rd.lt hx e; omega
  vl := fun hx ad e => by have := hv.lt hx e; omega
  a0 := by go_simp
  a1 := by go_simp
  a2 := by go_simp
  a3 := by go_simp
  b := (hb.alloc hb.size _).alloc (by have := hb.size; simp; omega) _
  hg := hg
  hw := by omega
  ha := hp.lt
end

set_option maxRecDepth 100000 in
set_option maxHeartbeats 40000000 in
theorem turns_short (S : Option Addr) (m sc : Nat) (acts : List ActT) (w : World) (hs : Rd w 4 S m sc (actCells acts)) (hm : m ≤ 120) (hd : ∀ (k : Nat) (a : ActT), acts[k]? = some a → 0 ≤ a.1 ∧ a.1 ≤ 255) :
    Calls Try.prog 4 #[.slice S m sc] w fun e w' => e = .returned (.bool true) ∧ Below w.heap.size w w' := by
  have hml : acts.length = m := by have := hs.len; rw [acts_len] at this; omega
  have Hs := hide hs
  have Hml := hide hml
  have Hd := hide hd
  clear hs hml hd
  go_enter Try.func4, Try.ntmps4
  go_wp2_with fail
  refine (awake_any _).mono ?_
  rintro e w1 ⟨rfl, hb1⟩
  have hq : PB (w1.alloc (.cells #[.slice none 0 0] 26)) w1.heap.size none 0 0 [] := ⟨by go_simp, by go_simp, Rd.nil_ _ _, fun ad h => by cases h⟩
  have hB : Below w.heap.size w (w1.alloc (.cells #[.slice none 0 0] 26)) := hb1.alloc hb1.size _
  have hgN : w.heap.size ≤ w1.heap.size := hb1.size
  have Hq := hide hq
  have HB := hide hB
  clear hq hB hb1
  go_wp2_with fail
  generalize hW : w1.alloc (.cells #[.slice none 0 0] 26) = W at *
  generalize hg : w1.heap.size = g at *
  clear hW hg w1
  go_loopw [4, 19] (fun v i wr => ∃ (k n : Nat) (A : Option Addr) (c : Nat) (V : Option Addr) (vc : Nat) (l : List Item), k ≤ m ∧ i = .int .i64 k ∧ v = .slice V n vc ∧ n ≤ 64 ∧
      PB wr g A n c l ∧ Rd wr 2 V n vc (itemCells l) ∧ (∀ ad, V = some ad → g < ad.block) ∧ Below w.heap.size w wr) (fun _ i _ => m - (intOf i).toNat)
  case atStart => exact ⟨0, 0, none, 0, none, 0, [], Nat.zero_le _, rfl, rfl, by omega, Hq.out, Rd.nil_ _ _, (fun ad h => by cases h), HB.out⟩
  case round =>
    clear Hq HB
    obtain ⟨k, n, A, c, V, vc, l, hk, rfl, rfl, hn, hp, hv, hvf, hbel⟩ := hrel
    have HB := hide hbel
    by_cases hlt : k < m
    · obtain ⟨⟨sb, so, sp⟩, rfl⟩ := Hs.out.isSome (by omega)
      have hka : k < acts.length := by rw [Hml.out]; exact hlt
      obtain ⟨a, ha⟩ : ∃ a, acts[k]? = some a := ⟨acts[k], by simp [hka]⟩
      obtain ⟨rfl, q0, q1, q2, q3⟩ := Hs.out.acts k a ha
      have hd01 := Hd.out k a ha
      obtain ⟨d, to, s, i⟩ := a
      obtain ⟨hd0, hd1⟩ := hd01
      simp only at q0 q1 q2 q3 hd0 hd1
      have q0 := cell_later hbel q0
      have q1 := cell_later hbel q1
      have q2 := cell_later hbel q2
      have q3 := cell_later hbel q3
      have HO := hide (OT.start hp hv hvf hbel hgN (d, to, s, i))
      have HP := hide ((hp.alloc (.cells #[.int .u8 d, .int .u64 to, .string s, .int .i64 i] 37)).alloc (.cells #[.slice A n c] 26))
      have HPlt := hide hp.lt
      have p0 := (hp.alloc (.cells #[.int .u8 d, .int .u64 to, .string s, .int .i64 i] 37)).c0
      clear hp hv hvf hbel ha hka
      simp only at HO
      by_cases hi : i < 0
      · skip
        have Hno : Hid (i < 0 ∨ (n : Int) ≤ i) := hide (.inl hi)
        by_cases h2 : d % 6 = 2
        · have e2 : (d % 6 == 2) = true := by simp [h2]
          clear h2
          have HN2 := hide hn
          have Hll := hide HO.out.r.itemLen
          have Hk2 : Hid (keepIf l (fun k _ => (k : Int) != i) n = l) := hide (by
            have h1 : ∀ k, k ≤ n → keepIf l (fun k _ => (k : Int) != i) k = l.take k := by
              intro k
              induction k with
              | zero => intro _; simp [keepIf]
              | succ k ih =>
                intro hk
                have hkl : k < l.length := by rw [HO.out.r.itemLen]; omega
                have h2 : ((k : Int) != i) = true := by simp; have := Hno.out; omega
                rw [keepIf_succ l _ k l[k] (by simp [hkl]), ih (by omega), h2, List.take_succ_eq_append_getElem hkl]
                rfl
            rw [h1 n (Nat.le_refl _), List.take_of_length_le (by rw [HO.out.r.itemLen]; exact Nat.le_refl _)])
          have hgw := HPlt.out
          have a3 := HO.out.a3
          have p0 := HP.out.c0
          simp only at a3
          have HXa := hide (show (((wr.alloc (.cells #[.int .u8 d, .int .u64 to, .string s, .int .i64 i] 37)).alloc (.cells #[.slice A n c] 26)).alloc (.cells #[.int .u64 0, .string ⟨#[]⟩] 32)).cell? ⟨wr.heap.size + 1 + 1, 0, none⟩ = some (.int .u64 0) by go_simp)
          have HXb := hide (show (((wr.alloc (.cells #[.int .u8 d, .int .u64 to, .string s, .int .i64 i] 37)).alloc (.cells #[.slice A n c] 26)).alloc (.cells #[.int .u64 0, .string ⟨#[]⟩] 32)).cell? ⟨wr.heap.size + 1 + 1, 1, none⟩ = some (.string ⟨#[]⟩) by go_simp)
          have HXc := hide (show (((wr.alloc (.cells #[.int .u8 d, .int .u64 to, .string s, .int .i64 i] 37)).alloc (.cells #[.slice A n c] 26)).alloc (.cells #[.int .u64 0, .string ⟨#[]⟩] 32)).frozen? ⟨wr.heap.size + 1 + 1, 0, none⟩ = false by go_simp)
          have HXd := hide (show (((wr.alloc (.cells #[.int .u8 d, .int .u64 to, .string s, .int .i64 i] 37)).alloc (.cells #[.slice A n c] 26)).alloc (.cells #[.int .u64 0, .string ⟨#[]⟩] 32)).frozen? ⟨wr.heap.size + 1 + 1, 1, none⟩ = false by go_simp)
          have HXs := hide (show wr.heap.size + 1 + 1 < (((wr.alloc (.cells #[.int .u8 d, .int .u64 to, .string s, .int .i64 i] 37)).alloc (.cells #[.slice A n c] 26)).alloc (.cells #[.int .u64 0, .string ⟨#[]⟩] 32)).heap.size by simp)
          have HXp := hide (show ∀ ad, A = some ad → itemCells l ≠ [] → wr.heap.size + 1 + 1 ≠ ad.block from fun ad e h => by have := HO.out.rl h ad e; omega)
          have a3 := (HO.out.alloc (.cells #[.int .u64 0, .string ⟨#[]⟩] 32)).a3
          have p0 := (HP.out.alloc (.cells #[.int .u64 0, .string ⟨#[]⟩] 32)).c0
          simp only at a3
          have HO := hide (HO.out.alloc (.cells #[.int .u64 0, .string ⟨#[]⟩] 32))
          have HP := hide (HP.out.alloc (.cells #[.int .u64 0, .string ⟨#[]⟩] 32))
          go_wp2_with fail
          generalize hW : ((wr.alloc (.cells #[.int .u8 d, .int .u64 to, .string s, .int .i64 i] 37)).alloc (.cells #[.slice A n c] 26)) = W at *
          clear hW
          refine (deliver_no A n c l i _ HP.out.rd Hno.out).mono ?_
          rintro e w4 ⟨rfl, hb4⟩
          have HR := hide (HP.out.rd.below hb4)
          have HF := hide HP.out.far
          have HO := hide (HO.out.step hb4)
          have HP := hide (HP.out.step hb4)
          have a3 := HO.out.a3
          have p0 := HP.out.c0
          have p1 := HP.out.f0
          simp only at a3
          have x0 := cell_later hb4 HXa.out
          have x1 := cell_later hb4 HXb.out
          have x2 := (hb4.frozen (p := ⟨wr.heap.size + 1 + 1, 0, none⟩) HXs.out).trans HXc.out
          have x3 := (hb4.frozen (p := ⟨wr.heap.size + 1 + 1, 1, none⟩) HXs.out).trans HXd.out
          have hgx : ¬ g = wr.heap.size + 1 + 1 := by have := HO.out.ha; omega
          have hxg : ¬ wr.heap.size + 1 + 1 = g := by have := HO.out.ha; omega
          clear hb4
          go_wp2_with fail
          have z0 : (((w4.setCell ⟨g, 0, none⟩ (.slice A n c)).setCell ⟨wr.heap.size + 1 + 1, 0, none⟩ (.int .u64 0)).setCell ⟨wr.heap.size + 1 + 1, 1, none⟩ (.string ⟨#[]⟩)).cell? ⟨wr.heap.size + 1 + 1, 0, none⟩ = some (.int .u64 0) := by go_simp
          have z1 : (((w4.setCell ⟨g, 0, none⟩ (.slice A n c)).setCell ⟨wr.heap.size + 1 + 1, 0, none⟩ (.int .u64 0)).setCell ⟨wr.heap.size + 1 + 1, 1, none⟩ (.string ⟨#[]⟩)).cell? ⟨wr.heap.size + 1 + 1, 1, none⟩ = some (.string ⟨#[]⟩) := by go_simp
          have HP := hide (((HP.out.store HR.out HF.out).far' ⟨wr.heap.size + 1 + 1, 0, none⟩ (by simp only; omega) (by exact HXp.out) (.int .u64 0)).far' ⟨wr.heap.size + 1 + 1, 1, none⟩ (by simp only; omega) (by exact HXp.out) (.string ⟨#[]⟩))
          have HO := hide (((HO.out.store (.slice A n c)).far ⟨wr.heap.size + 1 + 1, 0, none⟩ (by simp only; omega) (.int .u64 0)).far ⟨wr.heap.size + 1 + 1, 1, none⟩ (by simp only; omega) (.string ⟨#[]⟩))
          clear x0 x1 x2 x3 a3 p0 p1 HXa HXb HXc HXd HXp HXs HR HF
          generalize hW5 : ((w4.setCell ⟨g, 0, none⟩ (.slice A n c)).setCell ⟨wr.heap.size + 1 + 1, 0, none⟩ (.int .u64 0)).setCell ⟨wr.heap.size + 1 + 1, 1, none⟩ (.string ⟨#[]⟩) = W5 at *
          clear hW5
          have a3 := HO.out.a3
          simp only at a3
          go_quiet (fail)
          clear z0 z1
          go_wp2_with fail
          refine (refDrop_any _ n vc l l i _ (by first | exact HO.out.v | exact HO.out.v.drewN _) (by omega) Hk2.out).mono ?_
          rintro e w6 ⟨V6, v6, rfl, hr6, hf6, hb6⟩
          rw [Hll.out] at hr6 ⊢
          have HVf := hide (show ∀ ad, V6 = some ad → g < ad.block from fun ad e => Nat.lt_of_lt_of_le HP.out.lt (hf6 ad e))
          have HO := hide ((by first | exact HO.out.step hb6 | exact (HO.out.drewN _).step hb6) : OT _ g _ _ A n c _ vc l _ w6)
          have HP := hide ((by first | exact HP.out.step hb6 | exact (HP.out.drewN _).step hb6) : PB w6 g A n c l)
          have HV := hide hr6
          clear hr6 hf6 hb6
          have p0 := HP.out.c0
          have o0 := HO.out.w0
          go_wp2_with fail
          refine (is_any _ _ _ _ _ _ _ HP.out.rd HV.out (by have := HN2.out; omega)).mono ?_
          rintro e w7 ⟨rfl, hb7⟩
          have HO := hide (HO.out.step hb7)
          have HP := hide (HP.out.step hb7)
          have HV := hide (HV.out.below hb7)
          have o0 := HO.out.w0
          clear hb7
          go_wp2_with fail
          refine (is_any _ _ _ _ _ _ _ HO.out.r HO.out.v (by omega)).mono ?_
          rintro e w8 ⟨rfl, hb8⟩
          have HO := hide (HO.out.step hb8)
          have HP := hide (HP.out.step hb8)
          have HV := hide (HV.out.below hb8)
          clear hb8 o0
          go_wp2_with fail
          go_roundw
          case rel => exact ⟨k + 1, _, _, _, _, _, _, by omega, by go_num, rfl, HN2.out, HP.out, HV.out, HVf.out, HO.out.b⟩
          case measure => simp [intOf]; omega
        by_cases h3 : d % 6 = 3
        · have e3 : (d % 6 == 3) = true := by simp [h3]
          have e2 : (d % 6 == 2) = false := by simp [h2]
          clear h2 h3
          have hgw := HPlt.out
          have a3 := HO.out.a3
          have p0 := HP.out.c0
          simp only at a3
          have HN2 := hide hn
          go_wp2_with fail
          generalize hW : ((wr.alloc (.cells #[.int .u8 d, .int .u64 to, .string s, .int .i64 i] 37)).alloc (.cells #[.slice A n c] 26)) = W at *
          clear hW
          refine (double_no A n c i _ Hno.out).mono ?_
          rintro e w4 ⟨rfl, hb4⟩
          have HR := hide (HP.out.rd.below hb4)
          have HF := hide HP.out.far
          have HO := hide (HO.out.step hb4)
          have HP := hide (HP.out.step hb4)
          have p0 := HP.out.c0
          have p1 := HP.out.f0
          clear hb4
          have HPn := hide (HP.out.store HR.out HF.out)
          have HOn := hide (HO.out.store (.slice A n c))
          have o0 := HOn.out.w0
          have p0' := HPn.out.c0
          go_wp2_with fail
          clear a3 p0 p1 p0' HR HF HP HO
          have HP := HPn
          have HO := HOn
          have HV := hide HO.out.v
          have HVf := hide HO.out.vf
          clear HPn HOn o0
          refine (is_any _ _ _ _ _ _ _ HP.out.rd HV.out (by have := HN2.out; omega)).mono ?_
          rintro e w7 ⟨rfl, hb7⟩
          have HO := hide (HO.out.step hb7)
          have HP := hide (HP.out.step hb7)
          have HV := hide (HV.out.below hb7)
          have o0 := HO.out.w0
          clear hb7
          go_wp2_with fail
          refine (is_any _ _ _ _ _ _ _ HO.out.r HO.out.v (by omega)).mono ?_
          rintro e w8 ⟨rfl, hb8⟩
          have HO := hide (HO.out.step hb8)
          have HP := hide (HP.out.step hb8)
          have HV := hide (HV.out.below hb8)
          clear hb8 o0
          go_wp2_with fail
          go_roundw
          case rel => exact ⟨k + 1, _, _, _, _, _, _, by omega, by go_num, rfl, HN2.out, HP.out, HV.out, HVf.out, HO.out.b⟩
          case measure => simp [intOf]; omega
        by_cases h4 : d % 6 = 4
        · have e4 : (d % 6 == 4) = true := by simp [h4]
          have e2 : (d % 6 == 2) = false := by simp [h2]
          have e3 : (d % 6 == 3) = false := by simp [h3]
          clear h2 h3 h4
          have HN2 := hide hn
          have Hll := hide HO.out.r.itemLen
          have Hk2 : Hid (keepIf l (fun k _ => (k : Int) != i) n = l) := hide (by
            have h1 : ∀ k, k ≤ n → keepIf l (fun k _ => (k : Int) != i) k = l.take k := by
              intro k
              induction k with
              | zero => intro _; simp [keepIf]
              | succ k ih =>
                intro hk
                have hkl : k < l.length := by rw [HO.out.r.itemLen]; omega
                have h2 : ((k : Int) != i) = true := by simp; have := Hno.out; omega
                rw [keepIf_succ l _ k l[k] (by simp [hkl]), ih (by omega), h2, List.take_succ_eq_append_getElem hkl]
                rfl
            rw [h1 n (Nat.le_refl _), List.take_of_length_le (by rw [HO.out.r.itemLen]; exact Nat.le_refl _)])
          have hgw := HPlt.out
          have a3 := HO.out.a3
          have p0 := HP.out.c0
          simp only at a3
          go_wp2_with fail
          generalize hW : ((wr.alloc (.cells #[.int .u8 d, .int .u64 to, .string s, .int .i64 i] 37)).alloc (.cells #[.slice A n c] 26)) = W at *
          clear hW
          refine (lose_no A n c l i _ HP.out.rd Hno.out).mono ?_
          rintro e w4 ⟨rfl, hb4⟩
          have HR := hide (HP.out.rd.below hb4)
          have HF := hide HP.out.far
          have HO := hide (HO.out.step hb4)
          have HP := hide (HP.out.step hb4)
          have a3 := HO.out.a3
          have p0 := HP.out.c0
          have p1 := HP.out.f0
          simp only at a3
          clear hb4
          have a3' := (HO.out.store (.slice A n c)).a3
          simp only at a3'
          have HPn := hide (HP.out.store HR.out HF.out)
          have HOn := hide (HO.out.store (.slice A n c))
          go_wp2_with fail
          clear a3 a3' p0 p1 HR HF HP HO
          have HP := HPn
          have HO := HOn
          clear HPn HOn
          refine (refDrop_any _ n vc l l i _ (by first | exact HO.out.v | exact HO.out.v.drewN _) (by omega) Hk2.out).mono ?_
          rintro e w6 ⟨V6, v6, rfl, hr6, hf6, hb6⟩
          rw [Hll.out] at hr6 ⊢
          have HVf := hide (show ∀ ad, V6 = some ad → g < ad.block from fun ad e => Nat.lt_of_lt_of_le HP.out.lt (hf6 ad e))
          have HO := hide ((by first | exact HO.out.step hb6 | exact (HO.out.drewN _).step hb6) : OT _ g _ _ A n c _ vc l _ w6)
          have HP := hide ((by first | exact HP.out.step hb6 | exact (HP.out.drewN _).step hb6) : PB w6 g A n c l)
          have HV := hide hr6
          clear hr6 hf6 hb6
          have p0 := HP.out.c0
          have o0 := HO.out.w0
          go_wp2_with fail
          refine (is_any _ _ _ _ _ _ _ HP.out.rd HV.out (by have := HN2.out; omega)).mono ?_
          rintro e w7 ⟨rfl, hb7⟩
          have HO := hide (HO.out.step hb7)
          have HP := hide (HP.out.step hb7)
          have HV := hide (HV.out.below hb7)
          have o0 := HO.out.w0
          clear hb7
          go_wp2_with fail
          refine (is_any _ _ _ _ _ _ _ HO.out.r HO.out.v (by omega)).mono ?_
          rintro e w8 ⟨rfl, hb8⟩
          have HO := hide (HO.out.step hb8)
          have HP := hide (HP.out.step hb8)
          have HV := hide (HV.out.below hb8)
          clear hb8 o0
          go_wp2_with fail
          go_roundw
          case rel => exact ⟨k + 1, _, _, _, _, _, _, by omega, by go_num, rfl, HN2.out, HP.out, HV.out, HVf.out, HO.out.b⟩
          case measure => simp [intOf]; omega
        by_cases h5 : d % 6 = 5
        · have e5 : (d % 6 == 5) = true := by simp [h5]
          have e2 : (d % 6 == 2) = false := by simp [h2]
          have e3 : (d % 6 == 3) = false := by simp [h3]
          have e4 : (d % 6 == 4) = false := by simp [h4]
          clear h2 h3 h4 h5
          obtain ⟨l2, hl2⟩ : ∃ l2, l.filter (notTo to) = l2 := ⟨_, rfl⟩
          have Hl2 := hide hl2
          have HN2 := hide (show l2.length ≤ 64 by rw [← hl2]; exact Nat.le_trans (List.length_filter_le _ _) (by rw [HO.out.r.itemLen]; exact hn))
          have Hk2 : Hid (keepIf l (fun _ x => x.1 != to) n = l2) := hide (by rw [← hl2, keepIf_filter l (fun x => x.1 != to) n, List.take_of_length_le (by rw [HO.out.r.itemLen]; exact Nat.le_refl _)]; rfl)
          clear hl2
          go_wp2_with fail
          generalize hW : (wr.alloc (.cells #[.int .u8 d, .int .u64 to, .string s, .int .i64 i] 37)).alloc (.cells #[.slice A n c] 26) = W at *
          clear hW
          have HO := hide HO.out.drew
          have HP := hide HP.out.drew
          have a1 := HO.out.a1
          have a2 := HO.out.a2
          have p0 := HP.out.c0
          simp only at a1 a2
          refine region_e 8 (fun w' => w'.cell? ⟨wr.heap.size, 1, none⟩ = some (.int .u64 to) ∧ w'.cell? ⟨wr.heap.size, 2, none⟩ = some (.string s) ∧ w'.cell? ⟨g, 0, none⟩ = some (.slice A n c)) (by kernel_rfl) ⟨a1, a2, p0⟩ (fun hHeld => ?_)
          refine' AnyE.take (i := 0) [3] rfl (by kernel_rfl) (fun _ _ _ h => h) (Or.inl ⟨by rfl, ?_⟩) (by assumption) ?_
          rotate_left
          · (intro w hSw; (try dsimp only at hSw); go_simp; try with_reducible rfl)
          try simp only [Act.put, List.setIfInBounds_toArray, List.set_cons_zero, List.set_cons_succ]
          refine' AnyE.take (i := 1) [3, 2] rfl (by kernel_rfl) (fun _ _ _ h => h) (Or.inl ⟨by rfl, ?_⟩) (by assumption) ?_
          rotate_left
          · (intro w hSw; (try dsimp only at hSw); go_simp; try with_reducible rfl)
          try simp only [Act.put, List.setIfInBounds_toArray, List.set_cons_zero, List.set_cons_succ]
          refine' AnyE.take (i := 2) [3] rfl (by kernel_rfl) (fun _ _ _ h => h) (Or.inl ⟨by rfl, ?_⟩) (by assumption) ?_
          rotate_left
          · (intro w hSw; (try dsimp only at hSw); go_simp; try with_reducible rfl)
          try simp only [Act.put, List.setIfInBounds_toArray, List.set_cons_zero, List.set_cons_succ]
          refine' AnyE.take (i := 4) [7] rfl (by kernel_rfl) (fun _ _ _ h => h) (Or.inl ⟨by rfl, ?_⟩) (by assumption) ?_
          rotate_left
          · (intro w hSw; (try dsimp only at hSw); go_simp; try with_reducible rfl)
          try simp only [Act.put, List.setIfInBounds_toArray, List.set_cons_zero, List.set_cons_succ]
          refine' AnyE.take (i := 5) [7, 6] rfl (by kernel_rfl) (fun _ _ _ h => h) (Or.inl ⟨by rfl, ?_⟩) (by assumption) ?_
          rotate_left
          · (intro w hSw; (try dsimp only at hSw); go_simp; try with_reducible rfl)
          try simp only [Act.put, List.setIfInBounds_toArray, List.set_cons_zero, List.set_cons_succ]
          refine' AnyE.take (i := 6) [7] rfl (by kernel_rfl) (fun _ _ _ h => h) (Or.inl ⟨by rfl, ?_⟩) (by assumption) ?_
          rotate_left
          · (intro w hSw; (try dsimp only at hSw); go_simp; try with_reducible rfl)
          try simp only [Act.put, List.setIfInBounds_toArray, List.set_cons_zero, List.set_cons_succ]
          refine AnyE.ready (rs := [3]) (by kernel_rfl) (ReadyE.cons rfl (fun K hK => ?_) ReadyE.nil)
          go_simp
          refine (clear_any A n c l l2 to _ HP.out.rd (by omega) Hl2.out).mono ?_
          rintro e w5 ⟨A5, c5, rfl, hr5, hf5, hb5⟩
          have HF := hide (show ∀ ad, A5 = some ad → g < ad.block from fun ad e => by have := hf5 ad e; have := HP.out.lt; omega)
          have HO := hide (HO.out.step hb5)
          have HP := hide (HP.out.step hb5)
          have HR := hide hr5
          clear a1 a2 p0
          have a1 := HO.out.a1
          have a2 := HO.out.a2
          have p0 := HP.out.c0
          have p1 := HP.out.f0
          simp only at a1 a2
          clear hr5 hf5 hb5
          go_wp2_with fail
          refine hK.out _ _ ⟨a1, a2, p0⟩ (fun hHeld => ?_)
          clear hK K
          try simp only [Act.put, List.setIfInBounds_toArray, List.set_cons_zero, List.set_cons_succ]
          refine AnyE.ready (rs := [7]) (by kernel_rfl) (ReadyE.cons rfl (fun K hK => ?_) ReadyE.nil)
          go_simp
          refine (refClear_any _ n vc l l2 to _ HO.out.v (by omega) Hk2.out).mono ?_
          rintro e w6 ⟨V6, v6, rfl, hr6, hf6, hb6⟩
          have HVf := hide (show ∀ ad, V6 = some ad → g < ad.block from fun ad e => by have := hf6 ad e; have := HP.out.lt; omega)
          have HO := hide (HO.out.step hb6)
          have HP := hide (HP.out.step hb6)
          have HV := hide hr6
          have HR := hide (HR.out.below hb6)
          clear a1 a2 p0 p1
          have a1 := HO.out.a1
          have a2 := HO.out.a2
          have p0 := HP.out.c0
          have p1 := HP.out.f0
          simp only at a1 a2
          clear hr6 hf6 hb6
          go_wp2_with fail
          refine hK.out _ _ ⟨a1, a2, p0⟩ (fun hHeld => ?_)
          clear hK K
          try simp only [Act.put, List.setIfInBounds_toArray, List.set_cons_zero, List.set_cons_succ]
          refine AnyE.one (i := 8) rfl (by kernel_rfl) (fun K hK => ?_)
          go_simp
          refine hK.out _ _ ?_
          clear hK K
          try simp only [Act.put, List.setIfInBounds_toArray, List.set_cons_zero, List.set_cons_succ]
          refine AnyE.one (i := 9) rfl (by kernel_rfl) (fun K hK => ?_)
          go_simp
          refine hK.out _ _ ?_
          clear hK K
          try simp only [Act.put, List.setIfInBounds_toArray, List.set_cons_zero, List.set_cons_succ]
          refine AnyE.one (i := 10) rfl (by kernel_rfl) (fun K hK => ?_)
          go_simp
          refine hK.out _ _ ?_
          clear hK K
          try simp only [Act.put, List.setIfInBounds_toArray, List.set_cons_zero, List.set_cons_succ]
          refine AnyE.done (by kernel_rfl) ?_
          go_wp2_with fail
          have HP := hide (HP.out.store HR.out HF.out)
          have HO := hide (HO.out.store (.slice A5 l2.length c5))
          have HV := hide (HV.out.setCell (p := ⟨g, 0, none⟩) (.slice A5 l2.length c5) (fun _ ad e => by have := HVf.out ad e; simp only; omega))
          clear a1 a2 p0 p1 hHeld
          have p0 := HP.out.c0
          have o0 := HO.out.w0
          go_wp2_with fail
          refine (is_any _ _ _ _ _ _ _ HP.out.rd HV.out (by have := HN2.out; omega)).mono ?_
          rintro e w7 ⟨rfl, hb7⟩
          have HO := hide (HO.out.step hb7)
          have HP := hide (HP.out.step hb7)
          have HV := hide (HV.out.below hb7)
          have o0 := HO.out.w0
          clear hb7
          go_wp2_with fail
          refine (is_any _ _ _ _ _ _ _ HO.out.r HO.out.v (by omega)).mono ?_
          rintro e w8 ⟨rfl, hb8⟩
          have HO := hide (HO.out.step hb8)
          have HP := hide (HP.out.step hb8)
          have HV := hide (HV.out.below hb8)
          clear hb8 o0
          go_wp2_with fail
          go_roundw
          case rel => exact ⟨k + 1, _, _, _, _, _, _, by omega, by go_num, rfl, HN2.out, HP.out, HV.out, HVf.out, HO.out.b⟩
          case measure => simp [intOf]; omega
        have e2 : (d % 6 == 2) = false := by simp [h2]
        have e3 : (d % 6 == 3) = false := by simp [h3]
        have e4 : (d % 6 == 4) = false := by simp [h4]
        have e5 : (d % 6 == 5) = false := by simp [h5]
        clear h2 h3 h4 h5
        obtain ⟨l2, hl2⟩ : ∃ l2, sendL l (to, s) = l2 := ⟨_, rfl⟩
        have Hl2 := hide hl2
        have HN2 := hide (show l2.length ≤ 64 by rw [← hl2]; exact sendL_len _ _ (by rw [HO.out.r.itemLen]; exact hn))
        have Hk2 := hide (hl2 ▸ sendL_keep l (to, s) n HO.out.r.itemLen hn)
        clear hl2
        go_wp2_with fail
        generalize hW : (wr.alloc (.cells #[.int .u8 d, .int .u64 to, .string s, .int .i64 i] 37)).alloc (.cells #[.slice A n c] 26) = W at *
        clear hW
        have HO := hide HO.out.drew
        have HP := hide HP.out.drew
        have a1 := HO.out.a1
        have a2 := HO.out.a2
        have p0 := HP.out.c0
        simp only at a1 a2
        refine region_e 13 (fun w' => w'.cell? ⟨wr.heap.size, 1, none⟩ = some (.int .u64 to) ∧ w'.cell? ⟨wr.heap.size, 2, none⟩ = some (.string s) ∧ w'.cell? ⟨g, 0, none⟩ = some (.slice A n c)) (by kernel_rfl) ⟨a1, a2, p0⟩ (fun hHeld => ?_)
        refine' AnyE.take (i := 0) [5] rfl (by kernel_rfl) (fun _ _ _ h => h) (Or.inl ⟨by rfl, ?_⟩) (by assumption) ?_
        rotate_left
        · (intro w hSw; (try dsimp only at hSw); go_simp; try with_reducible rfl)
        try simp only [Act.put, List.setIfInBounds_toArray, List.set_cons_zero, List.set_cons_succ]
        refine' AnyE.take (i := 1) [5, 2] rfl (by kernel_rfl) (fun _ _ _ h => h) (Or.inl ⟨by rfl, ?_⟩) (by assumption) ?_
        rotate_left
        · (intro w hSw; (try dsimp only at hSw); go_simp; try with_reducible rfl)
        try simp only [Act.put, List.setIfInBounds_toArray, List.set_cons_zero, List.set_cons_succ]
        refine' AnyE.take (i := 2) [5] rfl (by kernel_rfl) (fun _ _ _ h => h) (Or.inl ⟨by rfl, ?_⟩) (by assumption) ?_
        rotate_left
        · (intro w hSw; (try dsimp only at hSw); go_simp; try with_reducible rfl)
        try simp only [Act.put, List.setIfInBounds_toArray, List.set_cons_zero, List.set_cons_succ]
        refine' AnyE.take (i := 3) [5, 4] rfl (by kernel_rfl) (fun _ _ _ h => h) (Or.inl ⟨by rfl, ?_⟩) (by assumption) ?_
        rotate_left
        · (intro w hSw; (try dsimp only at hSw); go_simp; try with_reducible rfl)
        try simp only [Act.put, List.setIfInBounds_toArray, List.set_cons_zero, List.set_cons_succ]
        refine' AnyE.take (i := 4) [5] rfl (by kernel_rfl) (fun _ _ _ h => h) (Or.inl ⟨by rfl, ?_⟩) (by assumption) ?_
        rotate_left
        · (intro w hSw; (try dsimp only at hSw); go_simp; try with_reducible rfl)
        try simp only [Act.put, List.setIfInBounds_toArray, List.set_cons_zero, List.set_cons_succ]
        refine' AnyE.take (i := 6) [12] rfl (by kernel_rfl) (fun _ _ _ h => h) (Or.inl ⟨by rfl, ?_⟩) (by assumption) ?_
        rotate_left
        · (intro w hSw; (try dsimp only at hSw); go_simp; try with_reducible rfl)
        try simp only [Act.put, List.setIfInBounds_toArray, List.set_cons_zero, List.set_cons_succ]
        refine' AnyE.take (i := 7) [12, 11, 8] rfl (by kernel_rfl) (fun _ _ _ h => h) (Or.inl ⟨by rfl, ?_⟩) (by assumption) ?_
        rotate_left
        · (intro w hSw; (try dsimp only at hSw); go_simp; try with_reducible rfl)
        try simp only [Act.put, List.setIfInBounds_toArray, List.set_cons_zero, List.set_cons_succ]
        refine' AnyE.take (i := 8) [12, 11] rfl (by kernel_rfl) (fun _ _ _ h => h) (Or.inl ⟨by rfl, ?_⟩) (by assumption) ?_
        rotate_left
        · (intro w hSw; (try dsimp only at hSw); go_simp; try with_reducible rfl)
        try simp only [Act.put, List.setIfInBounds_toArray, List.set_cons_zero, List.set_cons_succ]
        refine' AnyE.take (i := 9) [12, 11, 10] rfl (by kernel_rfl) (fun _ _ _ h => h) (Or.inl ⟨by rfl, ?_⟩) (by assumption) ?_
        rotate_left
        · (intro w hSw; (try dsimp only at hSw); go_simp; try with_reducible rfl)
        try simp only [Act.put, List.setIfInBounds_toArray, List.set_cons_zero, List.set_cons_succ]
        refine' AnyE.take (i := 10) [12, 11] rfl (by kernel_rfl) (fun _ _ _ h => h) (Or.inl ⟨by rfl, ?_⟩) (by assumption) ?_
        rotate_left
        · (intro w hSw; (try dsimp only at hSw); go_simp; try with_reducible rfl)
        try simp only [Act.put, List.setIfInBounds_toArray, List.set_cons_zero, List.set_cons_succ]
        refine' AnyE.take (i := 11) [12] rfl (by kernel_rfl) (fun _ _ _ h => h) (Or.inl ⟨by rfl, ?_⟩) (by assumption) ?_
        rotate_left
        · (intro w hSw; (try dsimp only at hSw); go_simp; try with_reducible rfl)
        try simp only [Act.put, List.setIfInBounds_toArray, List.set_cons_zero, List.set_cons_succ]
        refine AnyE.ready (rs := [5]) (by kernel_rfl) (ReadyE.cons rfl (fun K hK => ?_) ReadyE.nil)
        go_simp
        refine (send_any A n c l l2 to s _ HP.out.rd hn Hl2.out).mono ?_
        rintro e w5 ⟨A5, c5, rfl, hr5, hf5, hb5⟩
        have HF := hide (show ∀ ad, A5 = some ad → g < ad.block from fun ad e => by have := hf5 ad e; have := HP.out.lt; omega)
        have HO := hide (HO.out.step hb5)
        have HP := hide (HP.out.step hb5)
        have HR := hide hr5
        clear a1 a2 p0
        have a1 := HO.out.a1
        have a2 := HO.out.a2
        have p0 := HP.out.c0
        have p1 := HP.out.f0
        simp only at a1 a2
        clear hr5 hf5 hb5
        go_wp2_with fail
        refine hK.out _ _ ⟨a1, a2, p0⟩ (fun hHeld => ?_)
        clear hK K
        try simp only [Act.put, List.setIfInBounds_toArray, List.set_cons_zero, List.set_cons_succ]
        refine AnyE.ready (rs := [12]) (by kernel_rfl) (ReadyE.cons rfl (fun K hK => ?_) ReadyE.nil)
        go_simp
        refine (refSend_any _ n vc l l2 (to, s) _ HO.out.v (by omega) Hk2.out).mono ?_
        rintro e w6 ⟨V6, v6, rfl, hr6, hf6, hb6⟩
        have HVf := hide (show ∀ ad, V6 = some ad → g < ad.block from fun ad e => by have := hf6 ad e; have := HP.out.lt; omega)
        have HO := hide (HO.out.step hb6)
        have HP := hide (HP.out.step hb6)
        have HV := hide hr6
        have HR := hide (HR.out.below hb6)
        clear a1 a2 p0 p1
        have a1 := HO.out.a1
        have a2 := HO.out.a2
        have p0 := HP.out.c0
        have p1 := HP.out.f0
        simp only at a1 a2
        clear hr6 hf6 hb6
        go_wp2_with fail
        refine hK.out _ _ ⟨a1, a2, p0⟩ (fun hHeld => ?_)
        clear hK K
        try simp only [Act.put, List.setIfInBounds_toArray, List.set_cons_zero, List.set_cons_succ]
        refine AnyE.one (i := 13) rfl (by kernel_rfl) (fun K hK => ?_)
        go_simp
        refine hK.out _ _ ?_
        clear hK K
        try simp only [Act.put, List.setIfInBounds_toArray, List.set_cons_zero, List.set_cons_succ]
        refine AnyE.one (i := 14) rfl (by kernel_rfl) (fun K hK => ?_)
        go_simp
        refine hK.out _ _ ?_
        clear hK K
        try simp only [Act.put, List.setIfInBounds_toArray, List.set_cons_zero, List.set_cons_succ]
        refine AnyE.one (i := 15) rfl (by kernel_rfl) (fun K hK => ?_)
        go_simp
        refine hK.out _ _ ?_
        clear hK K
        try simp only [Act.put, List.setIfInBounds_toArray, List.set_cons_zero, List.set_cons_succ]
        refine AnyE.done (by kernel_rfl) ?_
        go_wp2_with fail
        have HP := hide (HP.out.store HR.out HF.out)
        have HO := hide (HO.out.store (.slice A5 l2.length c5))
        have HV := hide (HV.out.setCell (p := ⟨g, 0, none⟩) (.slice A5 l2.length c5) (fun _ ad e => by have := HVf.out ad e; simp only; omega))
        clear a1 a2 p0 p1 hHeld
        have p0 := HP.out.c0
        have o0 := HO.out.w0
        go_wp2_with fail
        refine (is_any _ _ _ _ _ _ _ HP.out.rd HV.out (by have := HN2.out; omega)).mono ?_
        rintro e w7 ⟨rfl, hb7⟩
        have HO := hide (HO.out.step hb7)
        have HP := hide (HP.out.step hb7)
        have HV := hide (HV.out.below hb7)
        have o0 := HO.out.w0
        clear hb7
        go_wp2_with fail
        refine (is_any _ _ _ _ _ _ _ HO.out.r HO.out.v (by omega)).mono ?_
        rintro e w8 ⟨rfl, hb8⟩
        have HO := hide (HO.out.step hb8)
        have HP := hide (HP.out.step hb8)
        have HV := hide (HV.out.below hb8)
        clear hb8 o0
        go_wp2_with fail
        go_roundw
        case rel => exact ⟨k + 1, _, _, _, _, _, _, by omega, by go_num, rfl, HN2.out, HP.out, HV.out, HVf.out, HO.out.b⟩
        case measure => simp [intOf]; omega
      by_cases hin : (n : Int) ≤ i
      · have Hno : Hid (i < 0 ∨ (n : Int) ≤ i) := hide (.inr hin)
        have hi0 : (0 : Int) ≤ i := by omega
        have hdec : decide (i < (n : Int)) = false := by simp; omega
        clear hi
        by_cases h2 : d % 6 = 2
        · have e2 : (d % 6 == 2) = true := by simp [h2]
          clear h2
          have HN2 := hide hn
          have Hll := hide HO.out.r.itemLen
          have Hk2 : Hid (keepIf l (fun k _ => (k : Int) != i) n = l) := hide (by
            have h1 : ∀ k, k ≤ n → keepIf l (fun k _ => (k : Int) != i) k = l.take k := by
              intro k
              induction k with
              | zero => intro _; simp [keepIf]
              | succ k ih =>
                intro hk
                have hkl : k < l.length := by rw [HO.out.r.itemLen]; omega
                have h2 : ((k : Int) != i) = true := by simp; have := Hno.out; omega
                rw [keepIf_succ l _ k l[k] (by simp [hkl]), ih (by omega), h2, List.take_succ_eq_append_getElem hkl]
                rfl
            rw [h1 n (Nat.le_refl _), List.take_of_length_le (by rw [HO.out.r.itemLen]; exact Nat.le_refl _)])
          have hgw := HPlt.out
          have a3 := HO.out.a3
          have p0 := HP.out.c0
          simp only at a3
          have HXa := hide (show (((wr.alloc (.cells #[.int .u8 d, .int .u64 to, .string s, .int .i64 i] 37)).alloc (.cells #[.slice A n c] 26)).alloc (.cells #[.int .u64 0, .string ⟨#[]⟩] 32)).cell? ⟨wr.heap.size + 1 + 1, 0, none⟩ = some (.int .u64 0) by go_simp)
          have HXb := hide (show (((wr.alloc (.cells #[.int .u8 d, .int .u64 to, .string s, .int .i64 i] 37)).alloc (.cells #[.slice A n c] 26)).alloc (.cells #[.int .u64 0, .string ⟨#[]⟩] 32)).cell? ⟨wr.heap.size + 1 + 1, 1, none⟩ = some (.string ⟨#[]⟩) by go_simp)
          have HXc := hide (show (((wr.alloc (.cells #[.int .u8 d, .int .u64 to, .string s, .int .i64 i] 37)).alloc (.cells #[.slice A n c] 26)).alloc (.cells #[.int .u64 0, .string ⟨#[]⟩] 32)).frozen? ⟨wr.heap.size + 1 + 1, 0, none⟩ = false by go_simp)
          have HXd := hide (show (((wr.alloc (.cells #[.int .u8 d, .int .u64 to, .string s, .int .i64 i] 37)).alloc (.cells #[.slice A n c] 26)).alloc (.cells #[.int .u64 0, .string ⟨#[]⟩] 32)).frozen? ⟨wr.heap.size + 1 + 1, 1, none⟩ = false by go_simp)
          have HXs := hide (show wr.heap.size + 1 + 1 < (((wr.alloc (.cells #[.int .u8 d, .int .u64 to, .string s, .int .i64 i] 37)).alloc (.cells #[.slice A n c] 26)).alloc (.cells #[.int .u64 0, .string ⟨#[]⟩] 32)).heap.size by simp)
          have HXp := hide (show ∀ ad, A = some ad → itemCells l ≠ [] → wr.heap.size + 1 + 1 ≠ ad.block from fun ad e h => by have := HO.out.rl h ad e; omega)
          have a3 := (HO.out.alloc (.cells #[.int .u64 0, .string ⟨#[]⟩] 32)).a3
          have p0 := (HP.out.alloc (.cells #[.int .u64 0, .string ⟨#[]⟩] 32)).c0
          simp only at a3
          have HO := hide (HO.out.alloc (.cells #[.int .u64 0, .string ⟨#[]⟩] 32))
          have HP := hide (HP.out.alloc (.cells #[.int .u64 0, .string ⟨#[]⟩] 32))
          go_wp2_with fail
          generalize hW : ((wr.alloc (.cells #[.int .u8 d, .int .u64 to, .string s, .int .i64 i] 37)).alloc (.cells #[.slice A n c] 26)) = W at *
          clear hW
          refine (deliver_no A n c l i _ HP.out.rd Hno.out).mono ?_
          rintro e w4 ⟨rfl, hb4⟩
          have HR := hide (HP.out.rd.below hb4)
          have HF := hide HP.out.far
          have HO := hide (HO.out.step hb4)
          have HP := hide (HP.out.step hb4)
          have a3 := HO.out.a3
          have p0 := HP.out.c0
          have p1 := HP.out.f0
          simp only at a3
          have x0 := cell_later hb4 HXa.out
          have x1 := cell_later hb4 HXb.out
          have x2 := (hb4.frozen (p := ⟨wr.heap.size + 1 + 1, 0, none⟩) HXs.out).trans HXc.out
          have x3 := (hb4.frozen (p := ⟨wr.heap.size + 1 + 1, 1, none⟩) HXs.out).trans HXd.out
          have hgx : ¬ g = wr.heap.size + 1 + 1 := by have := HO.out.ha; omega
          have hxg : ¬ wr.heap.size + 1 + 1 = g := by have := HO.out.ha; omega
          clear hb4
          go_wp2_with fail
          have z0 : (((w4.setCell ⟨g, 0, none⟩ (.slice A n c)).setCell ⟨wr.heap.size + 1 + 1, 0, none⟩ (.int .u64 0)).setCell ⟨wr.heap.size + 1 + 1, 1, none⟩ (.string ⟨#[]⟩)).cell? ⟨wr.heap.size + 1 + 1, 0, none⟩ = some (.int .u64 0) := by go_simp
          have z1 : (((w4.setCell ⟨g, 0, none⟩ (.slice A n c)).setCell ⟨wr.heap.size + 1 + 1, 0, none⟩ (.int .u64 0)).setCell ⟨wr.heap.size + 1 + 1, 1, none⟩ (.string ⟨#[]⟩)).cell? ⟨wr.heap.size + 1 + 1, 1, none⟩ = some (.string ⟨#[]⟩) := by go_simp
          have HP := hide (((HP.out.store HR.out HF.out).far' ⟨wr.heap.size + 1 + 1, 0, none⟩ (by simp only; omega) (by exact HXp.out) (.int .u64 0)).far' ⟨wr.heap.size + 1 + 1, 1, none⟩ (by simp only; omega) (by exact HXp.out) (.string ⟨#[]⟩))
          have HO := hide (((HO.out.store (.slice A n c)).far ⟨wr.heap.size + 1 + 1, 0, none⟩ (by simp only; omega) (.int .u64 0)).far ⟨wr.heap.size + 1 + 1, 1, none⟩ (by simp only; omega) (.string ⟨#[]⟩))
          clear x0 x1 x2 x3 a3 p0 p1 HXa HXb HXc HXd HXp HXs HR HF
          generalize hW5 : ((w4.setCell ⟨g, 0, none⟩ (.slice A n c)).setCell ⟨wr.heap.size + 1 + 1, 0, none⟩ (.int .u64 0)).setCell ⟨wr.heap.size + 1 + 1, 1, none⟩ (.string ⟨#[]⟩) = W5 at *
          clear hW5
          have a3 := HO.out.a3
          simp only at a3
          go_quiet (fail)
          clear z0 z1
          go_wp2_with fail
          refine (refDrop_any _ n vc l l i _ (by first | exact HO.out.v | exact HO.out.v.drewN _) (by omega) Hk2.out).mono ?_
          rintro e w6 ⟨V6, v6, rfl, hr6, hf6, hb6⟩
          rw [Hll.out] at hr6 ⊢
          have HVf := hide (show ∀ ad, V6 = some ad → g < ad.block from fun ad e => Nat.lt_of_lt_of_le HP.out.lt (hf6 ad e))
          have HO := hide ((by first | exact HO.out.step hb6 | exact (HO.out.drewN _).step hb6) : OT _ g _ _ A n c _ vc l _ w6)
          have HP := hide ((by first | exact HP.out.step hb6 | exact (HP.out.drewN _).step hb6) : PB w6 g A n c l)
          have HV := hide hr6
          clear hr6 hf6 hb6
          have p0 := HP.out.c0
          have o0 := HO.out.w0
          go_wp2_with fail
          refine (is_any _ _ _ _ _ _ _ HP.out.rd HV.out (by have := HN2.out; omega)).mono ?_
          rintro e w7 ⟨rfl, hb7⟩
          have HO := hide (HO.out.step hb7)
          have HP := hide (HP.out.step hb7)
          have HV := hide (HV.out.below hb7)
          have o0 := HO.out.w0
          clear hb7
          go_wp2_with fail
          refine (is_any _ _ _ _ _ _ _ HO.out.r HO.out.v (by omega)).mono ?_
          rintro e w8 ⟨rfl, hb8⟩
          have HO := hide (HO.out.step hb8)
          have HP := hide (HP.out.step hb8)
          have HV := hide (HV.out.below hb8)
          clear hb8 o0
          go_wp2_with fail
          go_roundw
          case rel => exact ⟨k + 1, _, _, _, _, _, _, by omega, by go_num, rfl, HN2.out, HP.out, HV.out, HVf.out, HO.out.b⟩
          case measure => simp [intOf]; omega
        by_cases h3 : d % 6 = 3
        · have e3 : (d % 6 == 3) = true := by simp [h3]
          have e2 : (d % 6 == 2) = false := by simp [h2]
          clear h2 h3
          have hgw := HPlt.out
          have a3 := HO.out.a3
          have p0 := HP.out.c0
          simp only at a3
          have HN2 := hide hn
          go_wp2_with fail
          generalize hW : ((wr.alloc (.cells #[.int .u8 d, .int .u64 to, .string s, .int .i64 i] 37)).alloc (.cells #[.slice A n c] 26)) = W at *
          clear hW
          refine (double_no A n c i _ Hno.out).mono ?_
          rintro e w4 ⟨rfl, hb4⟩
          have HR := hide (HP.out.rd.below hb4)
          have HF := hide HP.out.far
          have HO := hide (HO.out.step hb4)
          have HP := hide (HP.out.step hb4)
          have p0 := HP.out.c0
          have p1 := HP.out.f0
          clear hb4
          have HPn := hide (HP.out.store HR.out HF.out)
          have HOn := hide (HO.out.store (.slice A n c))
          have o0 := HOn.out.w0
          have p0' := HPn.out.c0
          go_wp2_with fail
          clear a3 p0 p1 p0' HR HF HP HO
          have HP := HPn
          have HO := HOn
          have HV := hide HO.out.v
          have HVf := hide HO.out.vf
          clear HPn HOn o0
          refine (is_any _ _ _ _ _ _ _ HP.out.rd HV.out (by have := HN2.out; omega)).mono ?_
          rintro e w7 ⟨rfl, hb7⟩
          have HO := hide (HO.out.step hb7)
          have HP := hide (HP.out.step hb7)
          have HV := hide (HV.out.below hb7)
          have o0 := HO.out.w0
          clear hb7
          go_wp2_with fail
          refine (is_any _ _ _ _ _ _ _ HO.out.r HO.out.v (by omega)).mono ?_
          rintro e w8 ⟨rfl, hb8⟩
          have HO := hide (HO.out.step hb8)
          have HP := hide (HP.out.step hb8)
          have HV := hide (HV.out.below hb8)
          clear hb8 o0
          go_wp2_with fail
          go_roundw
          case rel => exact ⟨k + 1, _, _, _, _, _, _, by omega, by go_num, rfl, HN2.out, HP.out, HV.out, HVf.out, HO.out.b⟩
          case measure => simp [intOf]; omega
        by_cases h4 : d % 6 = 4
        · have e4 : (d % 6 == 4) = true := by simp [h4]
          have e2 : (d % 6 == 2) = false := by simp [h2]
          have e3 : (d % 6 == 3) = false := by simp [h3]
          clear h2 h3 h4
          have HN2 := hide hn
          have Hll := hide HO.out.r.itemLen
          have Hk2 : Hid (keepIf l (fun k _ => (k : Int) != i) n = l) := hide (by
            have h1 : ∀ k, k ≤ n → keepIf l (fun k _ => (k : Int) != i) k = l.take k := by
              intro k
              induction k with
              | zero => intro _; simp [keepIf]
              | succ k ih =>
                intro hk
                have hkl : k < l.length := by rw [HO.out.r.itemLen]; omega
                have h2 : ((k : Int) != i) = true := by simp; have := Hno.out; omega
                rw [keepIf_succ l _ k l[k] (by simp [hkl]), ih (by omega), h2, List.take_succ_eq_append_getElem hkl]
                rfl
            rw [h1 n (Nat.le_refl _), List.take_of_length_le (by rw [HO.out.r.itemLen]; exact Nat.le_refl _)])
          have hgw := HPlt.out
          have a3 := HO.out.a3
          have p0 := HP.out.c0
          simp only at a3
          go_wp2_with fail
          generalize hW : ((wr.alloc (.cells #[.int .u8 d, .int .u64 to, .string s, .int .i64 i] 37)).alloc (.cells #[.slice A n c] 26)) = W at *
          clear hW
          refine (lose_no A n c l i _ HP.out.rd Hno.out).mono ?_
          rintro e w4 ⟨rfl, hb4⟩
          have HR := hide (HP.out.rd.below hb4)
          have HF := hide HP.out.far
          have HO := hide (HO.out.step hb4)
          have HP := hide (HP.out.step hb4)
          have a3 := HO.out.a3
          have p0 := HP.out.c0
          have p1 := HP.out.f0
          simp only at a3
          clear hb4
          have a3' := (HO.out.store (.slice A n c)).a3
          simp only at a3'
          have HPn := hide (HP.out.store HR.out HF.out)
          have HOn := hide (HO.out.store (.slice A n c))
          go_wp2_with fail
          clear a3 a3' p0 p1 HR HF HP HO
          have HP := HPn
          have HO := HOn
          clear HPn HOn
          refine (refDrop_any _ n vc l l i _ (by first | exact HO.out.v | exact HO.out.v.drewN _) (by omega) Hk2.out).mono ?_
          rintro e w6 ⟨V6, v6, rfl, hr6, hf6, hb6⟩
          rw [Hll.out] at hr6 ⊢
          have HVf := hide (show ∀ ad, V6 = some ad → g < ad.block from fun ad e => Nat.lt_of_lt_of_le HP.out.lt (hf6 ad e))
          have HO := hide ((by first | exact HO.out.step hb6 | exact (HO.out.drewN _).step hb6) : OT _ g _ _ A n c _ vc l _ w6)
          have HP := hide ((by first | exact HP.out.step hb6 | exact (HP.out.drewN _).step hb6) : PB w6 g A n c l)
          have HV := hide hr6
          clear hr6 hf6 hb6
          have p0 := HP.out.c0
          have o0 := HO.out.w0
          go_wp2_with fail
          refine (is_any _ _ _ _ _ _ _ HP.out.rd HV.out (by have := HN2.out; omega)).mono ?_
          rintro e w7 ⟨rfl, hb7⟩
          have HO := hide (HO.out.step hb7)
          have HP := hide (HP.out.step hb7)
          have HV := hide (HV.out.below hb7)
          have o0 := HO.out.w0
          clear hb7
          go_wp2_with fail
          refine (is_any _ _ _ _ _ _ _ HO.out.r HO.out.v (by omega)).mono ?_
          rintro e w8 ⟨rfl, hb8⟩
          have HO := hide (HO.out.step hb8)
          have HP := hide (HP.out.step hb8)
          have HV := hide (HV.out.below hb8)
          clear hb8 o0
          go_wp2_with fail
          go_roundw
          case rel => exact ⟨k + 1, _, _, _, _, _, _, by omega, by go_num, rfl, HN2.out, HP.out, HV.out, HVf.out, HO.out.b⟩
          case measure => simp [intOf]; omega
        by_cases h5 : d % 6 = 5
        · have e5 : (d % 6 == 5) = true := by simp [h5]
          have e2 : (d % 6 == 2) = false := by simp [h2]
          have e3 : (d % 6 == 3) = false := by simp [h3]
          have e4 : (d % 6 == 4) = false := by simp [h4]
          clear h2 h3 h4 h5
          obtain ⟨l2, hl2⟩ : ∃ l2, l.filter (notTo to) = l2 := ⟨_, rfl⟩
          have Hl2 := hide hl2
          have HN2 := hide (show l2.length ≤ 64 by rw [← hl2]; exact Nat.le_trans (List.length_filter_le _ _) (by rw [HO.out.r.itemLen]; exact hn))
          have Hk2 : Hid (keepIf l (fun _ x => x.1 != to) n = l2) := hide (by rw [← hl2, keepIf_filter l (fun x => x.1 != to) n, List.take_of_length_le (by rw [HO.out.r.itemLen]; exact Nat.le_refl _)]; rfl)
          clear hl2
          go_wp2_with fail
          generalize hW : (wr.alloc (.cells #[.int .u8 d, .int .u64 to, .string s, .int .i64 i] 37)).alloc (.cells #[.slice A n c] 26) = W at *
          clear hW
          have HO := hide HO.out.drew
          have HP := hide HP.out.drew
          have a1 := HO.out.a1
          have a2 := HO.out.a2
          have p0 := HP.out.c0
          simp only at a1 a2
          refine region_e 8 (fun w' => w'.cell? ⟨wr.heap.size, 1, none⟩ = some (.int .u64 to) ∧ w'.cell? ⟨wr.heap.size, 2, none⟩ = some (.string s) ∧ w'.cell? ⟨g, 0, none⟩ = some (.slice A n c)) (by kernel_rfl) ⟨a1, a2, p0⟩ (fun hHeld => ?_)
          refine' AnyE.take (i := 0) [3] rfl (by kernel_rfl) (fun _ _ _ h => h) (Or.inl ⟨by rfl, ?_⟩) (by assumption) ?_
          rotate_left
          · (intro w hSw; (try dsimp only at hSw); go_simp; try with_reducible rfl)
          try simp only [Act.put, List.setIfInBounds_toArray, List.set_cons_zero, List.set_cons_succ]
          refine' AnyE.take (i := 1) [3, 2] rfl (by kernel_rfl) (fun _ _ _ h => h) (Or.inl ⟨by rfl, ?_⟩) (by assumption) ?_
          rotate_left
          · (intro w hSw; (try dsimp only at hSw); go_simp; try with_reducible rfl)
          try simp only [Act.put, List.setIfInBounds_toArray, List.set_cons_zero, List.set_cons_succ]
          refine' AnyE.take (i := 2) [3] rfl (by kernel_rfl) (fun _ _ _ h => h) (Or.inl ⟨by rfl, ?_⟩) (by assumption) ?_
          rotate_left
          · (intro w hSw; (try dsimp only at hSw); go_simp; try with_reducible rfl)
          try simp only [Act.put, List.setIfInBounds_toArray, List.set_cons_zero, List.set_cons_succ]
          refine' AnyE.take (i := 4) [7] rfl (by kernel_rfl) (fun _ _ _ h => h) (Or.inl ⟨by rfl, ?_⟩) (by assumption) ?_
          rotate_left
          · (intro w hSw; (try dsimp only at hSw); go_simp; try with_reducible rfl)
          try simp only [Act.put, List.setIfInBounds_toArray, List.set_cons_zero, List.set_cons_succ]
          refine' AnyE.take (i := 5) [7, 6] rfl (by kernel_rfl) (fun _ _ _ h => h) (Or.inl ⟨by rfl, ?_⟩) (by assumption) ?_
          rotate_left
          · (intro w hSw; (try dsimp only at hSw); go_simp; try with_reducible rfl)
          try simp only [Act.put, List.setIfInBounds_toArray, List.set_cons_zero, List.set_cons_succ]
          refine' AnyE.take (i := 6) [7] rfl (by kernel_rfl) (fun _ _ _ h => h) (Or.inl ⟨by rfl, ?_⟩) (by assumption) ?_
          rotate_left
          · (intro w hSw; (try dsimp only at hSw); go_simp; try with_reducible rfl)
          try simp only [Act.put, List.setIfInBounds_toArray, List.set_cons_zero, List.set_cons_succ]
          refine AnyE.ready (rs := [3]) (by kernel_rfl) (ReadyE.cons rfl (fun K hK => ?_) ReadyE.nil)
          go_simp
          refine (clear_any A n c l l2 to _ HP.out.rd (by omega) Hl2.out).mono ?_
          rintro e w5 ⟨A5, c5, rfl, hr5, hf5, hb5⟩
          have HF := hide (show ∀ ad, A5 = some ad → g < ad.block from fun ad e => by have := hf5 ad e; have := HP.out.lt; omega)
          have HO := hide (HO.out.step hb5)
          have HP := hide (HP.out.step hb5)
          have HR := hide hr5
          clear a1 a2 p0
          have a1 := HO.out.a1
          have a2 := HO.out.a2
          have p0 := HP.out.c0
          have p1 := HP.out.f0
          simp only at a1 a2
          clear hr5 hf5 hb5
          go_wp2_with fail
          refine hK.out _ _ ⟨a1, a2, p0⟩ (fun hHeld => ?_)
          clear hK K
          try simp only [Act.put, List.setIfInBounds_toArray, List.set_cons_zero, List.set_cons_succ]
          refine AnyE.ready (rs := [7]) (by kernel_rfl) (ReadyE.cons rfl (fun K hK => ?_) ReadyE.nil)
          go_simp
          refine (refClear_any _ n vc l l2 to _ HO.out.v (by omega) Hk2.out).mono ?_
          rintro e w6 ⟨V6, v6, rfl, hr6, hf6, hb6⟩
          have HVf := hide (show ∀ ad, V6 = some ad → g < ad.block from fun ad e => by have := hf6 ad e; have := HP.out.lt; omega)
          have HO := hide (HO.out.step hb6)
          have HP := hide (HP.out.step hb6)
          have HV := hide hr6
          have HR := hide (HR.out.below hb6)
          clear a1 a2 p0 p1
          have a1 := HO.out.a1
          have a2 := HO.out.a2
          have p0 := HP.out.c0
          have p1 := HP.out.f0
          simp only at a1 a2
          clear hr6 hf6 hb6
          go_wp2_with fail
          refine hK.out _ _ ⟨a1, a2, p0⟩ (fun hHeld => ?_)
          clear hK K
          try simp only [Act.put, List.setIfInBounds_toArray, List.set_cons_zero, List.set_cons_succ]
          refine AnyE.one (i := 8) rfl (by kernel_rfl) (fun K hK => ?_)
          go_simp
          refine hK.out _ _ ?_
          clear hK K
          try simp only [Act.put, List.setIfInBounds_toArray, List.set_cons_zero, List.set_cons_succ]
          refine AnyE.one (i := 9) rfl (by kernel_rfl) (fun K hK => ?_)
          go_simp
          refine hK.out _ _ ?_
          clear hK K
          try simp only [Act.put, List.setIfInBounds_toArray, List.set_cons_zero, List.set_cons_succ]
          refine AnyE.one (i := 10) rfl (by kernel_rfl) (fun K hK => ?_)
          go_simp
          refine hK.out _ _ ?_
          clear hK K
          try simp only [Act.put, List.setIfInBounds_toArray, List.set_cons_zero, List.set_cons_succ]
          refine AnyE.done (by kernel_rfl) ?_
          go_wp2_with fail
          have HP := hide (HP.out.store HR.out HF.out)
          have HO := hide (HO.out.store (.slice A5 l2.length c5))
          have HV := hide (HV.out.setCell (p := ⟨g, 0, none⟩) (.slice A5 l2.length c5) (fun _ ad e => by have := HVf.out ad e; simp only; omega))
          clear a1 a2 p0 p1 hHeld
          have p0 := HP.out.c0
          have o0 := HO.out.w0
          go_wp2_with fail
          refine (is_any _ _ _ _ _ _ _ HP.out.rd HV.out (by have := HN2.out; omega)).mono ?_
          rintro e w7 ⟨rfl, hb7⟩
          have HO := hide (HO.out.step hb7)
          have HP := hide (HP.out.step hb7)
          have HV := hide (HV.out.below hb7)
          have o0 := HO.out.w0
          clear hb7
          go_wp2_with fail
          refine (is_any _ _ _ _ _ _ _ HO.out.r HO.out.v (by omega)).mono ?_
          rintro e w8 ⟨rfl, hb8⟩
          have HO := hide (HO.out.step hb8)
          have HP := hide (HP.out.step hb8)
          have HV := hide (HV.out.below hb8)
          clear hb8 o0
          go_wp2_with fail
          go_roundw
          case rel => exact ⟨k + 1, _, _, _, _, _, _, by omega, by go_num, rfl, HN2.out, HP.out, HV.out, HVf.out, HO.out.b⟩
          case measure => simp [intOf]; omega
        have e2 : (d % 6 == 2) = false := by simp [h2]
        have e3 : (d % 6 == 3) = false := by simp [h3]
        have e4 : (d % 6 == 4) = false := by simp [h4]
        have e5 : (d % 6 == 5) = false := by simp [h5]
        clear h2 h3 h4 h5
        obtain ⟨l2, hl2⟩ : ∃ l2, sendL l (to, s) = l2 := ⟨_, rfl⟩
        have Hl2 := hide hl2
        have HN2 := hide (show l2.length ≤ 64 by rw [← hl2]; exact sendL_len _ _ (by rw [HO.out.r.itemLen]; exact hn))
        have Hk2 := hide (hl2 ▸ sendL_keep l (to, s) n HO.out.r.itemLen hn)
        clear hl2
        go_wp2_with fail
        generalize hW : (wr.alloc (.cells #[.int .u8 d, .int .u64 to, .string s, .int .i64 i] 37)).alloc (.cells #[.slice A n c] 26) = W at *
        clear hW
        have HO := hide HO.out.drew
        have HP := hide HP.out.drew
        have a1 := HO.out.a1
        have a2 := HO.out.a2
        have p0 := HP.out.c0
        simp only at a1 a2
        refine region_e 13 (fun w' => w'.cell? ⟨wr.heap.size, 1, none⟩ = some (.int .u64 to) ∧ w'.cell? ⟨wr.heap.size, 2, none⟩ = some (.string s) ∧ w'.cell? ⟨g, 0, none⟩ = some (.slice A n c)) (by kernel_rfl) ⟨a1, a2, p0⟩ (fun hHeld => ?_)
        refine' AnyE.take (i := 0) [5] rfl (by kernel_rfl) (fun _ _ _ h => h) (Or.inl ⟨by rfl, ?_⟩) (by assumption) ?_
        rotate_left
        · (intro w hSw; (try dsimp only at hSw); go_simp; try with_reducible rfl)
        try simp only [Act.put, List.setIfInBounds_toArray, List.set_cons_zero, List.set_cons_succ]
        refine' AnyE.take (i := 1) [5, 2] rfl (by kernel_rfl) (fun _ _ _ h => h) (Or.inl ⟨by rfl, ?_⟩) (by assumption) ?_
        rotate_left
        · (intro w hSw; (try dsimp only at hSw); go_simp; try with_reducible rfl)
        try simp only [Act.put, List.setIfInBounds_toArray, List.set_cons_zero, List.set_cons_succ]
        refine' AnyE.take (i := 2) [5] rfl (by kernel_rfl) (fun _ _ _ h => h) (Or.inl ⟨by rfl, ?_⟩) (by assumption) ?_
        rotate_left
        · (intro w hSw; (try dsimp only at hSw); go_simp; try with_reducible rfl)
        try simp only [Act.put, List.setIfInBounds_toArray, List.set_cons_zero, List.set_cons_succ]
        refine' AnyE.take (i := 3) [5, 4] rfl (by kernel_rfl) (fun _ _ _ h => h) (Or.inl ⟨by rfl, ?_⟩) (by assumption) ?_
        rotate_left
        · (intro w hSw; (try dsimp only at hSw); go_simp; try with_reducible rfl)
        try simp only [Act.put, List.setIfInBounds_toArray, List.set_cons_zero, List.set_cons_succ]
        refine' AnyE.take (i := 4) [5] rfl (by kernel_rfl) (fun _ _ _ h => h) (Or.inl ⟨by rfl, ?_⟩) (by assumption) ?_
        rotate_left
        · (intro w hSw; (try dsimp only at hSw); go_simp; try with_reducible rfl)
        try simp only [Act.put, List.setIfInBounds_toArray, List.set_cons_zero, List.set_cons_succ]
        refine' AnyE.take (i := 6) [12] rfl (by kernel_rfl) (fun _ _ _ h => h) (Or.inl ⟨by rfl, ?_⟩) (by assumption) ?_
        rotate_left
        · (intro w hSw; (try dsimp only at hSw); go_simp; try with_reducible rfl)
        try simp only [Act.put, List.setIfInBounds_toArray, List.set_cons_zero, List.set_cons_succ]
        refine' AnyE.take (i := 7) [12, 11, 8] rfl (by kernel_rfl) (fun _ _ _ h => h) (Or.inl ⟨by rfl, ?_⟩) (by assumption) ?_
        rotate_left
        · (intro w hSw; (try dsimp only at hSw); go_simp; try with_reducible rfl)
        try simp only [Act.put, List.setIfInBounds_toArray, List.set_cons_zero, List.set_cons_succ]
        refine' AnyE.take (i := 8) [12, 11] rfl (by kernel_rfl) (fun _ _ _ h => h) (Or.inl ⟨by rfl, ?_⟩) (by assumption) ?_
        rotate_left
        · (intro w hSw; (try dsimp only at hSw); go_simp; try with_reducible rfl)
        try simp only [Act.put, List.setIfInBounds_toArray, List.set_cons_zero, List.set_cons_succ]
        refine' AnyE.take (i := 9) [12, 11, 10] rfl (by kernel_rfl) (fun _ _ _ h => h) (Or.inl ⟨by rfl, ?_⟩) (by assumption) ?_
        rotate_left
        · (intro w hSw; (try dsimp only at hSw); go_simp; try with_reducible rfl)
        try simp only [Act.put, List.setIfInBounds_toArray, List.set_cons_zero, List.set_cons_succ]
        refine' AnyE.take (i := 10) [12, 11] rfl (by kernel_rfl) (fun _ _ _ h => h) (Or.inl ⟨by rfl, ?_⟩) (by assumption) ?_
        rotate_left
        · (intro w hSw; (try dsimp only at hSw); go_simp; try with_reducible rfl)
        try simp only [Act.put, List.setIfInBounds_toArray, List.set_cons_zero, List.set_cons_succ]
        refine' AnyE.take (i := 11) [12] rfl (by kernel_rfl) (fun _ _ _ h => h) (Or.inl ⟨by rfl, ?_⟩) (by assumption) ?_
        rotate_left
        · (intro w hSw; (try dsimp only at hSw); go_simp; try with_reducible rfl)
        try simp only [Act.put, List.setIfInBounds_toArray, List.set_cons_zero, List.set_cons_succ]
        refine AnyE.ready (rs := [5]) (by kernel_rfl) (ReadyE.cons rfl (fun K hK => ?_) ReadyE.nil)
        go_simp
        refine (send_any A n c l l2 to s _ HP.out.rd hn Hl2.out).mono ?_
        rintro e w5 ⟨A5, c5, rfl, hr5, hf5, hb5⟩
        have HF := hide (show ∀ ad, A5 = some ad → g < ad.block from fun ad e => by have := hf5 ad e; have := HP.out.lt; omega)
        have HO := hide (HO.out.step hb5)
        have HP := hide (HP.out.step hb5)
        have HR := hide hr5
        clear a1 a2 p0
        have a1 := HO.out.a1
        have a2 := HO.out.a2
        have p0 := HP.out.c0
        have p1 := HP.out.f0
        simp only at a1 a2
        clear hr5 hf5 hb5
        go_wp2_with fail
        refine hK.out _ _ ⟨a1, a2, p0⟩ (fun hHeld => ?_)
        clear hK K
        try simp only [Act.put, List.setIfInBounds_toArray, List.set_cons_zero, List.set_cons_succ]
        refine AnyE.ready (rs := [12]) (by kernel_rfl) (ReadyE.cons rfl (fun K hK => ?_) ReadyE.nil)
        go_simp
        refine (refSend_any _ n vc l l2 (to, s) _ HO.out.v (by omega) Hk2.out).mono ?_
        rintro e w6 ⟨V6, v6, rfl, hr6, hf6, hb6⟩
        have HVf := hide (show ∀ ad, V6 = some ad → g < ad.block from fun ad e => by have := hf6 ad e; have := HP.out.lt; omega)
        have HO := hide (HO.out.step hb6)
        have HP := hide (HP.out.step hb6)
        have HV := hide hr6
        have HR := hide (HR.out.below hb6)
        clear a1 a2 p0 p1
        have a1 := HO.out.a1
        have a2 := HO.out.a2
        have p0 := HP.out.c0
        have p1 := HP.out.f0
        simp only at a1 a2
        clear hr6 hf6 hb6
        go_wp2_with fail
        refine hK.out _ _ ⟨a1, a2, p0⟩ (fun hHeld => ?_)
        clear hK K
        try simp only [Act.put, List.setIfInBounds_toArray, List.set_cons_zero, List.set_cons_succ]
        refine AnyE.one (i := 13) rfl (by kernel_rfl) (fun K hK => ?_)
        go_simp
        refine hK.out _ _ ?_
        clear hK K
        try simp only [Act.put, List.setIfInBounds_toArray, List.set_cons_zero, List.set_cons_succ]
        refine AnyE.one (i := 14) rfl (by kernel_rfl) (fun K hK => ?_)
        go_simp
        refine hK.out _ _ ?_
        clear hK K
        try simp only [Act.put, List.setIfInBounds_toArray, List.set_cons_zero, List.set_cons_succ]
        refine AnyE.one (i := 15) rfl (by kernel_rfl) (fun K hK => ?_)
        go_simp
        refine hK.out _ _ ?_
        clear hK K
        try simp only [Act.put, List.setIfInBounds_toArray, List.set_cons_zero, List.set_cons_succ]
        refine AnyE.done (by kernel_rfl) ?_
        go_wp2_with fail
        have HP := hide (HP.out.store HR.out HF.out)
        have HO := hide (HO.out.store (.slice A5 l2.length c5))
        have HV := hide (HV.out.setCell (p := ⟨g, 0, none⟩) (.slice A5 l2.length c5) (fun _ ad e => by have := HVf.out ad e; simp only; omega))
        clear a1 a2 p0 p1 hHeld
        have p0 := HP.out.c0
        have o0 := HO.out.w0
        go_wp2_with fail
        refine (is_any _ _ _ _ _ _ _ HP.out.rd HV.out (by have := HN2.out; omega)).mono ?_
        rintro e w7 ⟨rfl, hb7⟩
        have HO := hide (HO.out.step hb7)
        have HP := hide (HP.out.step hb7)
        have HV := hide (HV.out.below hb7)
        have o0 := HO.out.w0
        clear hb7
        go_wp2_with fail
        refine (is_any _ _ _ _ _ _ _ HO.out.r HO.out.v (by omega)).mono ?_
        rintro e w8 ⟨rfl, hb8⟩
        have HO := hide (HO.out.step hb8)
        have HP := hide (HP.out.step hb8)
        have HV := hide (HV.out.below hb8)
        clear hb8 o0
        go_wp2_with fail
        go_roundw
        case rel => exact ⟨k + 1, _, _, _, _, _, _, by omega, by go_num, rfl, HN2.out, HP.out, HV.out, HVf.out, HO.out.b⟩
        case measure => simp [intOf]; omega
      obtain ⟨q, rfl⟩ : ∃ q : Nat, i = (q : Int) := ⟨i.toNat, by omega⟩
      have hqn : q < n := by omega
      have hql : (q : Int) < (n : Int) := by omega
      have hq0 : (0 : Int) ≤ (q : Int) := by omega
      have hdec : decide ((q : Int) < (n : Int)) = true := by simp; omega
      clear hi hin
      obtain ⟨⟨vb, vo, vsp⟩, rfl⟩ := HO.out.v.isSome (by omega)
      obtain ⟨⟨xt, xs⟩, hx⟩ : ∃ x, l[q]? = some x := ⟨l[q]'(by rw [HO.out.r.itemLen]; exact hqn), by simp⟩
      have Hx := hide hx
      clear hx
      by_cases h2 : d % 6 = 2
      · have e2 : (d % 6 == 2) = true := by simp [h2]
        clear h2
        obtain ⟨l2, hl2⟩ : ∃ l2, l.eraseIdx q = l2 := ⟨_, rfl⟩
        have hle2 : l2.length = n - 1 := by rw [← hl2, List.length_eraseIdx, HO.out.r.itemLen, if_pos hqn]
        have Hle2 := hide hle2
        have HN2 := hide (show n - 1 ≤ 64 by omega)
        have Hk2 : Hid (keepIf l (fun k _ => (k : Int) != (q : Int)) n = l2) := hide (by
          rw [keepIf_erase l q n _ (fun j x => by
            by_cases h : j = q
            · subst h; simp
            · have h2 : ¬ (j : Int) = (q : Int) := by omega
              simp [h, h2]), List.take_of_length_le (by rw [HO.out.r.itemLen]; exact Nat.le_refl _), hl2])
        have Hl2 := hide hl2
        clear hle2 hl2
        have hgw := HPlt.out
        have a3 := HO.out.a3
        have p0 := HP.out.c0
        simp only at a3
        have HXa := hide (show (((wr.alloc (.cells #[.int .u8 d, .int .u64 to, .string s, .int .i64 (q : Int)] 37)).alloc (.cells #[.slice A n c] 26)).alloc (.cells #[.int .u64 0, .string ⟨#[]⟩] 32)).cell? ⟨wr.heap.size + 1 + 1, 0, none⟩ = some (.int .u64 0) by go_simp)
        have HXb := hide (show (((wr.alloc (.cells #[.int .u8 d, .int .u64 to, .string s, .int .i64 (q : Int)] 37)).alloc (.cells #[.slice A n c] 26)).alloc (.cells #[.int .u64 0, .string ⟨#[]⟩] 32)).cell? ⟨wr.heap.size + 1 + 1, 1, none⟩ = some (.string ⟨#[]⟩) by go_simp)
        have HXc := hide (show (((wr.alloc (.cells #[.int .u8 d, .int .u64 to, .string s, .int .i64 (q : Int)] 37)).alloc (.cells #[.slice A n c] 26)).alloc (.cells #[.int .u64 0, .string ⟨#[]⟩] 32)).frozen? ⟨wr.heap.size + 1 + 1, 0, none⟩ = false by go_simp)
        have HXd := hide (show (((wr.alloc (.cells #[.int .u8 d, .int .u64 to, .string s, .int .i64 (q : Int)] 37)).alloc (.cells #[.slice A n c] 26)).alloc (.cells #[.int .u64 0, .string ⟨#[]⟩] 32)).frozen? ⟨wr.heap.size + 1 + 1, 1, none⟩ = false by go_simp)
        have HXs := hide (show wr.heap.size + 1 + 1 < (((wr.alloc (.cells #[.int .u8 d, .int .u64 to, .string s, .int .i64 (q : Int)] 37)).alloc (.cells #[.slice A n c] 26)).alloc (.cells #[.int .u64 0, .string ⟨#[]⟩] 32)).heap.size by simp)
        have HXp := hide (show ∀ ad, A = some ad → itemCells l ≠ [] → wr.heap.size + 1 + 1 ≠ ad.block from fun ad e h => by have := HO.out.rl h ad e; omega)
        have a3 := (HO.out.alloc (.cells #[.int .u64 0, .string ⟨#[]⟩] 32)).a3
        have p0 := (HP.out.alloc (.cells #[.int .u64 0, .string ⟨#[]⟩] 32)).c0
        simp only at a3
        have HO := hide (HO.out.alloc (.cells #[.int .u64 0, .string ⟨#[]⟩] 32))
        have HP := hide (HP.out.alloc (.cells #[.int .u64 0, .string ⟨#[]⟩] 32))
        go_wp2_with fail
        generalize hW : ((wr.alloc (.cells #[.int .u8 d, .int .u64 to, .string s, .int .i64 (q : Int)] 37)).alloc (.cells #[.slice A n c] 26)) = W at *
        clear hW
        refine (deliver_yes A n c l q (xt, xs) _ HP.out.rd hn Hx.out).mono ?_
        rintro e w4 ⟨A4, c4, rfl, hr4, hf4, hb4⟩
        have HR := hide (Hl2.out ▸ hr4 : Rd w4 2 A4 (n - 1) c4 (itemCells l2))
        have HF := hide (show ∀ ad, A4 = some ad → g < ad.block from fun ad e => by have := hf4 ad e; have := HP.out.lt; omega)
        have HXp := hide (show ∀ ad, A4 = some ad → itemCells l2 ≠ [] → wr.heap.size + 1 + 1 ≠ ad.block from fun ad e _ => by have := hf4 ad e; have := HXs.out; omega)
        clear hr4 hf4
        have HO := hide (HO.out.step hb4)
        have HP := hide (HP.out.step hb4)
        have a3 := HO.out.a3
        have p0 := HP.out.c0
        have p1 := HP.out.f0
        simp only at a3
        have x0 := cell_later hb4 HXa.out
        have x1 := cell_later hb4 HXb.out
        have x2 := (hb4.frozen (p := ⟨wr.heap.size + 1 + 1, 0, none⟩) HXs.out).trans HXc.out
        have x3 := (hb4.frozen (p := ⟨wr.heap.size + 1 + 1, 1, none⟩) HXs.out).trans HXd.out
        have hgx : ¬ g = wr.heap.size + 1 + 1 := by have := HO.out.ha; omega
        have hxg : ¬ wr.heap.size + 1 + 1 = g := by have := HO.out.ha; omega
        clear hb4
        go_wp2_with fail
        have z0 : (((w4.setCell ⟨g, 0, none⟩ (.slice A4 (n - 1) c4)).setCell ⟨wr.heap.size + 1 + 1, 0, none⟩ (.int .u64 xt)).setCell ⟨wr.heap.size + 1 + 1, 1, none⟩ (.string xs)).cell? ⟨wr.heap.size + 1 + 1, 0, none⟩ = some (.int .u64 xt) := by go_simp
        have z1 : (((w4.setCell ⟨g, 0, none⟩ (.slice A4 (n - 1) c4)).setCell ⟨wr.heap.size + 1 + 1, 0, none⟩ (.int .u64 xt)).setCell ⟨wr.heap.size + 1 + 1, 1, none⟩ (.string xs)).cell? ⟨wr.heap.size + 1 + 1, 1, none⟩ = some (.string xs) := by go_simp
        have HP := hide (((HP.out.store HR.out HF.out).far' ⟨wr.heap.size + 1 + 1, 0, none⟩ (by simp only; omega) (by exact HXp.out) (.int .u64 xt)).far' ⟨wr.heap.size + 1 + 1, 1, none⟩ (by simp only; omega) (by exact HXp.out) (.string xs))
        have HO := hide (((HO.out.store (.slice A4 (n - 1) c4)).far ⟨wr.heap.size + 1 + 1, 0, none⟩ (by simp only; omega) (.int .u64 xt)).far ⟨wr.heap.size + 1 + 1, 1, none⟩ (by simp only; omega) (.string xs))
        clear x0 x1 x2 x3 a3 p0 p1 HXa HXb HXc HXd HXp HXs HR HF
        generalize hW5 : ((w4.setCell ⟨g, 0, none⟩ (.slice A4 (n - 1) c4)).setCell ⟨wr.heap.size + 1 + 1, 0, none⟩ (.int .u64 xt)).setCell ⟨wr.heap.size + 1 + 1, 1, none⟩ (.string xs) = W5 at *
        clear hW5
        have a3 := HO.out.a3
        simp only at a3
        obtain ⟨rfl, y0, y1⟩ := HO.out.v.items q _ Hx.out
        simp only at y0 y1
        go_quiet (fail)
        clear z0 z1 y0 y1
        go_wp2_with fail
        refine (refDrop_any _ n vc l l2 q _ (by first | exact HO.out.v | exact HO.out.v.drewN _) (by omega) Hk2.out).mono ?_
        rintro e w6 ⟨V6, v6, rfl, hr6, hf6, hb6⟩
        rw [Hle2.out] at hr6 ⊢
        have HVf := hide (show ∀ ad, V6 = some ad → g < ad.block from fun ad e => Nat.lt_of_lt_of_le HP.out.lt (hf6 ad e))
        have HO := hide ((by first | exact HO.out.step hb6 | exact (HO.out.drewN _).step hb6) : OT _ g _ _ A n c _ vc l _ w6)
        have HP := hide ((by first | exact HP.out.step hb6 | exact (HP.out.drewN _).step hb6) : PB w6 g A4 (n - 1) c4 l2)
        have HV := hide hr6
        clear hr6 hf6 hb6
        have p0 := HP.out.c0
        have o0 := HO.out.w0
        go_wp2_with fail
        refine (is_any _ _ _ _ _ _ _ HP.out.rd HV.out (by have := HN2.out; omega)).mono ?_
        rintro e w7 ⟨rfl, hb7⟩
        have HO := hide (HO.out.step hb7)
        have HP := hide (HP.out.step hb7)
        have HV := hide (HV.out.below hb7)
        have o0 := HO.out.w0
        clear hb7
        go_wp2_with fail
        refine (is_any _ _ _ _ _ _ _ HO.out.r HO.out.v (by omega)).mono ?_
        rintro e w8 ⟨rfl, hb8⟩
        have HO := hide (HO.out.step hb8)
        have HP := hide (HP.out.step hb8)
        have HV := hide (HV.out.below hb8)
        clear hb8 o0
        go_wp2_with fail
        go_roundw
        case rel => exact ⟨k + 1, _, _, _, _, _, _, by omega, by go_num, rfl, HN2.out, HP.out, HV.out, HVf.out, HO.out.b⟩
        case measure => simp [intOf]; omega
      by_cases h3 : d % 6 = 3
      · have e3 : (d % 6 == 3) = true := by simp [h3]
        have e2 : (d % 6 == 2) = false := by simp [h2]
        clear h2 h3
        have hgw := HPlt.out
        have a3 := HO.out.a3
        have p0 := HP.out.c0
        simp only at a3
        obtain ⟨l2, hl2⟩ : ∃ l2, sendL l (xt, xs) = l2 := ⟨_, rfl⟩
        have Hl2 := hide hl2
        have HN2 := hide (show l2.length ≤ 64 by rw [← hl2]; exact sendL_len _ _ (by rw [HO.out.r.itemLen]; exact hn))
        have Hk2 := hide (hl2 ▸ sendL_keep l (xt, xs) n HO.out.r.itemLen hn)
        clear hl2
        go_wp2_with fail
        generalize hW : ((wr.alloc (.cells #[.int .u8 d, .int .u64 to, .string s, .int .i64 (q : Int)] 37)).alloc (.cells #[.slice A n c] 26)) = W at *
        clear hW
        refine (double_yes A n c l l2 q (xt, xs) _ HP.out.rd hn Hx.out Hl2.out).mono ?_
        rintro e w4 ⟨A4, c4, rfl, hr4, hf4, hb4⟩
        have HR := hide hr4
        have HF := hide (show ∀ ad, A4 = some ad → g < ad.block from fun ad e => by have := hf4 ad e; have := HP.out.lt; omega)
        clear hr4 hf4
        have HO := hide (HO.out.step hb4)
        have HP := hide (HP.out.step hb4)
        have p0 := HP.out.c0
        have p1 := HP.out.f0
        clear hb4
        have HPn := hide (HP.out.store HR.out HF.out)
        have HOn := hide (HO.out.store (.slice A4 l2.length c4))
        have a3' := HOn.out.a3
        simp only at a3'
        obtain ⟨rfl, y0, y1⟩ := HOn.out.v.items q _ Hx.out
        simp only at y0 y1
        go_wp2_with fail
        clear a3 a3' p0 p1 HR HF HP HO y0 y1
        have HP := HPn
        have HO := HOn
        clear HPn HOn
        refine (refSend_any _ n vc l l2 (xt, xs) _ HO.out.v (by omega) Hk2.out).mono ?_
        rintro e w6 ⟨V6, v6, rfl, hr6, hf6, hb6⟩
        have HVf := hide (show ∀ ad, V6 = some ad → g < ad.block from fun ad e => Nat.lt_of_lt_of_le HP.out.lt (hf6 ad e))
        have HO := hide (HO.out.step hb6)
        have HP := hide (HP.out.step hb6)
        have HV := hide hr6
        clear hr6 hf6 hb6
        have p0 := HP.out.c0
        have o0 := HO.out.w0
        go_wp2_with fail
        refine (is_any _ _ _ _ _ _ _ HP.out.rd HV.out (by have := HN2.out; omega)).mono ?_
        rintro e w7 ⟨rfl, hb7⟩
        have HO := hide (HO.out.step hb7)
        have HP := hide (HP.out.step hb7)
        have HV := hide (HV.out.below hb7)
        have o0 := HO.out.w0
        clear hb7
        go_wp2_with fail
        refine (is_any _ _ _ _ _ _ _ HO.out.r HO.out.v (by omega)).mono ?_
        rintro e w8 ⟨rfl, hb8⟩
        have HO := hide (HO.out.step hb8)
        have HP := hide (HP.out.step hb8)
        have HV := hide (HV.out.below hb8)
        clear hb8 o0
        go_wp2_with fail
        go_roundw
        case rel => exact ⟨k + 1, _, _, _, _, _, _, by omega, by go_num, rfl, HN2.out, HP.out, HV.out, HVf.out, HO.out.b⟩
        case measure => simp [intOf]; omega
      by_cases h4 : d % 6 = 4
      · have e4 : (d % 6 == 4) = true := by simp [h4]
        have e2 : (d % 6 == 2) = false := by simp [h2]
        have e3 : (d % 6 == 3) = false := by simp [h3]
        clear h2 h3 h4
        obtain ⟨l2, hl2⟩ : ∃ l2, l.eraseIdx q = l2 := ⟨_, rfl⟩
        have hle2 : l2.length = n - 1 := by rw [← hl2, List.length_eraseIdx, HO.out.r.itemLen, if_pos hqn]
        have Hle2 := hide hle2
        have HN2 := hide (show n - 1 ≤ 64 by omega)
        have Hk2 : Hid (keepIf l (fun k _ => (k : Int) != (q : Int)) n = l2) := hide (by
          rw [keepIf_erase l q n _ (fun j x => by
            by_cases h : j = q
            · subst h; simp
            · have h2 : ¬ (j : Int) = (q : Int) := by omega
              simp [h, h2]), List.take_of_length_le (by rw [HO.out.r.itemLen]; exact Nat.le_refl _), hl2])
        have Hl2 := hide hl2
        clear hle2 hl2
        have hgw := HPlt.out
        have a3 := HO.out.a3
        have p0 := HP.out.c0
        simp only at a3
        go_wp2_with fail
        generalize hW : ((wr.alloc (.cells #[.int .u8 d, .int .u64 to, .string s, .int .i64 (q : Int)] 37)).alloc (.cells #[.slice A n c] 26)) = W at *
        clear hW
        refine (lose_yes A n c l q (xt, xs) _ HP.out.rd hn Hx.out).mono ?_
        rintro e w4 ⟨A4, c4, rfl, hr4, hf4, hb4⟩
        have HR := hide (Hl2.out ▸ hr4 : Rd w4 2 A4 (n - 1) c4 (itemCells l2))
        have HF := hide (show ∀ ad, A4 = some ad → g < ad.block from fun ad e => by have := hf4 ad e; have := HP.out.lt; omega)
        clear hr4 hf4
        have HO := hide (HO.out.step hb4)
        have HP := hide (HP.out.step hb4)
        have a3 := HO.out.a3
        have p0 := HP.out.c0
        have p1 := HP.out.f0
        simp only at a3
        clear hb4
        have a3' := (HO.out.store (.slice A4 (n - 1) c4)).a3
        simp only at a3'
        have HPn := hide (HP.out.store HR.out HF.out)
        have HOn := hide (HO.out.store (.slice A4 (n - 1) c4))
        go_wp2_with fail
        clear a3 a3' p0 p1 HR HF HP HO
        have HP := HPn
        have HO := HOn
        clear HPn HOn
        refine (refDrop_any _ n vc l l2 q _ (by first | exact HO.out.v | exact HO.out.v.drewN _) (by omega) Hk2.out).mono ?_
        rintro e w6 ⟨V6, v6, rfl, hr6, hf6, hb6⟩
        rw [Hle2.out] at hr6 ⊢
        have HVf := hide (show ∀ ad, V6 = some ad → g < ad.block from fun ad e => Nat.lt_of_lt_of_le HP.out.lt (hf6 ad e))
        have HO := hide ((by first | exact HO.out.step hb6 | exact (HO.out.drewN _).step hb6) : OT _ g _ _ A n c _ vc l _ w6)
        have HP := hide ((by first | exact HP.out.step hb6 | exact (HP.out.drewN _).step hb6) : PB w6 g A4 (n - 1) c4 l2)
        have HV := hide hr6
        clear hr6 hf6 hb6
        have p0 := HP.out.c0
        have o0 := HO.out.w0
        go_wp2_with fail
        refine (is_any _ _ _ _ _ _ _ HP.out.rd HV.out (by have := HN2.out; omega)).mono ?_
        rintro e w7 ⟨rfl, hb7⟩
        have HO := hide (HO.out.step hb7)
        have HP := hide (HP.out.step hb7)
        have HV := hide (HV.out.below hb7)
        have o0 := HO.out.w0
        clear hb7
        go_wp2_with fail
        refine (is_any _ _ _ _ _ _ _ HO.out.r HO.out.v (by omega)).mono ?_
        rintro e w8 ⟨rfl, hb8⟩
        have HO := hide (HO.out.step hb8)
        have HP := hide (HP.out.step hb8)
        have HV := hide (HV.out.below hb8)
        clear hb8 o0
        go_wp2_with fail
        go_roundw
        case rel => exact ⟨k + 1, _, _, _, _, _, _, by omega, by go_num, rfl, HN2.out, HP.out, HV.out, HVf.out, HO.out.b⟩
        case measure => simp [intOf]; omega
      by_cases h5 : d % 6 = 5
      · have e5 : (d % 6 == 5) = true := by simp [h5]
        have e2 : (d % 6 == 2) = false := by simp [h2]
        have e3 : (d % 6 == 3) = false := by simp [h3]
        have e4 : (d % 6 == 4) = false := by simp [h4]
        clear h2 h3 h4 h5
        obtain ⟨l2, hl2⟩ : ∃ l2, l.filter (notTo to) = l2 := ⟨_, rfl⟩
        have Hl2 := hide hl2
        have HN2 := hide (show l2.length ≤ 64 by rw [← hl2]; exact Nat.le_trans (List.length_filter_le _ _) (by rw [HO.out.r.itemLen]; exact hn))
        have Hk2 : Hid (keepIf l (fun _ x => x.1 != to) n = l2) := hide (by rw [← hl2, keepIf_filter l (fun x => x.1 != to) n, List.take_of_length_le (by rw [HO.out.r.itemLen]; exact Nat.le_refl _)]; rfl)
        clear hl2
        go_wp2_with fail
        generalize hW : (wr.alloc (.cells #[.int .u8 d, .int .u64 to, .string s, .int .i64 (q : Int)] 37)).alloc (.cells #[.slice A n c] 26) = W at *
        clear hW
        have HO := hide HO.out.drew
        have HP := hide HP.out.drew
        have a1 := HO.out.a1
        have a2 := HO.out.a2
        have p0 := HP.out.c0
        simp only at a1 a2
        refine region_e 8 (fun w' => w'.cell? ⟨wr.heap.size, 1, none⟩ = some (.int .u64 to) ∧ w'.cell? ⟨wr.heap.size, 2, none⟩ = some (.string s) ∧ w'.cell? ⟨g, 0, none⟩ = some (.slice A n c)) (by kernel_rfl) ⟨a1, a2, p0⟩ (fun hHeld => ?_)
        refine' AnyE.take (i := 0) [3] rfl (by kernel_rfl) (fun _ _ _ h => h) (Or.inl ⟨by rfl, ?_⟩) (by assumption) ?_
        rotate_left
        · (intro w hSw; (try dsimp only at hSw); go_simp; try with_reducible rfl)
        try simp only [Act.put, List.setIfInBounds_toArray, List.set_cons_zero, List.set_cons_succ]
        refine' AnyE.take (i := 1) [3, 2] rfl (by kernel_rfl) (fun _ _ _ h => h) (Or.inl ⟨by rfl, ?_⟩) (by assumption) ?_
        rotate_left
        · (intro w hSw; (try dsimp only at hSw); go_simp; try with_reducible rfl)
        try simp only [Act.put, List.setIfInBounds_toArray, List.set_cons_zero, List.set_cons_succ]
        refine' AnyE.take (i := 2) [3] rfl (by kernel_rfl) (fun _ _ _ h => h) (Or.inl ⟨by rfl, ?_⟩) (by assumption) ?_
        rotate_left
        · (intro w hSw; (try dsimp only at hSw); go_simp; try with_reducible rfl)
        try simp only [Act.put, List.setIfInBounds_toArray, List.set_cons_zero, List.set_cons_succ]
        refine' AnyE.take (i := 4) [7] rfl (by kernel_rfl) (fun _ _ _ h => h) (Or.inl ⟨by rfl, ?_⟩) (by assumption) ?_
        rotate_left
        · (intro w hSw; (try dsimp only at hSw); go_simp; try with_reducible rfl)
        try simp only [Act.put, List.setIfInBounds_toArray, List.set_cons_zero, List.set_cons_succ]
        refine' AnyE.take (i := 5) [7, 6] rfl (by kernel_rfl) (fun _ _ _ h => h) (Or.inl ⟨by rfl, ?_⟩) (by assumption) ?_
        rotate_left
        · (intro w hSw; (try dsimp only at hSw); go_simp; try with_reducible rfl)
        try simp only [Act.put, List.setIfInBounds_toArray, List.set_cons_zero, List.set_cons_succ]
        refine' AnyE.take (i := 6) [7] rfl (by kernel_rfl) (fun _ _ _ h => h) (Or.inl ⟨by rfl, ?_⟩) (by assumption) ?_
        rotate_left
        · (intro w hSw; (try dsimp only at hSw); go_simp; try with_reducible rfl)
        try simp only [Act.put, List.setIfInBounds_toArray, List.set_cons_zero, List.set_cons_succ]
        refine AnyE.ready (rs := [3]) (by kernel_rfl) (ReadyE.cons rfl (fun K hK => ?_) ReadyE.nil)
        go_simp
        refine (clear_any A n c l l2 to _ HP.out.rd (by omega) Hl2.out).mono ?_
        rintro e w5 ⟨A5, c5, rfl, hr5, hf5, hb5⟩
        have HF := hide (show ∀ ad, A5 = some ad → g < ad.block from fun ad e => by have := hf5 ad e; have := HP.out.lt; omega)
        have HO := hide (HO.out.step hb5)
        have HP := hide (HP.out.step hb5)
        have HR := hide hr5
        clear a1 a2 p0
        have a1 := HO.out.a1
        have a2 := HO.out.a2
        have p0 := HP.out.c0
        have p1 := HP.out.f0
        simp only at a1 a2
        clear hr5 hf5 hb5
        go_wp2_with fail
        refine hK.out _ _ ⟨a1, a2, p0⟩ (fun hHeld => ?_)
        clear hK K
        try simp only [Act.put, List.setIfInBounds_toArray, List.set_cons_zero, List.set_cons_succ]
        refine AnyE.ready (rs := [7]) (by kernel_rfl) (ReadyE.cons rfl (fun K hK => ?_) ReadyE.nil)
        go_simp
        refine (refClear_any _ n vc l l2 to _ HO.out.v (by omega) Hk2.out).mono ?_
        rintro e w6 ⟨V6, v6, rfl, hr6, hf6, hb6⟩
        have HVf := hide (show ∀ ad, V6 = some ad → g < ad.block from fun ad e => by have := hf6 ad e; have := HP.out.lt; omega)
        have HO := hide (HO.out.step hb6)
        have HP := hide (HP.out.step hb6)
        have HV := hide hr6
        have HR := hide (HR.out.below hb6)
        clear a1 a2 p0 p1
        have a1 := HO.out.a1
        have a2 := HO.out.a2
        have p0 := HP.out.c0
        have p1 := HP.out.f0
        simp only at a1 a2
        clear hr6 hf6 hb6
        go_wp2_with fail
        refine hK.out _ _ ⟨a1, a2, p0⟩ (fun hHeld => ?_)
        clear hK K
        try simp only [Act.put, List.setIfInBounds_toArray, List.set_cons_zero, List.set_cons_succ]
        refine AnyE.one (i := 8) rfl (by kernel_rfl) (fun K hK => ?_)
        go_simp
        refine hK.out _ _ ?_
        clear hK K
        try simp only [Act.put, List.setIfInBounds_toArray, List.set_cons_zero, List.set_cons_succ]
        refine AnyE.one (i := 9) rfl (by kernel_rfl) (fun K hK => ?_)
        go_simp
        refine hK.out _ _ ?_
        clear hK K
        try simp only [Act.put, List.setIfInBounds_toArray, List.set_cons_zero, List.set_cons_succ]
        refine AnyE.one (i := 10) rfl (by kernel_rfl) (fun K hK => ?_)
        go_simp
        refine hK.out _ _ ?_
        clear hK K
        try simp only [Act.put, List.setIfInBounds_toArray, List.set_cons_zero, List.set_cons_succ]
        refine AnyE.done (by kernel_rfl) ?_
        go_wp2_with fail
        have HP := hide (HP.out.store HR.out HF.out)
        have HO := hide (HO.out.store (.slice A5 l2.length c5))
        have HV := hide (HV.out.setCell (p := ⟨g, 0, none⟩) (.slice A5 l2.length c5) (fun _ ad e => by have := HVf.out ad e; simp only; omega))
        clear a1 a2 p0 p1 hHeld
        have p0 := HP.out.c0
        have o0 := HO.out.w0
        go_wp2_with fail
        refine (is_any _ _ _ _ _ _ _ HP.out.rd HV.out (by have := HN2.out; omega)).mono ?_
        rintro e w7 ⟨rfl, hb7⟩
        have HO := hide (HO.out.step hb7)
        have HP := hide (HP.out.step hb7)
        have HV := hide (HV.out.below hb7)
        have o0 := HO.out.w0
        clear hb7
        go_wp2_with fail
        refine (is_any _ _ _ _ _ _ _ HO.out.r HO.out.v (by omega)).mono ?_
        rintro e w8 ⟨rfl, hb8⟩
        have HO := hide (HO.out.step hb8)
        have HP := hide (HP.out.step hb8)
        have HV := hide (HV.out.below hb8)
        clear hb8 o0
        go_wp2_with fail
        go_roundw
        case rel => exact ⟨k + 1, _, _, _, _, _, _, by omega, by go_num, rfl, HN2.out, HP.out, HV.out, HVf.out, HO.out.b⟩
        case measure => simp [intOf]; omega
      have e2 : (d % 6 == 2) = false := by simp [h2]
      have e3 : (d % 6 == 3) = false := by simp [h3]
      have e4 : (d % 6 == 4) = false := by simp [h4]
      have e5 : (d % 6 == 5) = false := by simp [h5]
      clear h2 h3 h4 h5
      obtain ⟨l2, hl2⟩ : ∃ l2, sendL l (to, s) = l2 := ⟨_, rfl⟩
      have Hl2 := hide hl2
      have HN2 := hide (show l2.length ≤ 64 by rw [← hl2]; exact sendL_len _ _ (by rw [HO.out.r.itemLen]; exact hn))
      have Hk2 := hide (hl2 ▸ sendL_keep l (to, s) n HO.out.r.itemLen hn)
      clear hl2
      go_wp2_with fail
      generalize hW : (wr.alloc (.cells #[.int .u8 d, .int .u64 to, .string s, .int .i64 (q : Int)] 37)).alloc (.cells #[.slice A n c] 26) = W at *
      clear hW
      have HO := hide HO.out.drew
      have HP := hide HP.out.drew
      have a1 := HO.out.a1
      have a2 := HO.out.a2
      have p0 := HP.out.c0
      simp only at a1 a2
      refine region_e 13 (fun w' => w'.cell? ⟨wr.heap.size, 1, none⟩ = some (.int .u64 to) ∧ w'.cell? ⟨wr.heap.size, 2, none⟩ = some (.string s) ∧ w'.cell? ⟨g, 0, none⟩ = some (.slice A n c)) (by kernel_rfl) ⟨a1, a2, p0⟩ (fun hHeld => ?_)
      refine' AnyE.take (i := 0) [5] rfl (by kernel_rfl) (fun _ _ _ h => h) (Or.inl ⟨by rfl, ?_⟩) (by assumption) ?_
      rotate_left
      · (intro w hSw; (try dsimp only at hSw); go_simp; try with_reducible rfl)
      try simp only [Act.put, List.setIfInBounds_toArray, List.set_cons_zero, List.set_cons_succ]
      refine' AnyE.take (i := 1) [5, 2] rfl (by kernel_rfl) (fun _ _ _ h => h) (Or.inl ⟨by rfl, ?_⟩) (by assumption) ?_
      rotate_left
      · (intro w hSw; (try dsimp only at hSw); go_simp; try with_reducible rfl)
      try simp only [Act.put, List.setIfInBounds_toArray, List.set_cons_zero, List.set_cons_succ]
      refine' AnyE.take (i := 2) [5] rfl (by kernel_rfl) (fun _ _ _ h => h) (Or.inl ⟨by rfl, ?_⟩) (by assumption) ?_
      rotate_left
      · (intro w hSw; (try dsimp only at hSw); go_simp; try with_reducible rfl)
      try simp only [Act.put, List.setIfInBounds_toArray, List.set_cons_zero, List.set_cons_succ]
      refine' AnyE.take (i := 3) [5, 4] rfl (by kernel_rfl) (fun _ _ _ h => h) (Or.inl ⟨by rfl, ?_⟩) (by assumption) ?_
      rotate_left
      · (intro w hSw; (try dsimp only at hSw); go_simp; try with_reducible rfl)
      try simp only [Act.put, List.setIfInBounds_toArray, List.set_cons_zero, List.set_cons_succ]
      refine' AnyE.take (i := 4) [5] rfl (by kernel_rfl) (fun _ _ _ h => h) (Or.inl ⟨by rfl, ?_⟩) (by assumption) ?_
      rotate_left
      · (intro w hSw; (try dsimp only at hSw); go_simp; try with_reducible rfl)
      try simp only [Act.put, List.setIfInBounds_toArray, List.set_cons_zero, List.set_cons_succ]
      refine' AnyE.take (i := 6) [12] rfl (by kernel_rfl) (fun _ _ _ h => h) (Or.inl ⟨by rfl, ?_⟩) (by assumption) ?_
      rotate_left
      · (intro w hSw; (try dsimp only at hSw); go_simp; try with_reducible rfl)
      try simp only [Act.put, List.setIfInBounds_toArray, List.set_cons_zero, List.set_cons_succ]
      refine' AnyE.take (i := 7) [12, 11, 8] rfl (by kernel_rfl) (fun _ _ _ h => h) (Or.inl ⟨by rfl, ?_⟩) (by assumption) ?_
      rotate_left
      · (intro w hSw; (try dsimp only at hSw); go_simp; try with_reducible rfl)
      try simp only [Act.put, List.setIfInBounds_toArray, List.set_cons_zero, List.set_cons_succ]
      refine' AnyE.take (i := 8) [12, 11] rfl (by kernel_rfl) (fun _ _ _ h => h) (Or.inl ⟨by rfl, ?_⟩) (by assumption) ?_
      rotate_left
      · (intro w hSw; (try dsimp only at hSw); go_simp; try with_reducible rfl)
      try simp only [Act.put, List.setIfInBounds_toArray, List.set_cons_zero, List.set_cons_succ]
      refine' AnyE.take (i := 9) [12, 11, 10] rfl (by kernel_rfl) (fun _ _ _ h => h) (Or.inl ⟨by rfl, ?_⟩) (by assumption) ?_
      rotate_left
      · (intro w hSw; (try dsimp only at hSw); go_simp; try with_reducible rfl)
      try simp only [Act.put, List.setIfInBounds_toArray, List.set_cons_zero, List.set_cons_succ]
      refine' AnyE.take (i := 10) [12, 11] rfl (by kernel_rfl) (fun _ _ _ h => h) (Or.inl ⟨by rfl, ?_⟩) (by assumption) ?_
      rotate_left
      · (intro w hSw; (try dsimp only at hSw); go_simp; try with_reducible rfl)
      try simp only [Act.put, List.setIfInBounds_toArray, List.set_cons_zero, List.set_cons_succ]
      refine' AnyE.take (i := 11) [12] rfl (by kernel_rfl) (fun _ _ _ h => h) (Or.inl ⟨by rfl, ?_⟩) (by assumption) ?_
      rotate_left
      · (intro w hSw; (try dsimp only at hSw); go_simp; try with_reducible rfl)
      try simp only [Act.put, List.setIfInBounds_toArray, List.set_cons_zero, List.set_cons_succ]
      refine AnyE.ready (rs := [5]) (by kernel_rfl) (ReadyE.cons rfl (fun K hK => ?_) ReadyE.nil)
      go_simp
      refine (send_any A n c l l2 to s _ HP.out.rd hn Hl2.out).mono ?_
      rintro e w5 ⟨A5, c5, rfl, hr5, hf5, hb5⟩
      have HF := hide (show ∀ ad, A5 = some ad → g < ad.block from fun ad e => by have := hf5 ad e; have := HP.out.lt; omega)
      have HO := hide (HO.out.step hb5)
      have HP := hide (HP.out.step hb5)
      have HR := hide hr5
      clear a1 a2 p0
      have a1 := HO.out.a1
      have a2 := HO.out.a2
      have p0 := HP.out.c0
      have p1 := HP.out.f0
      simp only at a1 a2
      clear hr5 hf5 hb5
      go_wp2_with fail
      refine hK.out _ _ ⟨a1, a2, p0⟩ (fun hHeld => ?_)
      clear hK K
      try simp only [Act.put, List.setIfInBounds_toArray, List.set_cons_zero, List.set_cons_succ]
      refine AnyE.ready (rs := [12]) (by kernel_rfl) (ReadyE.cons rfl (fun K hK => ?_) ReadyE.nil)
      go_simp
      refine (refSend_any _ n vc l l2 (to, s) _ HO.out.v (by omega) Hk2.out).mono ?_
      rintro e w6 ⟨V6, v6, rfl, hr6, hf6, hb6⟩
      have HVf := hide (show ∀ ad, V6 = some ad → g < ad.block from fun ad e => by have := hf6 ad e; have := HP.out.lt; omega)
      have HO := hide (HO.out.step hb6)
      have HP := hide (HP.out.step hb6)
      have HV := hide hr6
      have HR := hide (HR.out.below hb6)
      clear a1 a2 p0 p1
      have a1 := HO.out.a1
      have a2 := HO.out.a2
      have p0 := HP.out.c0
      have p1 := HP.out.f0
      simp only at a1 a2
      clear hr6 hf6 hb6
      go_wp2_with fail
      refine hK.out _ _ ⟨a1, a2, p0⟩ (fun hHeld => ?_)
      clear hK K
      try simp only [Act.put, List.setIfInBounds_toArray, List.set_cons_zero, List.set_cons_succ]
      refine AnyE.one (i := 13) rfl (by kernel_rfl) (fun K hK => ?_)
      go_simp
      refine hK.out _ _ ?_
      clear hK K
      try simp only [Act.put, List.setIfInBounds_toArray, List.set_cons_zero, List.set_cons_succ]
      refine AnyE.one (i := 14) rfl (by kernel_rfl) (fun K hK => ?_)
      go_simp
      refine hK.out _ _ ?_
      clear hK K
      try simp only [Act.put, List.setIfInBounds_toArray, List.set_cons_zero, List.set_cons_succ]
      refine AnyE.one (i := 15) rfl (by kernel_rfl) (fun K hK => ?_)
      go_simp
      refine hK.out _ _ ?_
      clear hK K
      try simp only [Act.put, List.setIfInBounds_toArray, List.set_cons_zero, List.set_cons_succ]
      refine AnyE.done (by kernel_rfl) ?_
      go_wp2_with fail
      have HP := hide (HP.out.store HR.out HF.out)
      have HO := hide (HO.out.store (.slice A5 l2.length c5))
      have HV := hide (HV.out.setCell (p := ⟨g, 0, none⟩) (.slice A5 l2.length c5) (fun _ ad e => by have := HVf.out ad e; simp only; omega))
      clear a1 a2 p0 p1 hHeld
      have p0 := HP.out.c0
      have o0 := HO.out.w0
      go_wp2_with fail
      refine (is_any _ _ _ _ _ _ _ HP.out.rd HV.out (by have := HN2.out; omega)).mono ?_
      rintro e w7 ⟨rfl, hb7⟩
      have HO := hide (HO.out.step hb7)
      have HP := hide (HP.out.step hb7)
      have HV := hide (HV.out.below hb7)
      have o0 := HO.out.w0
      clear hb7
      go_wp2_with fail
      refine (is_any _ _ _ _ _ _ _ HO.out.r HO.out.v (by omega)).mono ?_
      rintro e w8 ⟨rfl, hb8⟩
      have HO := hide (HO.out.step hb8)
      have HP := hide (HP.out.step hb8)
      have HV := hide (HV.out.below hb8)
      clear hb8 o0
      go_wp2_with fail
      go_roundw
      case rel => exact ⟨k + 1, _, _, _, _, _, _, by omega, by go_num, rfl, HN2.out, HP.out, HV.out, HVf.out, HO.out.b⟩
      case measure => simp [intOf]; omega
    · obtain rfl : k = m := by omega
      go_wp2_with fail
      go_ret
      exact ⟨rfl, HB.out⟩
end Go.Proofs.Ytoocklaoedcbjaa
