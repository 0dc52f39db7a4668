/-
  PipeHonest: what is delivered was sent, to whom it was; there are never more than 64: the walk. Conditions: the turns can be read.
-/
import Derived.Test.YtoocklaoedcbjaaRoom
import Derived.Test.YtoocklaoedcbjaaActs
import Derived.Test.YtoocklaoedcbjaaHonest
namespace Go.Proofs.Ytoocklaoedcbjaa
open Go.RowKit

/-- What stands in the midst of a turn: the pipe, what was sent, the turn. -/
structure HT (w : World) (g ab : Nat) (A : Option Addr) (n c : Nat) (l : List Item) (v : Value) (ns : Nat) (snt : List Item) (a : ActT) (W : World) : Prop where
  p : PB W g A n c l
  o : W.ownsRow (g + 1) 32 2 v ns (itemCells snt)
  ol : ∀ k, v.ownBlock = some k → k < ab
  hap : itemCells l ≠ [] → ∀ ad, A = some ad → v.ownBlock ≠ some ad.block
  a0 : W.cell? ⟨ab, 0, none⟩ = some (.int .u8 a.1)
  a1 : W.cell? ⟨ab, 1, none⟩ = some (.int .u64 a.2.1)
  a2 : W.cell? ⟨ab, 2, none⟩ = some (.string a.2.2.1)
  a3 : W.cell? ⟨ab, 3, none⟩ = some (.int .i64 a.2.2.2)
  b : Below w.heap.size w W
  hg : w.heap.size ≤ g
  ha : g < ab
  sz : ab < W.heap.size

section
variable {w W W' : World} {g ab : Nat} {A : Option Addr} {n c : Nat} {l : List Item} {v : Value} {ns : Nat} {snt : List Item} {a : ActT}
theorem HT.step (h : HT w g ab A n c l v ns snt a W) (hb : Below W.heap.size W W') : HT w g ab A n c l v ns snt a W' :=
  { h with p := h.p.step hb, o := own_below h.o hb (Nat.le_refl _), a0 := cell_later hb h.a0, a1 := cell_later hb h.a1, a2 := cell_later hb h.a2, a3 := cell_later hb h.a3, b := h.b.trans (hb.mono h.b.size), sz := Nat.lt_of_lt_of_le h.sz hb.size }
theorem HT.alloc (h : HT w g ab A n c l v ns snt a W) (o : Obj) : HT w g ab A n c l v ns snt a (W.alloc o) := h.step ((Below.refl _ _).alloc (Nat.le_refl _) o)
theorem HT.store (h : HT w g ab A n c l v ns snt a W) {A' : Option Addr} {n' c' : Nat} {l' : List Item} (hr : Rd W 2 A' n' c' (itemCells l')) (hf : ∀ ad, A' = some ad → g < ad.block) (hap : itemCells l' ≠ [] → ∀ ad, A' = some ad → v.ownBlock ≠ some ad.block) :
    HT w g ab A' n' c' l' v ns snt a (W.setCell ⟨g, 0, none⟩ (.slice A' n' c')) := by
  have h2 := h.ha
  exact { h with
    p := h.p.store hr hf
    o := own_setCell_far h.o (fun e => by have := (h.o.lt _ e).1; simp only at this; omega) _
    hap := hap
    a0 := cell_far h.a0 (by simp only; omega) _
    a1 := cell_far h.a1 (by simp only; omega) _
    a2 := cell_far h.a2 (by simp only; omega) _
    a3 := cell_far h.a3 (by simp only; omega) _
    b := h.b.setCell (p := ⟨g, 0, none⟩) h.hg _
    sz := by simpa using h.sz }
theorem HT.start (hp : PB W g A n c l) (ho : W.ownsRow (g + 1) 32 2 v ns (itemCells snt)) (hap : itemCells l ≠ [] → ∀ ad, A = some ad → v.ownBlock ≠ some ad.block) (hb : Below w.heap.size w W) (hg : w.heap.size ≤ g) (a : ActT) :
    HT w g W.heap.size A n c l v ns snt a (W.alloc (.cells #[.int .u8 a.1, .int .u64 a.2.1, .string a.2.2.1, .int .i64 a.2.2.2] 37)) where
  p := hp.alloc _
  o := ho.alloc _
  ol := fun k e => (ho.lt k e).2
  hap := hap
  a0 := by go_simp
  a1 := by go_simp
  a2 := by go_simp
  a3 := by go_simp
  b := hb.alloc hb.size _
  hg := hg
  ha := hp.lt
  sz := by simp
end

set_option maxRecDepth 100000 in
set_option maxHeartbeats 40000000 in
theorem honest_short (S : Option Addr) (m sc : Nat) (acts : List ActT) (w : World) (hs : Rd w 4 S m sc (actCells acts)) (hm : m ≤ 120) (hd : ∀ (k : Nat) (a : ActT), acts[k]? = some a → 0 ≤ a.1 ∧ a.1 ≤ 255) :
    Calls Try.prog 5 #[.slice S m sc] w fun e w' => e = .returned (.bool true) ∧ Below w.heap.size w w' := by
  obtain ⟨i0, hi0, hz0, hz1, hz2⟩ := info_parts Try.info32
  have hml : acts.length = m := by have := hs.len; rw [acts_len] at this; omega
  have Hs0 := hide hs
  have Hml := hide hml
  have Hd := hide hd
  clear hs hml hd
  go_enter Try.func5, Try.ntmps5
  go_wp2_with fail
  refine (awake_any _).mono ?_
  rintro e w1 ⟨rfl, hb1⟩
  have hq : PB (w1.alloc (.cells #[.slice none 0 0] 26)) w1.heap.size none 0 0 [] := ⟨by go_simp, by go_simp, Rd.nil_ _ _, fun ad h => by cases h⟩
  have hB : Below w.heap.size w (w1.alloc (.cells #[.slice none 0 0] 26)) := hb1.alloc hb1.size _
  have hgN : w.heap.size ≤ w1.heap.size := hb1.size
  have Hq := hide hq
  have HB := hide hB
  clear hq hB hb1
  go_wp2_with fail
  generalize hW : w1.alloc (.cells #[.slice none 0 0] 26) = W at *
  generalize hg : w1.heap.size = g at *
  clear hW hg w1
  go_loopw [4, 17] (fun v i wr => ∃ (k n : Nat) (A : Option Addr) (c : Nat) (l : List Item) (ns : Nat) (snt : List Item), k ≤ m ∧ i = .int .i64 k ∧ n ≤ 64 ∧
      PB wr g A n c l ∧ wr.ownsRow (g + 1) 32 2 v ns (itemCells snt) ∧ (itemCells l ≠ [] → ∀ ad, A = some ad → v.ownBlock ≠ some ad.block) ∧ ns ≤ k ∧ (∀ y ∈ l, y ∈ snt) ∧ Below w.heap.size w wr) (fun _ i _ => m - (intOf i).toNat)
  case atStart => exact ⟨0, 0, none, 0, [], 0, [], Nat.zero_le _, rfl, by omega, Hq.out, World.ownsRow_nil _ _ _ _, by simp, Nat.le_refl _, by simp, HB.out⟩
  case round =>
    clear Hq HB
    obtain ⟨k, n, A, c, l, ns, snt, hk, rfl, hn, hp, ho, hap, hns, hsub, hbel⟩ := hrel
    obtain ⟨V, vc, rfl, _⟩ := own_slice ho
    have HB := hide hbel
    by_cases hlt : k < m
    · obtain ⟨⟨sb, so, sp⟩, rfl⟩ := Hs0.out.isSome (by omega)
      have hka : k < acts.length := by rw [Hml.out]; exact hlt
      obtain ⟨a, ha⟩ : ∃ a, acts[k]? = some a := ⟨acts[k], by simp [hka]⟩
      obtain ⟨rfl, q0, q1, q2, q3⟩ := Hs0.out.acts k a ha
      have hd01 := Hd.out k a ha
      obtain ⟨d, to, s, i⟩ := a
      obtain ⟨hd0, hd1⟩ := hd01
      simp only at q0 q1 q2 q3 hd0 hd1
      have q0 := cell_later hbel q0
      have q1 := cell_later hbel q1
      have q2 := cell_later hbel q2
      have q3 := cell_later hbel q3
      have HT := hide (HT.start hp ho hap hbel hgN (d, to, s, i))
      have Hs := hide hsub
      have Hns := hide hns
      clear hp ho hap hbel ha hka hsub
      simp only at HT
      by_cases hno : i < 0 ∨ (n : Int) ≤ i
      · have Hno := hide hno
        clear hno
        by_cases h2 : d % 6 = 2
        · have e2 : (d % 6 == 2) = true := by simp [h2]
          clear h2
          have a1 := HT.out.a1
          have a2 := HT.out.a2
          have a3 := HT.out.a3
          have p0 := HT.out.p.c0
          simp only at a1 a2 a3
          have HN2 := hide hn
          go_wp2_with fail
          generalize hW : (wr.alloc (.cells #[.int .u8 d, .int .u64 to, .string s, .int .i64 i] 37)) = W at *
          clear hW
          refine (deliver_no A n c l i _ HT.out.p.rd Hno.out).mono ?_
          rintro e w4 ⟨rfl, hb4⟩
          have HT := hide (HT.out.step hb4)
          have HF := hide HT.out.p.far
          have HG := hide HT.out.hap
          have HR := hide HT.out.p.rd
          have p0 := HT.out.p.c0
          have p1 := HT.out.p.f0
          clear hb4
          clear p0 p1 a1 a2 a3
          have HTa := hide ((HT.out.alloc (.cells #[.slice A n c] 26)).alloc (.cells #[.int .u64 0, .string ⟨#[]⟩] 32))
          have HR := hide ((HR.out.alloc (.cells #[.slice A n c] 26)).alloc (.cells #[.int .u64 0, .string ⟨#[]⟩] 32))
          have p0 := HTa.out.p.c0
          have p1 := HTa.out.p.f0
          have HT2 := hide (HTa.out.store HR.out HF.out HG.out)
          have p0' := HT2.out.p.c0
          go_wp2_with fail
          clear p0 p1 p0' HT
          have HT := HT2
          refine (len_any _ _ _ _).mono ?_
          rintro e w7 ⟨rfl, hb7⟩
          have HT := hide (HT.out.step hb7)
          clear hb7
          have hN2 := HN2.out
          go_wp2_with fail
          go_roundw
          case rel => exact ⟨k + 1, _, _, _, _, ns, snt, by omega, by go_num, HN2.out, HT.out.p, HT.out.o, HT.out.hap, by omega, Hs.out, HT.out.b⟩
          case measure => simp [intOf]; omega
        by_cases h3 : d % 6 = 3
        · have e3 : (d % 6 == 3) = true := by simp [h3]
          have e2 : (d % 6 == 2) = false := by simp [h2]
          clear h2 h3
          have a1 := HT.out.a1
          have a2 := HT.out.a2
          have a3 := HT.out.a3
          have p0 := HT.out.p.c0
          simp only at a1 a2 a3
          have HN2 := hide hn
          go_wp2_with fail
          generalize hW : (wr.alloc (.cells #[.int .u8 d, .int .u64 to, .string s, .int .i64 i] 37)) = W at *
          clear hW
          refine (double_no A n c i _ Hno.out).mono ?_
          rintro e w4 ⟨rfl, hb4⟩
          have HT := hide (HT.out.step hb4)
          have HF := hide HT.out.p.far
          have HG := hide HT.out.hap
          have HR := hide HT.out.p.rd
          have p0 := HT.out.p.c0
          have p1 := HT.out.p.f0
          clear hb4
          have HT2 := hide (HT.out.store HR.out HF.out HG.out)
          have p0' := HT2.out.p.c0
          go_wp2_with fail
          clear p0 p1 p0' a1 a2 a3
          have HT := HT2
          refine (len_any _ _ _ _).mono ?_
          rintro e w7 ⟨rfl, hb7⟩
          have HT := hide (HT.out.step hb7)
          clear hb7
          have hN2 := HN2.out
          go_wp2_with fail
          go_roundw
          case rel => exact ⟨k + 1, _, _, _, _, ns, snt, by omega, by go_num, HN2.out, HT.out.p, HT.out.o, HT.out.hap, by omega, Hs.out, HT.out.b⟩
          case measure => simp [intOf]; omega
        by_cases h4 : d % 6 = 4
        · have e4 : (d % 6 == 4) = true := by simp [h4]
          have e2 : (d % 6 == 2) = false := by simp [h2]
          have e3 : (d % 6 == 3) = false := by simp [h3]
          clear h2 h3 h4
          have a1 := HT.out.a1
          have a2 := HT.out.a2
          have a3 := HT.out.a3
          have p0 := HT.out.p.c0
          simp only at a1 a2 a3
          have HN2 := hide hn
          go_wp2_with fail
          generalize hW : (wr.alloc (.cells #[.int .u8 d, .int .u64 to, .string s, .int .i64 i] 37)) = W at *
          clear hW
          refine (lose_no A n c l i _ HT.out.p.rd Hno.out).mono ?_
          rintro e w4 ⟨rfl, hb4⟩
          have HT := hide (HT.out.step hb4)
          have HF := hide HT.out.p.far
          have HG := hide HT.out.hap
          have HR := hide HT.out.p.rd
          have p0 := HT.out.p.c0
          have p1 := HT.out.p.f0
          clear hb4
          have HT2 := hide (HT.out.store HR.out HF.out HG.out)
          have p0' := HT2.out.p.c0
          go_wp2_with fail
          clear p0 p1 p0' a1 a2 a3
          have HT := HT2
          refine (len_any _ _ _ _).mono ?_
          rintro e w7 ⟨rfl, hb7⟩
          have HT := hide (HT.out.step hb7)
          clear hb7
          have hN2 := HN2.out
          go_wp2_with fail
          go_roundw
          case rel => exact ⟨k + 1, _, _, _, _, ns, snt, by omega, by go_num, HN2.out, HT.out.p, HT.out.o, HT.out.hap, by omega, Hs.out, HT.out.b⟩
          case measure => simp [intOf]; omega
        by_cases h5 : d % 6 = 5
        · have e5 : (d % 6 == 5) = true := by simp [h5]
          have e2 : (d % 6 == 2) = false := by simp [h2]
          have e3 : (d % 6 == 3) = false := by simp [h3]
          have e4 : (d % 6 == 4) = false := by simp [h4]
          clear h2 h3 h4 h5
          have a1 := HT.out.a1
          have a2 := HT.out.a2
          have a3 := HT.out.a3
          have p0 := HT.out.p.c0
          simp only at a1 a2 a3
          obtain ⟨l2, hl2⟩ : ∃ l2, l.filter (notTo to) = l2 := ⟨_, rfl⟩
          have Hl2 := hide hl2
          have HN2 := hide (show l2.length ≤ 64 by rw [← hl2]; exact Nat.le_trans (List.length_filter_le _ _) (by rw [HT.out.p.rd.itemLen]; exact hn))
          have Hs2 := hide (show ∀ y ∈ l2, y ∈ snt from fun y hy => by
            rw [← hl2] at hy
            exact Hs.out y (List.mem_filter.1 hy).1)
          clear hl2
          go_wp2_with fail
          generalize hW : (wr.alloc (.cells #[.int .u8 d, .int .u64 to, .string s, .int .i64 i] 37)) = W at *
          clear hW
          refine (clear_any A n c l l2 to _ HT.out.p.rd (by omega) Hl2.out).mono ?_
          rintro e w4 ⟨A4, c4, rfl, hr4, hf4, hb4⟩
          have HF := hide (show ∀ ad, A4 = some ad → g < ad.block from fun ad e => by have := hf4 ad e; have := HT.out.p.lt; omega)
          have HG := hide (show itemCells l2 ≠ [] → ∀ ad, A4 = some ad → (Value.slice V ns vc).ownBlock ≠ some ad.block from fun _ ad e h => by have := hf4 ad e; have := HT.out.ol _ h; have := HT.out.sz; omega)
          have HR := hide hr4
          have HT := hide (HT.out.step hb4)
          have p0 := HT.out.p.c0
          have p1 := HT.out.p.f0
          clear hr4 hf4 hb4
          have HT2 := hide (HT.out.store HR.out HF.out HG.out)
          have p0' := HT2.out.p.c0
          go_wp2_with fail
          clear p0 p1 p0' a1 a2 a3
          have HT := HT2
          refine (len_any _ _ _ _).mono ?_
          rintro e w7 ⟨rfl, hb7⟩
          have HT := hide (HT.out.step hb7)
          clear hb7
          have hN2 := HN2.out
          go_wp2_with fail
          go_roundw
          case rel => exact ⟨k + 1, _, _, _, _, ns, snt, by omega, by go_num, HN2.out, HT.out.p, HT.out.o, HT.out.hap, by omega, Hs2.out, HT.out.b⟩
          case measure => simp [intOf]; omega
        have e2 : (d % 6 == 2) = false := by simp [h2]
        have e3 : (d % 6 == 3) = false := by simp [h3]
        have e4 : (d % 6 == 4) = false := by simp [h4]
        have e5 : (d % 6 == 5) = false := by simp [h5]
        clear h2 h3 h4 h5
        have a1 := HT.out.a1
        have a2 := HT.out.a2
        have a3 := HT.out.a3
        have p0 := HT.out.p.c0
        simp only at a1 a2 a3
        obtain ⟨l2, hl2⟩ : ∃ l2, sendL l (to, s) = l2 := ⟨_, rfl⟩
        have Hl2 := hide hl2
        have HN2 := hide (show l2.length ≤ 64 by rw [← hl2]; exact sendL_len _ _ (by rw [HT.out.p.rd.itemLen]; exact hn))
        have Hs2 := hide (show ∀ y ∈ l2, y ∈ snt ++ [(to, s)] from fun y hy => by
          rw [← hl2] at hy
          rcases sendL_mem hy with h | rfl
          · exact List.mem_append_left _ (Hs.out y h)
          · exact List.mem_append_right _ (List.mem_singleton.2 rfl))
        clear hl2
        go_wp2_with fail
        generalize hW : (wr.alloc (.cells #[.int .u8 d, .int .u64 to, .string s, .int .i64 i] 37)) = W at *
        clear hW
        refine (send_any A n c l l2 to s _ HT.out.p.rd hn Hl2.out).mono ?_
        rintro e w4 ⟨A4, c4, rfl, hr4, hf4, hb4⟩
        have HF := hide (show ∀ ad, A4 = some ad → g < ad.block from fun ad e => by have := hf4 ad e; have := HT.out.p.lt; omega)
        have HG := hide (show itemCells l2 ≠ [] → ∀ ad, A4 = some ad → (Value.slice V ns vc).ownBlock ≠ some ad.block from fun _ ad e h => by have := hf4 ad e; have := HT.out.ol _ h; have := HT.out.sz; omega)
        have HR := hide hr4
        have HT := hide (HT.out.step hb4)
        have p0 := HT.out.p.c0
        have p1 := HT.out.p.f0
        clear hr4 hf4 hb4
        have HT2 := hide (HT.out.store HR.out HF.out HG.out)
        have b1 := HT2.out.a1
        have b2 := HT2.out.a2
        simp only at b1 b2
        have Hrow := hide (show ∀ k, (Value.slice V ns vc).ownBlock = some k → g + 1 ≤ k ∧ k < (w4.setCell ⟨g, 0, none⟩ (.slice A4 l2.length c4)).heap.size from HT2.out.o.lt)
        have Hgs := hide (show g < (w4.setCell ⟨g, 0, none⟩ (.slice A4 l2.length c4)).heap.size from HT2.out.p.lt)
        clear a1 a2 a3 HR HF HG HT
        go_wp2_with ((at_builtin
                      refine wpList_append_rd _ rfl (.tmp 30) (.tmp 36) 24 rfl (g + 1) 32 i0 _ 2 24 Try.underlying24 hi0 hz0 hz1 hz2 rfl (by omega) (.slice V ns vc) ns (itemCells snt) rfl (HT2.out.o.alloc (.cells #[.int .u64 to, .string s] 32)) _ 1 1 (itemCells [(to, s)]) rfl (rd_item _ (to, s) 32 _ (by simp)) (items_one _) (by simp only [maxLen]; omega) (by omega) (by have := Hgs.out; simp at this ⊢; omega) ?_
                      intro v2 w2 hown2 hg2 hat2
                      have HP2 := hide ((HT2.out.p.alloc (.cells #[.int .u64 to, .string s] 32)).grown hg2 (fun k e => (Hrow.out k e).1) HT2.out.hap)
                      have HB2 := hide ((HT2.out.b.alloc HT2.out.b.size (.cells #[.int .u64 to, .string s] 32)).grown hg2 (by have := HT2.out.b.size; simp at this ⊢; omega) (fun k e => by have := (Hrow.out k e).1; have := HT2.out.hg; omega))
                      have HA2 : Hid (itemCells l2 ≠ [] → ∀ ad, A4 = some ad → v2.ownBlock ≠ some ad.block) := hide (fun hne ad e h => by
                        rcases hat2 with h2 | h2
                        · exact HT2.out.hap hne ad e (h2 ▸ h)
                        · rw [h2] at h
                          have h3 := HT2.out.p.rd.lt hne e
                          injection h with h
                          simp at h h3
                          omega)
                      have HO2 := hide hown2
                      clear hown2 hg2 hat2 p0 p1 b1 b2
                      have p0 := HP2.out.c0))
        refine (len_any _ _ _ _).mono ?_
        rintro e w7 ⟨rfl, hb7⟩
        have HP2 := hide (HP2.out.step hb7)
        have HO2 := hide (own_below HO2.out hb7 (Nat.le_refl _))
        have HB2 := hide (HB2.out.trans (hb7.mono HB2.out.size))
        clear hb7 p0
        have hN2 := HN2.out
        go_wp2_with fail
        go_roundw
        case rel => exact ⟨k + 1, _, _, _, _, ns + 1, snt ++ [(to, s)], by omega, by go_num, HN2.out, HP2.out, by rw [items_append]; exact HO2.out, HA2.out, by omega, Hs2.out, HB2.out⟩
        case measure => simp [intOf]; omega
      obtain ⟨q, rfl⟩ : ∃ q : Nat, i = (q : Int) := ⟨i.toNat, by omega⟩
      have hqn : q < n := by omega
      clear hno
      obtain ⟨⟨xt, xs⟩, hx⟩ : ∃ x, l[q]? = some x := ⟨l[q]'(by rw [HT.out.p.rd.itemLen]; exact hqn), by simp⟩
      have Hx := hide hx
      clear hx
      by_cases h2 : d % 6 = 2
      · have e2 : (d % 6 == 2) = true := by simp [h2]
        clear h2
        have a1 := HT.out.a1
        have a2 := HT.out.a2
        have a3 := HT.out.a3
        have p0 := HT.out.p.c0
        simp only at a1 a2 a3
        have HN2 := hide (show n - 1 ≤ 64 by omega)
        have Hs2 := hide (show ∀ y ∈ l.eraseIdx q, y ∈ snt from fun y hy => Hs.out y (List.mem_of_mem_eraseIdx hy))
        go_wp2_with fail
        generalize hW : (wr.alloc (.cells #[.int .u8 d, .int .u64 to, .string s, .int .i64 (q : Int)] 37)) = W at *
        clear hW
        refine (deliver_yes A n c l q (xt, xs) _ HT.out.p.rd hn Hx.out).mono ?_
        rintro e w4 ⟨A4, c4, rfl, hr4, hf4, hb4⟩
        have HF := hide (show ∀ ad, A4 = some ad → g < ad.block from fun ad e => by have := hf4 ad e; have := HT.out.p.lt; omega)
        have HG := hide (show itemCells (l.eraseIdx q) ≠ [] → ∀ ad, A4 = some ad → (Value.slice V ns vc).ownBlock ≠ some ad.block from fun _ ad e h => by have := hf4 ad e; have := HT.out.ol _ h; have := HT.out.sz; omega)
        have HR := hide hr4
        have HT := hide (HT.out.step hb4)
        have p0 := HT.out.p.c0
        have p1 := HT.out.p.f0
        clear hr4 hf4 hb4
        clear p0 p1 a1 a2 a3
        have HTa := hide ((HT.out.alloc (.cells #[.slice A4 (n - 1) c4] 26)).alloc (.cells #[.int .u64 xt, .string xs] 32))
        have HR := hide ((HR.out.alloc (.cells #[.slice A4 (n - 1) c4] 26)).alloc (.cells #[.int .u64 xt, .string xs] 32))
        have Hmem := hide (Hs.out _ (List.mem_of_getElem? Hx.out))
        go_wp2_with fail
        refine (contains_yes V ns vc snt (xt, xs) _ (Rd.of_own HTa.out.o) Hmem.out (by omega)).mono ?_
        rintro e w5 ⟨rfl, hb5⟩
        have n0 := cell_later (a := ⟨w4.heap.size, 0, none⟩) (v := .slice A4 (n - 1) c4) hb5 (by go_simp)
        have HTb := hide (HTa.out.step hb5)
        have HR := hide (HR.out.below hb5)
        have p0 := HTb.out.p.c0
        have p1 := HTb.out.p.f0
        have HT2 := hide (HTb.out.store HR.out HF.out HG.out)
        have p0' := HT2.out.p.c0
        clear hb5
        go_wp2_with fail
        clear p0 p1 p0' n0 HT
        have HT := HT2
        refine (len_any _ _ _ _).mono ?_
        rintro e w7 ⟨rfl, hb7⟩
        have HT := hide (HT.out.step hb7)
        clear hb7
        have hN2 := HN2.out
        go_wp2_with fail
        go_roundw
        case rel => exact ⟨k + 1, _, _, _, _, ns, snt, by omega, by go_num, HN2.out, HT.out.p, HT.out.o, HT.out.hap, by omega, Hs2.out, HT.out.b⟩
        case measure => simp [intOf]; omega
      by_cases h3 : d % 6 = 3
      · have e3 : (d % 6 == 3) = true := by simp [h3]
        have e2 : (d % 6 == 2) = false := by simp [h2]
        clear h2 h3
        have a1 := HT.out.a1
        have a2 := HT.out.a2
        have a3 := HT.out.a3
        have p0 := HT.out.p.c0
        simp only at a1 a2 a3
        obtain ⟨l2, hl2⟩ : ∃ l2, sendL l (xt, xs) = l2 := ⟨_, rfl⟩
        have Hl2 := hide hl2
        have HN2 := hide (show l2.length ≤ 64 by rw [← hl2]; exact sendL_len _ _ (by rw [HT.out.p.rd.itemLen]; exact hn))
        have Hs2 := hide (show ∀ y ∈ l2, y ∈ snt from fun y hy => by
          rw [← hl2] at hy
          rcases sendL_mem hy with h | rfl
          · exact Hs.out y h
          · exact Hs.out _ (List.mem_of_getElem? Hx.out))
        clear hl2
        go_wp2_with fail
        generalize hW : (wr.alloc (.cells #[.int .u8 d, .int .u64 to, .string s, .int .i64 (q : Int)] 37)) = W at *
        clear hW
        refine (double_yes A n c l l2 q (xt, xs) _ HT.out.p.rd hn Hx.out Hl2.out).mono ?_
        rintro e w4 ⟨A4, c4, rfl, hr4, hf4, hb4⟩
        have HF := hide (show ∀ ad, A4 = some ad → g < ad.block from fun ad e => by have := hf4 ad e; have := HT.out.p.lt; omega)
        have HG := hide (show itemCells l2 ≠ [] → ∀ ad, A4 = some ad → (Value.slice V ns vc).ownBlock ≠ some ad.block from fun _ ad e h => by have := hf4 ad e; have := HT.out.ol _ h; have := HT.out.sz; omega)
        have HR := hide hr4
        have HT := hide (HT.out.step hb4)
        have p0 := HT.out.p.c0
        have p1 := HT.out.p.f0
        clear hr4 hf4 hb4
        have HT2 := hide (HT.out.store HR.out HF.out HG.out)
        have p0' := HT2.out.p.c0
        go_wp2_with fail
        clear p0 p1 p0' a1 a2 a3
        have HT := HT2
        refine (len_any _ _ _ _).mono ?_
        rintro e w7 ⟨rfl, hb7⟩
        have HT := hide (HT.out.step hb7)
        clear hb7
        have hN2 := HN2.out
        go_wp2_with fail
        go_roundw
        case rel => exact ⟨k + 1, _, _, _, _, ns, snt, by omega, by go_num, HN2.out, HT.out.p, HT.out.o, HT.out.hap, by omega, Hs2.out, HT.out.b⟩
        case measure => simp [intOf]; omega
      by_cases h4 : d % 6 = 4
      · have e4 : (d % 6 == 4) = true := by simp [h4]
        have e2 : (d % 6 == 2) = false := by simp [h2]
        have e3 : (d % 6 == 3) = false := by simp [h3]
        clear h2 h3 h4
        have a1 := HT.out.a1
        have a2 := HT.out.a2
        have a3 := HT.out.a3
        have p0 := HT.out.p.c0
        simp only at a1 a2 a3
        have HN2 := hide (show n - 1 ≤ 64 by omega)
        have Hs2 := hide (show ∀ y ∈ l.eraseIdx q, y ∈ snt from fun y hy => Hs.out y (List.mem_of_mem_eraseIdx hy))
        go_wp2_with fail
        generalize hW : (wr.alloc (.cells #[.int .u8 d, .int .u64 to, .string s, .int .i64 (q : Int)] 37)) = W at *
        clear hW
        refine (lose_yes A n c l q (xt, xs) _ HT.out.p.rd hn Hx.out).mono ?_
        rintro e w4 ⟨A4, c4, rfl, hr4, hf4, hb4⟩
        have HF := hide (show ∀ ad, A4 = some ad → g < ad.block from fun ad e => by have := hf4 ad e; have := HT.out.p.lt; omega)
        have HG := hide (show itemCells (l.eraseIdx q) ≠ [] → ∀ ad, A4 = some ad → (Value.slice V ns vc).ownBlock ≠ some ad.block from fun _ ad e h => by have := hf4 ad e; have := HT.out.ol _ h; have := HT.out.sz; omega)
        have HR := hide hr4
        have HT := hide (HT.out.step hb4)
        have p0 := HT.out.p.c0
        have p1 := HT.out.p.f0
        clear hr4 hf4 hb4
        have HT2 := hide (HT.out.store HR.out HF.out HG.out)
        have p0' := HT2.out.p.c0
        go_wp2_with fail
        clear p0 p1 p0' a1 a2 a3
        have HT := HT2
        refine (len_any _ _ _ _).mono ?_
        rintro e w7 ⟨rfl, hb7⟩
        have HT := hide (HT.out.step hb7)
        clear hb7
        have hN2 := HN2.out
        go_wp2_with fail
        go_roundw
        case rel => exact ⟨k + 1, _, _, _, _, ns, snt, by omega, by go_num, HN2.out, HT.out.p, HT.out.o, HT.out.hap, by omega, Hs2.out, HT.out.b⟩
        case measure => simp [intOf]; omega
      by_cases h5 : d % 6 = 5
      · have e5 : (d % 6 == 5) = true := by simp [h5]
        have e2 : (d % 6 == 2) = false := by simp [h2]
        have e3 : (d % 6 == 3) = false := by simp [h3]
        have e4 : (d % 6 == 4) = false := by simp [h4]
        clear h2 h3 h4 h5
        have a1 := HT.out.a1
        have a2 := HT.out.a2
        have a3 := HT.out.a3
        have p0 := HT.out.p.c0
        simp only at a1 a2 a3
        obtain ⟨l2, hl2⟩ : ∃ l2, l.filter (notTo to) = l2 := ⟨_, rfl⟩
        have Hl2 := hide hl2
        have HN2 := hide (show l2.length ≤ 64 by rw [← hl2]; exact Nat.le_trans (List.length_filter_le _ _) (by rw [HT.out.p.rd.itemLen]; exact hn))
        have Hs2 := hide (show ∀ y ∈ l2, y ∈ snt from fun y hy => by
          rw [← hl2] at hy
          exact Hs.out y (List.mem_filter.1 hy).1)
        clear hl2
        go_wp2_with fail
        generalize hW : (wr.alloc (.cells #[.int .u8 d, .int .u64 to, .string s, .int .i64 (q : Int)] 37)) = W at *
        clear hW
        refine (clear_any A n c l l2 to _ HT.out.p.rd (by omega) Hl2.out).mono ?_
        rintro e w4 ⟨A4, c4, rfl, hr4, hf4, hb4⟩
        have HF := hide (show ∀ ad, A4 = some ad → g < ad.block from fun ad e => by have := hf4 ad e; have := HT.out.p.lt; omega)
        have HG := hide (show itemCells l2 ≠ [] → ∀ ad, A4 = some ad → (Value.slice V ns vc).ownBlock ≠ some ad.block from fun _ ad e h => by have := hf4 ad e; have := HT.out.ol _ h; have := HT.out.sz; omega)
        have HR := hide hr4
        have HT := hide (HT.out.step hb4)
        have p0 := HT.out.p.c0
        have p1 := HT.out.p.f0
        clear hr4 hf4 hb4
        have HT2 := hide (HT.out.store HR.out HF.out HG.out)
        have p0' := HT2.out.p.c0
        go_wp2_with fail
        clear p0 p1 p0' a1 a2 a3
        have HT := HT2
        refine (len_any _ _ _ _).mono ?_
        rintro e w7 ⟨rfl, hb7⟩
        have HT := hide (HT.out.step hb7)
        clear hb7
        have hN2 := HN2.out
        go_wp2_with fail
        go_roundw
        case rel => exact ⟨k + 1, _, _, _, _, ns, snt, by omega, by go_num, HN2.out, HT.out.p, HT.out.o, HT.out.hap, by omega, Hs2.out, HT.out.b⟩
        case measure => simp [intOf]; omega
      have e2 : (d % 6 == 2) = false := by simp [h2]
      have e3 : (d % 6 == 3) = false := by simp [h3]
      have e4 : (d % 6 == 4) = false := by simp [h4]
      have e5 : (d % 6 == 5) = false := by simp [h5]
      clear h2 h3 h4 h5
      have a1 := HT.out.a1
      have a2 := HT.out.a2
      have a3 := HT.out.a3
      have p0 := HT.out.p.c0
      simp only at a1 a2 a3
      obtain ⟨l2, hl2⟩ : ∃ l2, sendL l (to, s) = l2 := ⟨_, rfl⟩
      have Hl2 := hide hl2
      have HN2 := hide (show l2.length ≤ 64 by rw [← hl2]; exact sendL_len _ _ (by rw [HT.out.p.rd.itemLen]; exact hn))
      have Hs2 := hide (show ∀ y ∈ l2, y ∈ snt ++ [(to, s)] from fun y hy => by
        rw [← hl2] at hy
        rcases sendL_mem hy with h | rfl
        · exact List.mem_append_left _ (Hs.out y h)
        · exact List.mem_append_right _ (List.mem_singleton.2 rfl))
      clear hl2
      go_wp2_with fail
      generalize hW : (wr.alloc (.cells #[.int .u8 d, .int .u64 to, .string s, .int .i64 (q : Int)] 37)) = W at *
      clear hW
      refine (send_any A n c l l2 to s _ HT.out.p.rd hn Hl2.out).mono ?_
      rintro e w4 ⟨A4, c4, rfl, hr4, hf4, hb4⟩
      have HF := hide (show ∀ ad, A4 = some ad → g < ad.block from fun ad e => by have := hf4 ad e; have := HT.out.p.lt; omega)
      have HG := hide (show itemCells l2 ≠ [] → ∀ ad, A4 = some ad → (Value.slice V ns vc).ownBlock ≠ some ad.block from fun _ ad e h => by have := hf4 ad e; have := HT.out.ol _ h; have := HT.out.sz; omega)
      have HR := hide hr4
      have HT := hide (HT.out.step hb4)
      have p0 := HT.out.p.c0
      have p1 := HT.out.p.f0
      clear hr4 hf4 hb4
      have HT2 := hide (HT.out.store HR.out HF.out HG.out)
      have b1 := HT2.out.a1
      have b2 := HT2.out.a2
      simp only at b1 b2
      have Hrow := hide (show ∀ k, (Value.slice V ns vc).ownBlock = some k → g + 1 ≤ k ∧ k < (w4.setCell ⟨g, 0, none⟩ (.slice A4 l2.length c4)).heap.size from HT2.out.o.lt)
      have Hgs := hide (show g < (w4.setCell ⟨g, 0, none⟩ (.slice A4 l2.length c4)).heap.size from HT2.out.p.lt)
      clear a1 a2 a3 HR HF HG HT
      go_wp2_with ((at_builtin
                    refine wpList_append_rd _ rfl (.tmp 30) (.tmp 36) 24 rfl (g + 1) 32 i0 _ 2 24 Try.underlying24 hi0 hz0 hz1 hz2 rfl (by omega) (.slice V ns vc) ns (itemCells snt) rfl (HT2.out.o.alloc (.cells #[.int .u64 to, .string s] 32)) _ 1 1 (itemCells [(to, s)]) rfl (rd_item _ (to, s) 32 _ (by simp)) (items_one _) (by simp only [maxLen]; omega) (by omega) (by have := Hgs.out; simp at this ⊢; omega) ?_
                    intro v2 w2 hown2 hg2 hat2
                    have HP2 := hide ((HT2.out.p.alloc (.cells #[.int .u64 to, .string s] 32)).grown hg2 (fun k e => (Hrow.out k e).1) HT2.out.hap)
                    have HB2 := hide ((HT2.out.b.alloc HT2.out.b.size (.cells #[.int .u64 to, .string s] 32)).grown hg2 (by have := HT2.out.b.size; simp at this ⊢; omega) (fun k e => by have := (Hrow.out k e).1; have := HT2.out.hg; omega))
                    have HA2 : Hid (itemCells l2 ≠ [] → ∀ ad, A4 = some ad → v2.ownBlock ≠ some ad.block) := hide (fun hne ad e h => by
                      rcases hat2 with h2 | h2
                      · exact HT2.out.hap hne ad e (h2 ▸ h)
                      · rw [h2] at h
                        have h3 := HT2.out.p.rd.lt hne e
                        injection h with h
                        simp at h h3
                        omega)
                    have HO2 := hide hown2
                    clear hown2 hg2 hat2 p0 p1 b1 b2
                    have p0 := HP2.out.c0))
      refine (len_any _ _ _ _).mono ?_
      rintro e w7 ⟨rfl, hb7⟩
      have HP2 := hide (HP2.out.step hb7)
      have HO2 := hide (own_below HO2.out hb7 (Nat.le_refl _))
      have HB2 := hide (HB2.out.trans (hb7.mono HB2.out.size))
      clear hb7 p0
      have hN2 := HN2.out
      go_wp2_with fail
      go_roundw
      case rel => exact ⟨k + 1, _, _, _, _, ns + 1, snt ++ [(to, s)], by omega, by go_num, HN2.out, HP2.out, by rw [items_append]; exact HO2.out, HA2.out, by omega, Hs2.out, HB2.out⟩
      case measure => simp [intOf]; omega
    · obtain rfl : k = m := by omega
      go_wp2_with fail
      go_ret
      exact ⟨rfl, HB.out⟩
end Go.Proofs.Ytoocklaoedcbjaa
