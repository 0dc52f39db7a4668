/-
  QueueDrops: who is dropped isn't taken; all others are, in their order: the walk. Conditions: the list came in and can be read.
-/
import Derived.Test.YtghmjfinmbgjiaaDel
namespace Go.Proofs.Ytghmjfinmbgjiaa
open Go.RowKit

theorem nd_ne {zs : List Int} {i j : Nat} (hnd : zs.Nodup) (hi : i < zs.length) (hj : j < i) : zs.getD i 0 ≠ zs.getD j 0 := by
  intro h
  simp only [List.getD, hi, show j < zs.length by omega, List.getElem?_eq_getElem, Option.getD_some] at h
  have := (List.getElem_inj hnd).1 h
  omega
theorem nd_idx {zs : List Int} {i : Nat} {x : Int} (hnd : zs.Nodup) (hi : i < zs.length) (hx : zs.getD i 0 = x) : idx zs x = (i : Int) := by
  subst hx
  refine idx_at hi (by simp [List.getD, hi]) fun j hj => ?_
  rw [beq_eq_false_iff_ne]
  exact nd_ne hnd hi hj
theorem nd_keep {zs : List Int} {i : Nat} {x : Int} (hnd : zs.Nodup) (hi : i < zs.length) (hx : zs.getD i 0 = x) : keepTo zs x (i + 1) = zs.take i := by
  rw [keepTo_succ zs x i hi, hx, if_neg (by simp), List.append_nil]
  unfold keepTo
  rw [List.filter_eq_self]
  intro a ha
  obtain ⟨j, hj, rfl⟩ := List.getElem_of_mem ha
  rw [List.length_take] at hj
  rw [bne_iff_ne, List.getElem_take]
  have := nd_ne hnd hi (j := j) (by omega)
  rw [hx] at this
  simp only [List.getD, show j < zs.length by omega, List.getElem?_eq_getElem, Option.getD_some] at this
  exact fun e => this e.symm

theorem nd_len {zs zf : List Int} {i : Nat} {x : Int} (hnd : zs.Nodup) (hi : i < zs.length) (hx : zs.getD i 0 = x) (hf : zs.filter (· != x) = zf) : zf.length + 1 = zs.length := by
  rw [← hf, ← erase_filter hnd hi hx, List.length_eraseIdx, if_pos hi]; omega
theorem drop_yes (room : Int) (A : Option Addr) (c i : Nat) (zs zf : List Int) (id : Int) (w : World) (hr : Rd w 1 A zs.length c (u64s zs)) (hn : zs.length ≤ 65536) (hnd : zs.Nodup) (hi : i < zs.length) (hx : zs.getD i 0 = id) (hf : zs.filter (· != id) = zf) :
    Calls Try.prog 18 #[qv room A zs.length c, .int .u64 id] w fun e w' => ∃ A' c', e = .returned (.tuple #[qv room A' zf.length c', .bool true]) ∧ Rd w' 1 A' zf.length c' (u64s zf) ∧ (∀ ad, A' = some ad → w.heap.size ≤ ad.block) ∧ Below w.heap.size w w' := by
  refine (drop_some room A zs.length c i zs id w hr hn (nd_idx hnd hi hx) hi).mono ?_
  rintro e w' ⟨A', c', rfl, h1, h2, h3⟩
  have hl : zs.length - 1 = zf.length := by have := nd_len hnd hi hx hf; omega
  rw [hl, erase_filter hnd hi hx, hf] at h1
  exact ⟨A', c', by rw [hl], h1, h2, h3⟩

theorem step_append_rd_g {P : Program} (w : World) {ops : Array Oper} {o : Oper} {a : Act} {K : Act → World → Prop} {Q : Exit → Act → World → Prop} {E : Prop} (hw : Region.wanted o (yielded ops a.tmps) = true) (s x : Operand) (t : TypeId)
    (ho : o.op = .call { callee := .builtin .append, args := #[s, x], argTypes := #[t, t] })
    (base : Nat) (e : TypeId) (i : TypeInfo) (z : Value) (size bytes : Nat) (ht : P.underlying t = some (.slice e)) (hi : P.info? e = some i) (hz : i.zero = some z)
    (hsize : i.size = size) (hby : i.bytes = bytes) (hzs : z.cells.size = size) (hsz : 0 < size)
    (v : Value) (n : Nat) (xs : List Value) (hs : a.eval s = v) (hown : w.ownsRow base e size v n xs)
    (A : Option Addr) (m c : Nat) (news : List Value) (hx : a.eval x = .slice A m c) (hr : Rd w size A m c news) (h1 : ∀ u ∈ news, u.oneCell' = true)
    (h63 : n + m ≤ maxLen) (hbytes : (n + m) * bytes ≤ 140737488355328) (hbase : base ≤ w.heap.size)
    (h : ∀ v' w', w'.ownsRow base e size v' (n + m) (xs ++ news) → w.grownBy w' v.ownBlock → (v'.ownBlock = v.ownBlock ∨ v'.ownBlock = some w.heap.size) → K (a.put o.dst v') w') :
    if Region.wanted o (yielded ops a.tmps) = true then o.wp P a w K Q else E := by
  rw [if_pos hw]
  exact wp_append_rd w s x t ho base e i z size bytes ht hi hz hsize hby hzs hsz v n xs hs hown A m c news hx hr h1 h63 hbytes hbase h

theorem equal_b (A B : Option Addr) (n c m d : Nat) (xs : List Int) (w : World) (hx : Rd w 1 A n c (u64s xs)) (hy : Rd w 1 B m d (u64s xs)) :
    Calls Try.prog 16 #[.slice A n c, .slice B m d] w fun e w' => e = .returned (.bool true) ∧ Below w.heap.size w w' := by
  refine (equal_same A B n c m d xs w hx hy).mono ?_
  rintro e w' ⟨rfl, q, rfl⟩
  exact ⟨rfl, below_drewN _ _ _⟩

/-- What stands before the last line. -/
structure DS (w : World) (base g p1 p2 p4 g9 cap9 : Nat) (A : Option Addr) (ca : Nat) (zs : List Int) (F : Option Addr) (fc : Nat) (X : Option Addr) (xc : Nat) (zf : List Int) (Y : Option Addr) (yc : Nat) (id : Int) (W : World) : Prop where
  q0 : W.cell? ⟨g, 0, none⟩ = some (.int .i64 64)
  q1 : W.cell? ⟨g, 1, none⟩ = some (.slice A zs.length ca)
  p0 : W.cell? ⟨p1, 0, none⟩ = some (.int .u64 id)
  x0 : W.cell? ⟨p2, 0, none⟩ = some (.int .i64 64)
  x1 : W.cell? ⟨p2, 1, none⟩ = some (.slice X zf.length xc)
  y0 : W.cell? ⟨p4, 0, none⟩ = some (.int .i64 64)
  y1 : W.cell? ⟨p4, 1, none⟩ = some (.slice Y (zf.length + 1) yc)
  a : Rd W 1 A zs.length ca (u64s zs)
  f : Rd W 1 F zs.length fc (u64s zs)
  x : Rd W 1 X zf.length xc (u64s zf)
  y : Rd W 1 Y (zf.length + 1) yc (u64s (zf ++ [id]))
  own : W.ownsRow base 29 1 (.slice (some ⟨g9, 0, none⟩) zf.length cap9) zf.length (u64s zf)
  blk : g < base ∧ p1 < base ∧ p2 < base ∧ p4 < base
  fa : u64s zs ≠ [] → ∀ ad, A = some ad → ad.block < base
  ff : u64s zs ≠ [] → ∀ ad, F = some ad → ad.block < base
  fx : u64s zf ≠ [] → ∀ ad, X = some ad → ad.block < base
  fy : u64s (zf ++ [id]) ≠ [] → ∀ ad, Y = some ad → ad.block < base
  wb : w.heap.size ≤ base
  be : base ≤ W.heap.size
  below : Below w.heap.size w W

section
variable {w W W1 : World} {base g p1 p2 p4 g9 cap9 : Nat} {A : Option Addr} {ca : Nat} {zs : List Int} {F : Option Addr} {fc : Nat} {X : Option Addr} {xc : Nat} {zf : List Int} {Y : Option Addr} {yc : Nat} {id : Int}
theorem DS.step (h : DS w base g p1 p2 p4 g9 cap9 A ca zs F fc X xc zf Y yc id W) (hb : Below W.heap.size W W1) : DS w base g p1 p2 p4 g9 cap9 A ca zs F fc X xc zf Y yc id W1 :=
  { q0 := cell_later hb h.q0, q1 := cell_later hb h.q1, p0 := cell_later hb h.p0, x0 := cell_later hb h.x0, x1 := cell_later hb h.x1, y0 := cell_later hb h.y0, y1 := cell_later hb h.y1
    a := h.a.below hb, f := h.f.below hb, x := h.x.below hb, y := h.y.below hb, own := own_below h.own hb (Nat.le_refl _)
    blk := h.blk, fa := h.fa, ff := h.ff, fx := h.fx, fy := h.fy, wb := h.wb, be := Nat.le_trans h.be hb.size
    below := h.below.trans (hb.mono h.below.size) }
theorem DS.alloc (h : DS w base g p1 p2 p4 g9 cap9 A ca zs F fc X xc zf Y yc id W) (o : Obj) : DS w base g p1 p2 p4 g9 cap9 A ca zs F fc X xc zf Y yc id (W.alloc o) := h.step ((Below.refl _ _).alloc (Nat.le_refl _) o)
theorem DS.drew (h : DS w base g p1 p2 p4 g9 cap9 A ca zs F fc X xc zf Y yc id W) : DS w base g p1 p2 p4 g9 cap9 A ca zs F fc X xc zf Y yc id W.drew := h.step (below_drew _ _)
theorem DS.seven (h : DS w base g p1 p2 p4 g9 cap9 A ca zs F fc X xc zf Y yc id W) : W.cell? ⟨g, 0, none⟩ = some (.int .i64 64) ∧ W.cell? ⟨g, 1, none⟩ = some (.slice A zs.length ca) ∧ W.cell? ⟨p1, 0, none⟩ = some (.int .u64 id) ∧ W.cell? ⟨p2, 0, none⟩ = some (.int .i64 64) ∧ W.cell? ⟨p2, 1, none⟩ = some (.slice X zf.length xc) ∧
    W.cell? ⟨p4, 0, none⟩ = some (.int .i64 64) ∧ W.cell? ⟨p4, 1, none⟩ = some (.slice Y (zf.length + 1) yc) := ⟨h.q0, h.q1, h.p0, h.x0, h.x1, h.y0, h.y1⟩
/-- All but the row, which is appended to. -/
theorem DS.cells (h : DS w base g p1 p2 p4 g9 cap9 A ca zs F fc X xc zf Y yc id W) {row : Option Nat} (hg : W.grownBy W1 row) (hr : ∀ k, row = some k → base ≤ k) :
    W1.cell? ⟨g, 0, none⟩ = some (.int .i64 64) ∧ W1.cell? ⟨g, 1, none⟩ = some (.slice A zs.length ca) ∧ W1.cell? ⟨p1, 0, none⟩ = some (.int .u64 id) ∧ W1.cell? ⟨p2, 0, none⟩ = some (.int .i64 64) ∧ W1.cell? ⟨p2, 1, none⟩ = some (.slice X zf.length xc) ∧
    W1.cell? ⟨p4, 0, none⟩ = some (.int .i64 64) ∧ W1.cell? ⟨p4, 1, none⟩ = some (.slice Y (zf.length + 1) yc) ∧ Rd W1 1 A zs.length ca (u64s zs) ∧ Rd W1 1 F zs.length fc (u64s zs) ∧ Below w.heap.size w W1 := by
  have hb := h.blk
  have hne : ∀ q : Nat, q < base → some q ≠ row := fun q hq e => by have := hr q e.symm; omega
  exact ⟨hg.cell h.q0 (hne _ hb.1), hg.cell h.q1 (hne _ hb.1), hg.cell h.p0 (hne _ hb.2.1), hg.cell h.x0 (hne _ hb.2.2.1), hg.cell h.x1 (hne _ hb.2.2.1), hg.cell h.y0 (hne _ hb.2.2.2), hg.cell h.y1 (hne _ hb.2.2.2),
    h.a.grown hg (fun hx ad e he => hne _ (h.fa hx ad e) he.symm), h.f.grown hg (fun hx ad e he => hne _ (h.ff hx ad e) he.symm), h.below.grown hg h.below.size (fun k e => Nat.le_trans h.wb (hr k e))⟩
end

set_option maxRecDepth 100000 in
set_option maxHeartbeats 4000000 in
theorem drops_short (A0 : Option Addr) (n c : Nat) (l : List Int) (d : Int) (w : World) (hr : Rd w 1 A0 n c (u64s l)) (hn : n ≤ 64) (hn0 : 0 < n) (hd0 : 0 ≤ d) (hd : d ≤ 255) :
    Calls Try.prog 6 #[.slice A0 n c, .int .u8 d] w fun e w' => e = .returned (.bool true) ∧ Below w.heap.size w w' := by
  obtain ⟨i0, hi0, hz0, hz1, hz2⟩ := info_parts Try.info29
  have Hr := hide hr; clear hr
  have hne0 : ((n : Int) == 0) = false := by rw [beq_eq_false_iff_ne]; omega
  go_enter Try.func6, Try.ntmps6
  go_wp2_with fail
  refine (awake_any _).mono ?_
  rintro e w1 ⟨rfl, hb1⟩
  have Hb1 := hide hb1; clear hb1
  go_wp2_with fail
  refine (new_ok 64 _ (by omega) (by omega)).mono ?_
  rintro e w2 ⟨rfl, hb2⟩
  have Hb2 := hide (Hb1.out.trans (hb2.mono Hb1.out.size)); clear hb2 Hb1
  have hq : QB (w2.alloc (.cells #[.int .i64 64, .slice none 0 0] 25)) w2.heap.size 64 none 0 0 [] :=
    ⟨by go_simp, by go_simp, by go_simp, by go_simp, Rd.nil_ _ _, fun ad h => by cases h⟩
  have hB : Below w.heap.size w (w2.alloc (.cells #[.int .i64 64, .slice none 0 0] 25)) := Hb2.out.alloc Hb2.out.size _
  have hgN := Hb2.out.size
  have Hq := hide hq
  have HB := hide hB
  clear hq hB Hb2
  go_wp2_with fail
  generalize hW : w2.alloc (.cells #[.int .i64 64, .slice none 0 0] 25) = W at *
  generalize hg : w2.heap.size = g at *
  clear hW hg w2 w1
  go_loopw [34] (fun i wr => ∃ (k : Nat) (A : Option Addr) (c' : Nat) (zs : List Int), k ≤ n ∧ i = .int .i64 k ∧ zs.length ≤ k ∧ (0 < k → 0 < zs.length) ∧ zs.Nodup ∧ QB wr g 64 A zs.length c' zs ∧ Below w.heap.size w wr) (fun i _ => n - (intOf i).toNat)
  case atStart => exact ⟨0, none, 0, [], Nat.zero_le _, rfl, Nat.le_refl _, by omega, List.nodup_nil, Hq.out, HB.out⟩
  case round =>
    obtain ⟨k, A, c', zs, hk, rfl, hzk, hz0, hnd, hQ, hbel⟩ := hrel
    have HQ := hide hQ
    have Hnd := hide hnd
    have Hbel := hide hbel
    have Hz0 := hide hz0
    clear hQ hnd hbel hz0
    by_cases hlt : k < n
    · obtain ⟨ad, rfl⟩ := Hr.out.isSome (by omega)
      obtain ⟨x, ex⟩ : ∃ x, x = l.getD k 0 := ⟨_, rfl⟩
      have hcx : wr.cell? (ad.add k) = some (.int .u64 x) := by rw [ex]; exact cell_later (Hbel.out) (Hr.out.ints k hlt)
      clear ex
      have h0 := HQ.out.c0
      have h1 := HQ.out.c1
      cases hin : zs.contains x with
      | true =>
        have Hin := hide hin; clear hin
        have hz1 : 0 < zs.length := by
          rcases Nat.eq_zero_or_pos zs.length with e | e
          · rw [List.eq_nil_of_length_eq_zero e] at Hin
            exact absurd Hin.out (by simp)
          · exact e
        go_wp2_with fail
        refine (put_twice 64 A _ c' zs x _ HQ.out.rd Hin.out).mono ?_
        rintro e w1 ⟨rfl, hb1⟩
        have HQ1 := hide (HQ.out.step hb1)
        have HB1 := hide (Hbel.out.trans (hb1.mono Hbel.out.size))
        have g0 := HQ1.out.c0
        have g1 := HQ1.out.c1
        have g2 := HQ1.out.f0
        have g3 := HQ1.out.f1
        have hgw : g < wr.heap.size := HQ.out.lt
        have hww := hb1.size
        clear hb1 h0 h1 hcx
        go_wp2_with fail
        go_roundw
        case rel =>
          exact ⟨k + 1, A, c', zs, by omega, by go_num, by omega, fun _ => hz1, Hnd.out, HQ1.out.store HQ1.out.rd HQ1.out.far, (HB1.out.setCell (p := ⟨g, 0, none⟩) hgN _).setCell (p := ⟨g, 1, none⟩) hgN _⟩
        case measure => simp [intOf]; omega
      | false =>
        have Hin := hide hin; clear hin
        go_wp2_with fail
        refine (put_ok 64 A _ c' zs x _ HQ.out.rd (by omega) Hin.out (by omega)).mono ?_
        rintro e w1 ⟨A', c1', rfl, hr1, hfr1, hb1⟩
        have hr1' : Rd w1 1 A' (zs ++ [x]).length c1' (u64s (zs ++ [x])) := by rw [show (zs ++ [x]).length = zs.length + 1 by simp]; exact hr1
        have HQ1 := hide (HQ.out.step hb1)
        have Hr1 := hide hr1'
        have HB1 := hide (Hbel.out.trans (hb1.mono Hbel.out.size))
        have hgw : g < wr.heap.size := HQ.out.lt
        have hww := hb1.size
        have g0 := HQ1.out.c0
        have g1 := HQ1.out.c1
        have g2 := HQ1.out.f0
        have g3 := HQ1.out.f1
        clear hr1 hr1' hb1 h0 h1 hcx
        go_wp2_with fail
        go_roundw
        case rel =>
          refine ⟨k + 1, A', c1', zs ++ [x], by omega, by go_num, by simp; omega, by simp, ?_, ?_, (HB1.out.setCell (p := ⟨g, 0, none⟩) hgN _).setCell (p := ⟨g, 1, none⟩) hgN _⟩
          · have h1 := Hin.out
            rw [List.nodup_append]
            refine ⟨Hnd.out, by simp, ?_⟩
            intro a ha b hb e
            simp at hb
            subst hb e
            simp at h1
            exact h1 ha
          · rw [show (zs ++ [x]).length = zs.length + 1 by simp]
            have hr := Hr1.out
            rw [show (zs ++ [x]).length = zs.length + 1 by simp] at hr
            exact HQ1.out.store hr (fun ad e => by have := hfr1 ad e; omega)
        case measure => simp [intOf]; omega
    · obtain rfl : k = n := by omega
      have hz1 := Hz0.out hn0
      have hz64 : zs.length ≤ 64 := by omega
      clear hk hlt Hz0 hzk Hr
      have h0 := HQ.out.c0
      have h1 := HQ.out.c1
      go_wp2_with fail
      refine (all_any 64 A _ c' zs _ HQ.out.rd (by omega)).mono ?_
      rintro e w1 ⟨F, fc, rfl, how, hb1⟩
      obtain ⟨i, hi⟩ : ∃ i : Nat, d % (zs.length : Int) = (i : Int) := ⟨(d % (zs.length : Int)).toNat, (Int.toNat_of_nonneg (Int.emod_nonneg _ (by omega))).symm⟩
      have hil : i < zs.length := by have := Int.emod_lt_of_pos d (show (0 : Int) < zs.length by omega); omega
      obtain ⟨id, hid⟩ : ∃ id, zs.getD i 0 = id := ⟨_, rfl⟩
      have HF := hide (Rd.of_own how)
      have How := hide how
      obtain ⟨fd, rfl⟩ := HF.out.isSome hz1
      have hcF : w1.cell? (fd.add i) = some (.int .u64 id) := by rw [← hid]; exact HF.out.ints i hil
      have Hid' := hide hid
      have HB1 := hide (Hbel.out.trans (hb1.mono Hbel.out.size))
      have HA1 := hide (HQ.out.rd.below hb1)
      have hg1 : g < w1.heap.size := (HQ.out.step hb1).lt
      have h0 := cell_later hb1 h0
      have h1 := cell_later hb1 h1
      clear how hid hb1 HQ Hbel hn0 hn HB Hq hgN
      go_wp2_with fail
      have q0 := cell_later ((Below.refl _ _).alloc (Nat.le_refl _) (.cells #[.int .u64 id] 29)) h0
      have q1 := cell_later ((Below.refl _ _).alloc (Nat.le_refl _) (.cells #[.int .u64 id] 29)) h1
      have p0 : (w1.alloc (.cells #[.int .u64 id] 29)).cell? ⟨w1.heap.size, 0, none⟩ = some (.int .u64 id) := by go_simp
      have HB2 := hide (HB1.out.alloc HB1.out.size (.cells #[.int .u64 id] 29))
      have HA2 := hide (HA1.out.alloc (.cells #[.int .u64 id] 29))
      have HF2 := hide (HF.out.alloc (.cells #[.int .u64 id] 29))
      clear h0 h1 hcF HB1 HA1 HF How
      generalize hW1 : w1.alloc (.cells #[.int .u64 id] 29) = W1 at *
      generalize hp1 : w1.heap.size = p1 at *
      clear hW1 hp1 w1
      have hkt := nd_keep Hnd.out hil Hid'.out
      obtain ⟨zf, hzfe⟩ : ∃ zf, zs.filter (· != id) = zf := ⟨_, rfl⟩
      have hfl := nd_len Hnd.out hil Hid'.out hzfe
      have hnin : zf.contains id = false := by
        rw [← hzfe, Bool.eq_false_iff]
        intro h
        simp at h
      have Hkt := hide hkt
      have Hzfe := hide hzfe
      have Hnin := hide hnin
      have Hfl := hide hfl
      have hf64 : zf.length < 64 := by omega
      have Hil := hide hil
      have Hz64 := hide hz64
      clear hkt hzfe hnin hfl hil hz64 hz1
      refine (drop_yes 64 A c' i zs zf id _ HA2.out (by have := Hz64.out; omega) Hnd.out Hil.out Hid'.out Hzfe.out).mono ?_
      rintro e w2 ⟨X, xc, rfl, hX, hfX, hb2⟩
      have HX := hide hX
      replace q0 := cell_later hb2 q0
      replace q1 := cell_later hb2 q1
      replace p0 := cell_later hb2 p0
      replace HA2 := hide (HA2.out.below hb2)
      replace HF2 := hide (HF2.out.below hb2)
      replace HB2 := hide (HB2.out.trans (hb2.mono HB2.out.size))
      have lg : g < w2.heap.size := World.block_lt_of_cell? _ _ q0
      have lp : p1 < w2.heap.size := World.block_lt_of_cell? _ _ p0
      clear hX hfX hb2
      go_wp2_with fail
      replace q0 := cell_later ((Below.refl _ _).alloc (Nat.le_refl _) (.cells #[.int .i64 64, .slice X zf.length xc] 25)) q0
      replace q1 := cell_later ((Below.refl _ _).alloc (Nat.le_refl _) (.cells #[.int .i64 64, .slice X zf.length xc] 25)) q1
      replace p0 := cell_later ((Below.refl _ _).alloc (Nat.le_refl _) (.cells #[.int .i64 64, .slice X zf.length xc] 25)) p0
      have x0 : (w2.alloc (.cells #[.int .i64 64, .slice X zf.length xc] 25)).cell? ⟨w2.heap.size, 0, none⟩ = some (.int .i64 64) := by go_simp
      have x1 : (w2.alloc (.cells #[.int .i64 64, .slice X zf.length xc] 25)).cell? ⟨w2.heap.size, 1, none⟩ = some (.slice X zf.length xc) := by go_simp
      replace HA2 := hide (HA2.out.alloc (.cells #[.int .i64 64, .slice X zf.length xc] 25))
      replace HF2 := hide (HF2.out.alloc (.cells #[.int .i64 64, .slice X zf.length xc] 25))
      replace HX := hide (HX.out.alloc (.cells #[.int .i64 64, .slice X zf.length xc] 25))
      replace HB2 := hide (HB2.out.alloc HB2.out.size (.cells #[.int .i64 64, .slice X zf.length xc] 25))
      generalize hW2 : w2.alloc (.cells #[.int .i64 64, .slice X zf.length xc] 25) = W2 at *
      generalize hp2 : w2.heap.size = p2 at *
      clear hW2 hp2 w2
      refine (drop_none 64 X _ xc zf id _ HX.out (idx_of_not Hnin.out)).mono ?_
      rintro e w3 ⟨rfl, hb3⟩
      replace q0 := cell_later hb3 q0
      replace q1 := cell_later hb3 q1
      replace p0 := cell_later hb3 p0
      replace x0 := cell_later hb3 x0
      replace x1 := cell_later hb3 x1
      replace HA2 := hide (HA2.out.below hb3)
      replace HF2 := hide (HF2.out.below hb3)
      replace HX := hide (HX.out.below hb3)
      replace HB2 := hide (HB2.out.trans (hb3.mono HB2.out.size))
      replace lg : g < w3.heap.size := World.block_lt_of_cell? _ _ q0
      replace lp : p1 < w3.heap.size := World.block_lt_of_cell? _ _ p0
      have lx : p2 < w3.heap.size := World.block_lt_of_cell? _ _ x0
      clear hb3
      go_wp2_with fail
      replace q0 := cell_later ((Below.refl _ _).alloc (Nat.le_refl _) (.cells #[.int .i64 64, .slice X zf.length xc] 25)) q0
      replace q1 := cell_later ((Below.refl _ _).alloc (Nat.le_refl _) (.cells #[.int .i64 64, .slice X zf.length xc] 25)) q1
      replace p0 := cell_later ((Below.refl _ _).alloc (Nat.le_refl _) (.cells #[.int .i64 64, .slice X zf.length xc] 25)) p0
      replace x0 := cell_later ((Below.refl _ _).alloc (Nat.le_refl _) (.cells #[.int .i64 64, .slice X zf.length xc] 25)) x0
      replace x1 := cell_later ((Below.refl _ _).alloc (Nat.le_refl _) (.cells #[.int .i64 64, .slice X zf.length xc] 25)) x1
      replace HA2 := hide (HA2.out.alloc (.cells #[.int .i64 64, .slice X zf.length xc] 25))
      replace HF2 := hide (HF2.out.alloc (.cells #[.int .i64 64, .slice X zf.length xc] 25))
      replace HX := hide (HX.out.alloc (.cells #[.int .i64 64, .slice X zf.length xc] 25))
      replace HB2 := hide (HB2.out.alloc HB2.out.size (.cells #[.int .i64 64, .slice X zf.length xc] 25))
      generalize hW3 : w3.alloc (.cells #[.int .i64 64, .slice X zf.length xc] 25) = W3 at *
      generalize hp3 : w3.heap.size = p3 at *
      clear hW3 hp3 w3
      refine (put_ok 64 X _ xc zf id _ HX.out (by omega) Hnin.out (by omega)).mono ?_
      rintro e w4 ⟨Y, yc, rfl, hY, hfY, hb4⟩
      have HY := hide hY
      replace q0 := cell_later hb4 q0
      replace q1 := cell_later hb4 q1
      replace p0 := cell_later hb4 p0
      replace x0 := cell_later hb4 x0
      replace x1 := cell_later hb4 x1
      replace HA2 := hide (HA2.out.below hb4)
      replace HF2 := hide (HF2.out.below hb4)
      replace HX := hide (HX.out.below hb4)
      replace HB2 := hide (HB2.out.trans (hb4.mono HB2.out.size))
      replace lg : g < w4.heap.size := World.block_lt_of_cell? _ _ q0
      replace lp : p1 < w4.heap.size := World.block_lt_of_cell? _ _ p0
      replace lx : p2 < w4.heap.size := World.block_lt_of_cell? _ _ x0
      clear hb4 hY hfY
      go_wp2_with fail
      replace q0 := cell_later ((Below.refl _ _).alloc (Nat.le_refl _) (.cells #[.int .i64 64, .slice Y (zf.length + 1) yc] 25)) q0
      replace q1 := cell_later ((Below.refl _ _).alloc (Nat.le_refl _) (.cells #[.int .i64 64, .slice Y (zf.length + 1) yc] 25)) q1
      replace p0 := cell_later ((Below.refl _ _).alloc (Nat.le_refl _) (.cells #[.int .i64 64, .slice Y (zf.length + 1) yc] 25)) p0
      replace x0 := cell_later ((Below.refl _ _).alloc (Nat.le_refl _) (.cells #[.int .i64 64, .slice Y (zf.length + 1) yc] 25)) x0
      replace x1 := cell_later ((Below.refl _ _).alloc (Nat.le_refl _) (.cells #[.int .i64 64, .slice Y (zf.length + 1) yc] 25)) x1
      have y0 : (w4.alloc (.cells #[.int .i64 64, .slice Y (zf.length + 1) yc] 25)).cell? ⟨w4.heap.size, 0, none⟩ = some (.int .i64 64) := by go_simp
      have y1 : (w4.alloc (.cells #[.int .i64 64, .slice Y (zf.length + 1) yc] 25)).cell? ⟨w4.heap.size, 1, none⟩ = some (.slice Y (zf.length + 1) yc) := by go_simp
      replace HA2 := hide (HA2.out.alloc (.cells #[.int .i64 64, .slice Y (zf.length + 1) yc] 25))
      replace HF2 := hide (HF2.out.alloc (.cells #[.int .i64 64, .slice Y (zf.length + 1) yc] 25))
      replace HX := hide (HX.out.alloc (.cells #[.int .i64 64, .slice Y (zf.length + 1) yc] 25))
      replace HY := hide (HY.out.alloc (.cells #[.int .i64 64, .slice Y (zf.length + 1) yc] 25))
      replace HB2 := hide (HB2.out.alloc HB2.out.size (.cells #[.int .i64 64, .slice Y (zf.length + 1) yc] 25))
      generalize hW4 : w4.alloc (.cells #[.int .i64 64, .slice Y (zf.length + 1) yc] 25) = W4 at *
      generalize hp4 : w4.heap.size = p4 at *
      clear hW4 hp4 w4
      refine (clone_any _ _ _ zs _ HF2.out (by have := Hz64.out; omega)).mono ?_
      rintro e w5 ⟨v5, rfl, hown5, hb5⟩
      have far : ∀ (D : Option Addr) (q r : Nat) (us : List Int), Rd W4 1 D q r (u64s us) → u64s us ≠ [] → ∀ ad, D = some ad → ad.block < W4.heap.size := fun D q r us h hx ad e => h.lt hx e
      have HfA := hide (far _ _ _ _ HA2.out)
      have HfF := hide (far _ _ _ _ HF2.out)
      have HfX := hide (far _ _ _ _ HX.out)
      have HfY := hide (far _ _ _ _ HY.out)
      have Hg4 := hide (World.block_lt_of_cell? _ _ q0)
      have Hp4 := hide (World.block_lt_of_cell? _ _ p0)
      have Hx4 := hide (World.block_lt_of_cell? _ _ x0)
      have Hy4 := hide (World.block_lt_of_cell? _ _ y0)
      have Hw4 := hide (HB2.out.size)
      clear far
      obtain ⟨g9, cap9, rfl, hg1, hg2⟩ := own_form hown5 (by have := Hil.out; omega)
      have Hown5 := hide hown5
      replace q0 := cell_later hb5 q0
      replace q1 := cell_later hb5 q1
      replace p0 := cell_later hb5 p0
      replace x0 := cell_later hb5 x0
      replace x1 := cell_later hb5 x1
      replace y0 := cell_later hb5 y0
      replace y1 := cell_later hb5 y1
      replace HA2 := hide (HA2.out.below hb5)
      replace HF2 := hide (HF2.out.below hb5)
      replace HX := hide (HX.out.below hb5)
      replace HY := hide (HY.out.below hb5)
      replace HB2 := hide (HB2.out.trans (hb5.mono HB2.out.size))
      replace lg : g < w5.heap.size := World.block_lt_of_cell? _ _ q0
      replace lp : p1 < w5.heap.size := World.block_lt_of_cell? _ _ p0
      replace lx : p2 < w5.heap.size := World.block_lt_of_cell? _ _ x0
      have ly : p4 < w5.heap.size := World.block_lt_of_cell? _ _ y0
      clear hb5 hown5
      go_wp2_with fail
      have Hix := hide (nd_idx Hnd.out Hil.out Hid'.out)
      refine (deleteFunc_own g9 zs.length cap9 _ i zs p1 id _ (by have := Hz64.out; omega) Hown5.out p0 (by have := Hp4.out; omega) zf Hzfe.out Hix.out Hil.out Hkt.out).mono ?_
      rintro e w6 ⟨rfl, hown6, hgr6⟩
      have hne : ∀ q : Nat, q < W4.heap.size → some q ≠ some g9 := fun q hq e => by injection e with e; omega
      replace q0 := hgr6.cell q0 (hne _ Hg4.out)
      replace q1 := hgr6.cell q1 (hne _ Hg4.out)
      replace p0 := hgr6.cell p0 (hne _ Hp4.out)
      replace x0 := hgr6.cell x0 (hne _ Hx4.out)
      replace x1 := hgr6.cell x1 (hne _ Hx4.out)
      replace y0 := hgr6.cell y0 (hne _ Hy4.out)
      replace y1 := hgr6.cell y1 (hne _ Hy4.out)
      replace HA2 := hide (HA2.out.grown hgr6 (fun hx ad e he => hne _ (HfA.out hx ad e) he.symm))
      replace HF2 := hide (HF2.out.grown hgr6 (fun hx ad e he => hne _ (HfF.out hx ad e) he.symm))
      replace HX := hide (HX.out.grown hgr6 (fun hx ad e he => hne _ (HfX.out hx ad e) he.symm))
      replace HY := hide (HY.out.grown hgr6 (fun hx ad e he => hne _ (HfY.out hx ad e) he.symm))
      replace HB2 := hide (HB2.out.grown hgr6 (HB2.out.size) (fun k e => by injection e with e; have := Hw4.out; omega))
      have Hown6 := hide hown6
      have Hds := hide (DS.mk (w := w) (base := W4.heap.size) q0 q1 p0 x0 x1 y0 y1 HA2.out HF2.out HX.out HY.out hown6 ⟨Hg4.out, Hp4.out, Hx4.out, Hy4.out⟩ HfA.out HfF.out HfX.out HfY.out Hw4.out (Nat.le_trans (Nat.le_of_lt (Nat.lt_of_le_of_lt hg1 hg2)) hgr6.size) HB2.out)
      have hyz : ((zf.length : Int) + 1 == (zs.length : Int)) = true := by have := Hfl.out; rw [beq_iff_eq]; omega
      have hw4 := Hw4.out
      clear hown6 hgr6 hne Hown5 Hix lg lp lx ly hg1 hg2 HA2 HF2 HX HY HB2 Hown6 HfA HfF HfX HfY Hg4 Hp4 Hx4 Hy4 Hw4 q0 q1 p0 x0 x1 y0 y1
      go_wp2_with fail
      have q0 := Hds.out.q0
      have q1 := Hds.out.q1
      have p0 := Hds.out.p0
      have x0 := Hds.out.x0
      have x1 := Hds.out.x1
      have y0 := Hds.out.y0
      have y1 := Hds.out.y1
      generalize hbase : W4.heap.size = base at *
      clear hbase
      go_region_held3 (fun W => W.cell? ⟨g, 0, none⟩ = some (.int .i64 64) ∧ W.cell? ⟨g, 1, none⟩ = some (.slice A zs.length c') ∧ W.cell? ⟨p1, 0, none⟩ = some (.int .u64 id) ∧ W.cell? ⟨p2, 0, none⟩ = some (.int .i64 64) ∧ W.cell? ⟨p2, 1, none⟩ = some (.slice X zf.length xc) ∧
          W.cell? ⟨p4, 0, none⟩ = some (.int .i64 64) ∧ W.cell? ⟨p4, 1, none⟩ = some (.slice Y (zf.length + 1) yc)) (go_keep)
        (first
          | (go_at_call 17
             (with_reducible refine (all_any 64 X zf.length xc zf _ Hds.out.drew.x (by omega)).mono ?_)
             rintro e w7 ⟨X7, c7, rfl, ho7, hb7⟩
             have Hds7 := hide (Hds.out.drew.step hb7)
             have Hx7 := hide (Rd.of_own ho7)
             obtain ⟨q0, q1, p0, x0, x1, y0, y1⟩ := Hds7.out.seven
             clear ho7 hb7)
          | (go_at_call 16
             (with_reducible refine (equal_b X7 _ zf.length c7 zf.length cap9 zf _ Hx7.out (Rd.of_own Hds7.out.own)).mono ?_)
             rintro e w8 ⟨rfl, hb8⟩
             have Hds8 := hide (Hds7.out.step hb8)
             obtain ⟨q0, q1, p0, x0, x1, y0, y1⟩ := Hds8.out.seven
             clear hb8)
          | (go_at_call 17
             (with_reducible refine (all_any 64 Y (zf.length + 1) yc (zf ++ [id]) _ Hds8.out.y (by omega)).mono ?_)
             rintro e w9 ⟨Y9, c9, rfl, ho9, hb9⟩
             have Hds9 := hide (Hds8.out.step hb9)
             have Hy9 := hide (Rd.of_own ho9)
             have Hne9 := hide (show ∀ ad, Y9 = some ad → (Value.slice (some ⟨g9, 0, none⟩) zf.length cap9).ownBlock ≠ some ad.block from fun ad e he => by
               have h1 := ho9.lt ad.block (by rw [e]; rfl)
               have h2 := Hds8.out.own.lt _ he
               omega)
             obtain ⟨q0, q1, p0, x0, x1, y0, y1⟩ := Hds9.out.seven
             clear ho9 hb9)
          | (go_at_call 17
             (with_reducible refine (all_any 64 Y (zf.length + 1) yc (zf ++ [id]) _ (Hds8.out.alloc (.cells #[.int .u64 id] 29)).y (by omega)).mono ?_)
             rintro e w9 ⟨Y9, c9, rfl, ho9, hb9⟩
             have Hds9 := hide ((Hds8.out.alloc (.cells #[.int .u64 id] 29)).step hb9)
             have Hy9 := hide (Rd.of_own ho9)
             have Hne9 := hide (show ∀ ad, Y9 = some ad → (Value.slice (some ⟨g9, 0, none⟩) zf.length cap9).ownBlock ≠ some ad.block from fun ad e he => by
               have h1 := ho9.lt ad.block (by rw [e]; rfl)
               have h2 := (Hds8.out.alloc (.cells #[.int .u64 id] 29)).own.lt _ he
               omega)
             have Hnew := hide ((rd_new w8 (.int .u64 id) 29).below hb9)
             obtain ⟨q0, q1, p0, x0, x1, y0, y1⟩ := Hds9.out.seven
             clear ho9 hb9)
          | (refine step_append_rd_g _ (by rfl) (.tmp 95) (.tmp 97) 22 rfl base 29 i0 _ 1 8 Try.underlying22 hi0 hz0 hz1 hz2 rfl (by omega) (.slice (some ⟨g9, 0, none⟩) zf.length cap9) zf.length (u64s zf) rfl (Hds9.out.own.alloc _) _ 1 1 [.int .u64 id] rfl (rd_new _ _ _) (u64s_one [id]) (by simp only [maxLen]; omega) (by omega) (by first | exact Hds9.out.be | exact (Hds9.out.alloc _).be) ?_
             intro v2 w10 hown10 hg10 hat10
             have Hg10 := hide hg10
             have Hown10 := hide hown10
             have hrow : ∀ k, (Value.slice (some ⟨g9, 0, none⟩) zf.length cap9).ownBlock = some k → base ≤ k := fun k e => (Hds9.out.own.lt k e).1
             obtain ⟨q0, q1, p0, x0, x1, y0, y1, ha10, hf10, hb10⟩ := (Hds9.out.alloc _).cells hg10 hrow
             have HA10 := hide ha10
             have HF10 := hide hf10
             have HB10 := hide hb10
             have Hy10 := hide ((Hy9.out.alloc _).grown hg10 (fun hx ad e he => (Hne9.out ad e) he))
             obtain ⟨V2, vc2, rfl, hv2⟩ := own_slice hown10
             have Hv2 := hide hv2
             clear hrow ha10 hf10 hb10 hg10 hown10 hat10 hv2)
          | (refine step_append_rd_g _ (by rfl) (.tmp 95) (.tmp 97) 22 rfl base 29 i0 _ 1 8 Try.underlying22 hi0 hz0 hz1 hz2 rfl (by omega) (.slice (some ⟨g9, 0, none⟩) zf.length cap9) zf.length (u64s zf) rfl Hds9.out.own _ 1 1 [.int .u64 id] rfl Hnew.out (u64s_one [id]) (by simp only [maxLen]; omega) (by omega) (by first | exact Hds9.out.be | exact (Hds9.out.alloc _).be) ?_
             intro v2 w10 hown10 hg10 hat10
             have Hg10 := hide hg10
             have Hown10 := hide hown10
             have hrow : ∀ k, (Value.slice (some ⟨g9, 0, none⟩) zf.length cap9).ownBlock = some k → base ≤ k := fun k e => (Hds9.out.own.lt k e).1
             obtain ⟨q0, q1, p0, x0, x1, y0, y1, ha10, hf10, hb10⟩ := Hds9.out.cells hg10 hrow
             have HA10 := hide ha10
             have HF10 := hide hf10
             have HB10 := hide hb10
             have Hy10 := hide (Hy9.out.grown hg10 (fun hx ad e he => (Hne9.out ad e) he))
             obtain ⟨V2, vc2, rfl, hv2⟩ := own_slice hown10
             have Hv2 := hide hv2
             clear hrow ha10 hf10 hb10 hg10 hown10 hat10 hv2)
          | (go_at_call 16
             (with_reducible refine (equal_b Y9 _ (zf.length + 1) c9 (zf.length + 1) vc2 (zf ++ [id]) _ Hy10.out (by have := Hv2.out; rwa [← snoc_u64s] at this)).mono ?_)
             rintro e w11 ⟨rfl, hb11⟩
             replace q0 := cell_later hb11 q0
             replace q1 := cell_later hb11 q1
             replace p0 := cell_later hb11 p0
             replace x0 := cell_later hb11 x0
             replace x1 := cell_later hb11 x1
             replace y0 := cell_later hb11 y0
             replace y1 := cell_later hb11 y1
             have HA11 := hide (HA10.out.below hb11)
             have HF11 := hide (HF10.out.below hb11)
             have HB11 := hide (HB10.out.trans (hb11.mono HB10.out.size))
             clear hb11)
          | (go_at_call 12
             (with_reducible refine (len_any 64 Y (zf.length + 1) yc _).mono ?_)
             rintro e w12 ⟨rfl, hb12⟩
             replace q0 := cell_later hb12 q0
             replace q1 := cell_later hb12 q1
             replace p0 := cell_later hb12 p0
             replace x0 := cell_later hb12 x0
             replace x1 := cell_later hb12 x1
             replace y0 := cell_later hb12 y0
             replace y1 := cell_later hb12 y1
             have HA12 := hide (HA11.out.below hb12)
             have HF12 := hide (HF11.out.below hb12)
             have HB12 := hide (HB11.out.trans (hb12.mono HB11.out.size))
             clear hb12)
          | (go_at_call 17
             (with_reducible refine (all_any 64 A zs.length c' zs _ HA12.out (by have := Hz64.out; omega)).mono ?_)
             rintro e w13 ⟨A13, c13, rfl, ho13, hb13⟩
             replace q0 := cell_later hb13 q0
             replace q1 := cell_later hb13 q1
             replace p0 := cell_later hb13 p0
             replace x0 := cell_later hb13 x0
             replace x1 := cell_later hb13 x1
             replace y0 := cell_later hb13 y0
             replace y1 := cell_later hb13 y1
             have Ha13 := hide (Rd.of_own ho13)
             have HF13 := hide (HF12.out.below hb13)
             have HB13 := hide (HB12.out.trans (hb13.mono HB12.out.size))
             clear ho13 hb13)
          | (go_at_call 16
             (with_reducible refine (equal_b A13 _ zs.length c13 zs.length fc zs _ Ha13.out HF13.out).mono ?_)
             rintro e w14 ⟨rfl, hb14⟩
             replace q0 := cell_later hb14 q0
             replace q1 := cell_later hb14 q1
             replace p0 := cell_later hb14 p0
             replace x0 := cell_later hb14 x0
             replace x1 := cell_later hb14 x1
             replace y0 := cell_later hb14 y0
             replace y1 := cell_later hb14 y1
             have HB14 := hide (HB13.out.trans (hb14.mono HB13.out.size))
             clear hb14)
          | fail)
      all_goals
        go_wp2_with fail
        go_ret
        exact ⟨rfl, HB14.out⟩
set_option maxHeartbeats 400000 in
theorem drops_long (A0 : Option Addr) (n c : Nat) (d : Int) (w : World) (hn : 64 < n) :
    Calls Try.prog 6 #[.slice A0 n c, .int .u8 d] w fun e w' => e = .returned (.bool true) ∧ Below w.heap.size w w' := by
  go_enter Try.func6, Try.ntmps6
  go_wp2_with fail
  refine (awake_any _).mono ?_
  rintro e w1 ⟨rfl, hb1⟩
  have Hb1 := hide hb1; clear hb1
  go_wp2_with fail
  go_ret
  exact ⟨rfl, Hb1.out⟩

set_option maxHeartbeats 400000 in
theorem drops_none (A0 : Option Addr) (c : Nat) (d : Int) (w : World) :
    Calls Try.prog 6 #[.slice A0 0 c, .int .u8 d] w fun e w' => e = .returned (.bool true) ∧ Below w.heap.size w w' := by
  go_enter Try.func6, Try.ntmps6
  go_wp2_with fail
  refine (awake_any _).mono ?_
  rintro e w1 ⟨rfl, hb1⟩
  have Hb1 := hide hb1; clear hb1
  go_wp2_with fail
  go_ret
  exact ⟨rfl, Hb1.out⟩

theorem drops_any (A0 : Option Addr) (n c : Nat) (l : List Int) (d : Int) (w : World) (hr : Rd w 1 A0 n c (u64s l)) (hd0 : 0 ≤ d) (hd : d ≤ 255) :
    Calls Try.prog 6 #[.slice A0 n c, .int .u8 d] w fun e w' => e = .returned (.bool true) ∧ Below w.heap.size w w' := by
  rcases Nat.lt_or_ge 64 n with h | h
  · exact drops_long A0 n c d w h
  · rcases Nat.eq_zero_or_pos n with rfl | h0
    · exact drops_none A0 c d w
    · exact drops_short A0 n c l d w hr h h0 hd0 hd
end Go.Proofs.Ytghmjfinmbgjiaa
