/-
  Contract of the document's New. Conditions: the weights can be read.
-/
import Derived.Test.YtnabckcdffpimaaUpMath
namespace Go.Proofs.Ytnabckcdffpimaa
open Go.RowKit Ieee

/-- The document's spin. -/
abbrev rv (H : Option Addr) (n hc : Nat) (W : Option Addr) (m wc : Nat) : Value := .agg #[.slice H n hc, .slice W m wc]

/-- A result in block r, a spin in block s with two rows of its own. -/
structure NT (w : World) (r s : Nat) (Hv Wv : Value) (hs ws : List Int) (W : World) : Prop where
  r0 : W.cell? ⟨r, 0, none⟩ = some (.slice none 0 0)
  r1 : W.cell? ⟨r, 1, none⟩ = some (.slice none 0 0)
  rf0 : W.frozen? ⟨r, 0, none⟩ = false
  rf1 : W.frozen? ⟨r, 1, none⟩ = false
  s0 : W.cell? ⟨s, 0, none⟩ = some Hv
  s1 : W.cell? ⟨s, 1, none⟩ = some Wv
  sf0 : W.frozen? ⟨s, 0, none⟩ = false
  sf1 : W.frozen? ⟨s, 1, none⟩ = false
  oh : W.ownsRow (s + 1) 3 1 Hv hs.length (i64s hs)
  ow : W.ownsRow (s + 1) 3 1 Wv ws.length (i64s ws)
  ap : ∀ q, Hv.ownBlock = some q → Wv.ownBlock ≠ some q
  rs : r < s
  wr : w.heap.size ≤ r
  size : s + 1 ≤ W.heap.size
  below : Below w.heap.size w W

section
variable {w W W' : World} {r s : Nat} {Hv Wv : Value} {hs ws : List Int}

theorem NT.grown (h : NT w r s Hv Wv hs ws W) {row : Option Nat} (hg : W.grownBy W' row) (hr : ∀ q, row = some q → s + 1 ≤ q) :
    W'.cell? ⟨r, 0, none⟩ = some (.slice none 0 0) ∧ W'.cell? ⟨r, 1, none⟩ = some (.slice none 0 0) ∧ W'.frozen? ⟨r, 0, none⟩ = false ∧ W'.frozen? ⟨r, 1, none⟩ = false ∧
    W'.cell? ⟨s, 0, none⟩ = some Hv ∧ W'.cell? ⟨s, 1, none⟩ = some Wv ∧ W'.frozen? ⟨s, 0, none⟩ = false ∧ W'.frozen? ⟨s, 1, none⟩ = false ∧ s + 1 ≤ W'.heap.size ∧ Below w.heap.size w W' := by
  have hs := h.size
  have hrs := h.rs
  have hwr := h.wr
  have hb : ∀ b, b < s + 1 → W'.heap[b]? = W.heap[b]? := fun b hlt => hg.block b (by omega) (fun e => by have := hr b e.symm; omega)
  exact ⟨(World.cell?_of_block (hb _ (by simp only; omega))).trans h.r0, (World.cell?_of_block (hb _ (by simp only; omega))).trans h.r1, (World.frozen?_of_block (hb _ (by simp only; omega))).trans h.rf0, (World.frozen?_of_block (hb _ (by simp only; omega))).trans h.rf1,
    (World.cell?_of_block (hb _ (by simp))).trans h.s0, (World.cell?_of_block (hb _ (by simp))).trans h.s1, (World.frozen?_of_block (hb _ (by simp))).trans h.sf0, (World.frozen?_of_block (hb _ (by simp))).trans h.sf1,
    Nat.le_trans hs hg.size, h.below.grown hg h.below.size (fun q e => by have := hr q e; omega)⟩

theorem NT.alloc (h : NT w r s Hv Wv hs ws W) (o : Obj) : NT w r s Hv Wv hs ws (W.alloc o) := by
  obtain ⟨a1, a2, a3, a4, a5, a6, a7, a8, a9, a10⟩ := h.grown (World.grownBy_alloc W o none) (by simp)
  exact ⟨a1, a2, a3, a4, a5, a6, a7, a8, h.oh.alloc o, h.ow.alloc o, h.ap, h.rs, h.wr, a9, a10⟩

theorem NT.push_h (h : NT w r s Hv Wv hs ws W) {v2 : Value} {x : Int} (ho : W'.ownsRow (s + 1) 3 1 v2 (hs.length + 1) (i64s hs ++ [.int .i64 x])) (hg : W.grownBy W' Hv.ownBlock) (hat : v2.ownBlock = Hv.ownBlock ∨ v2.ownBlock = some W.heap.size) :
    W'.cell? ⟨s, 0, none⟩ = some Hv ∧ W'.frozen? ⟨s, 0, none⟩ = false ∧ s + 1 ≤ W'.heap.size ∧ NT w r s v2 Wv (hs ++ [x]) ws (W'.setCell ⟨s, 0, none⟩ v2) ∧ W'.cell? ⟨s, 1, none⟩ = some Wv ∧ W'.frozen? ⟨s, 1, none⟩ = false := by
  obtain ⟨a1, a2, a3, a4, a5, a6, a7, a8, a9, a10⟩ := h.grown hg (fun q e => (h.oh.lt q e).1)
  have hrs := h.rs
  have hwr := h.wr
  have hne : (⟨s, 0, none⟩ : Addr) ≠ ⟨r, 0, none⟩ := fun e => by injection e with e; omega
  have hne2 : (⟨s, 0, none⟩ : Addr) ≠ ⟨r, 1, none⟩ := fun e => by injection e with e; omega
  have ho' : W'.ownsRow (s + 1) 3 1 v2 (hs ++ [x]).length (i64s (hs ++ [x])) := by
    rw [List.length_append, show i64s (hs ++ [x]) = i64s hs ++ [.int .i64 x] by simp [i64s]]
    exact ho
  refine ⟨a5, a7, a9, ⟨by rw [World.cell?_setCell_other _ _ _ _ hne]; exact a1, by rw [World.cell?_setCell_other _ _ _ _ hne2]; exact a2, by simp [go_sem, a3], by simp [go_sem, a4], by simp [go_sem, a5], by simp [go_sem, a6], by simp [go_sem, a7], by simp [go_sem, a8],
    ownsRow_setCell_below ho' (by simp) _, ownsRow_setCell_below (h.ow.kept hg ?_) (by simp) _, fun q e => ?_, hrs, hwr, by simpa using a9, a10.setCell (p := ⟨s, 0, none⟩) (by simp only; omega) _⟩, a6, a8⟩
  · cases hw : Wv.ownBlock with
    | none => exact .inl rfl
    | some q => exact .inr fun e => h.ap q e.symm hw
  · rcases hat with hat | hat
    · exact h.ap q (by rw [← hat]; exact e)
    · intro hw
      rw [hat] at e
      injection e with e
      have := (h.ow.lt q hw).2
      omega

theorem NT.push_w (h : NT w r s Hv Wv hs ws W) {v2 : Value} {x : Int} (ho : W'.ownsRow (s + 1) 3 1 v2 (ws.length + 1) (i64s ws ++ [.int .i64 x])) (hg : W.grownBy W' Wv.ownBlock) (hat : v2.ownBlock = Wv.ownBlock ∨ v2.ownBlock = some W.heap.size) :
    W'.cell? ⟨s, 1, none⟩ = some Wv ∧ W'.frozen? ⟨s, 1, none⟩ = false ∧ s + 1 ≤ W'.heap.size ∧ NT w r s Hv v2 hs (ws ++ [x]) (W'.setCell ⟨s, 1, none⟩ v2) := by
  obtain ⟨a1, a2, a3, a4, a5, a6, a7, a8, a9, a10⟩ := h.grown hg (fun q e => (h.ow.lt q e).1)
  have hrs := h.rs
  have hwr := h.wr
  have hne : (⟨s, 1, none⟩ : Addr) ≠ ⟨r, 0, none⟩ := fun e => by injection e with e; omega
  have hne2 : (⟨s, 1, none⟩ : Addr) ≠ ⟨r, 1, none⟩ := fun e => by injection e with e; omega
  have ho' : W'.ownsRow (s + 1) 3 1 v2 (ws ++ [x]).length (i64s (ws ++ [x])) := by
    rw [List.length_append, show i64s (ws ++ [x]) = i64s ws ++ [.int .i64 x] by simp [i64s]]
    exact ho
  refine ⟨a6, a8, a9, ⟨by rw [World.cell?_setCell_other _ _ _ _ hne]; exact a1, by rw [World.cell?_setCell_other _ _ _ _ hne2]; exact a2, by simp [go_sem, a3], by simp [go_sem, a4], by simp [go_sem, a5], by simp [go_sem, a6], by simp [go_sem, a7], by simp [go_sem, a8],
    ownsRow_setCell_below (h.oh.kept hg ?_) (by simp) _, ownsRow_setCell_below ho' (by simp) _, fun q e hw => ?_, hrs, hwr, by simpa using a9, a10.setCell (p := ⟨s, 1, none⟩) (by simp only; omega) _⟩⟩
  · cases hw : Hv.ownBlock with
    | none => exact .inl rfl
    | some q => exact .inr fun e => h.ap q hw e.symm
  · rcases hat with hat | hat
    · exact h.ap q e (by rw [← hat]; exact hw)
    · rw [hat] at hw
      injection hw with hw
      have := (h.oh.lt q e).2
      omega

theorem NT.start (w : World) : NT w w.heap.size (w.heap.size + 1) (.slice none 0 0) (.slice none 0 0) [] [] ((w.alloc (.cells #[.slice none 0 0, .slice none 0 0] 55)).alloc (.cells #[.slice none 0 0, .slice none 0 0] 55)) :=
  ⟨by go_simp, by go_simp, by go_simp, by go_simp, by go_simp, by go_simp, by go_simp, by go_simp, World.ownsRow_nil _ _ _ _, World.ownsRow_nil _ _ _ _, (fun q e => by cases e), by omega, Nat.le_refl _, by simp, ((Below.refl _ _).alloc (Nat.le_refl _) _).alloc (by simp) _⟩
end

/-- All weights may be. -/
def goodW (ws : List Int) (n : Nat) : Prop := ∀ k, k < n → okW (ws.getD k 0)
/-- The document's spin as a value, of a fresh list. -/
def RefRd (B : Nat) (w : World) (v : Value) (n : Nat) (l : List PN) : Prop := ∃ H hc W wc, v = rv H n hc W n wc ∧ Rd w 1 H n hc (i64s (l.map Prod.fst)) ∧ Rd w 1 W n wc (i64s (l.map Prod.snd)) ∧ (∀ ad, H = some ad → B ≤ ad.block) ∧ (∀ ad, W = some ad → B ≤ ad.block)

set_option maxHeartbeats 4000000 in
theorem refNew_many (A : Option Addr) (n c : Nat) (w : World) (hn : 8 < n) :
    Calls Try.prog 25 #[.slice A n c] w fun e w' => e = .returned (.tuple #[rv none 0 0 none 0 0, .int .i64 6]) ∧ Below w.heap.size w w' := by
  have hgt : (8 : Int) < (n : Int) := by omega
  go_enter Try.func25, Try.ntmps25
  go_wp2_with fail
  refine bodyPost_ret (v := .tuple #[rv none 0 0 none 0 0, .int .i64 6]) (by simp [results, Try.results25, go_sem]) rfl ⟨rfl, ?_⟩
  repeat (first | exact Below.refl _ _ | exact below_drewN _ _ _ | refine Below.drew ?_ | refine Below.alloc ?_ (by simp <;> omega) _ | refine Below.setCell ?_ (by simp <;> omega) _)

set_option maxRecDepth 100000 in
set_option maxHeartbeats 8000000 in
theorem refNew_few (A : Option Addr) (n c : Nat) (ws : List Int) (w : World) (hr : Rd w 1 A n c (i64s ws)) (hn : n ≤ 8) :
    Calls Try.prog 25 #[.slice A n c] w fun e w' => Below w.heap.size w w' ∧
      ((¬ goodW ws n ∧ e = .returned (.tuple #[rv none 0 0 none 0 0, .int .i64 7])) ∨ (goodW ws n ∧ ∃ v, e = .returned (.tuple #[v, .int .i64 0]) ∧ RefRd w.heap.size w' v n (fresh ws))) := by
  obtain ⟨i0, hi0, hz0, hz1, hz2⟩ := info_parts Try.info3
  have hl := hr.intLen
  have Hl := hide hl
  have Hr0 := hide hr
  have HN := hide (NT.start w)
  clear hr hl
  go_enter Try.func25, Try.ntmps25
  go_wp2_with fail
  generalize hW : (w.alloc (.cells #[.slice none 0 0, .slice none 0 0] 55)).alloc (.cells #[.slice none 0 0, .slice none 0 0] 55) = W at *
  clear hW
  go_loopw [13] (fun i wr => ∃ (k : Nat) (Hv Wv : Value), k ≤ n ∧ i = .int .i64 k ∧ (∀ j, j < k → okW (ws.getD j 0)) ∧ NT w w.heap.size (w.heap.size + 1) Hv Wv (List.replicate k 0) (ws.take k) wr) (fun i _ => n - (intOf i).toNat)
  case atStart => exact ⟨0, _, _, Nat.zero_le _, rfl, by omega, by simpa using HN.out⟩
  case round =>
    clear HN
    obtain ⟨k, Hv, Wv, hk, rfl, hgood, hN⟩ := hrel
    have Hgood := hide hgood
    obtain ⟨VH, ch, rfl, hVH⟩ := own_slice hN.oh
    obtain ⟨VW, cw, rfl, hVW⟩ := own_slice hN.ow
    have HN := hide hN
    have HVH := hide hVH
    have HVW := hide hVW
    have r0 := hN.r0
    have r1 := hN.r1
    have rf0 := hN.rf0
    have rf1 := hN.rf1
    have s0 := hN.s0
    have s1 := hN.s1
    have hsz := hN.size
    have htl : (ws.take k).length = k := by rw [List.length_take, Hl.out]; exact Nat.min_eq_left hk
    have hrl : (List.replicate k (0 : Int)).length = k := List.length_replicate
    rw [htl] at s1
    rw [hrl] at s0
    have Htl := hide htl
    have Hrl := hide hrl
    clear hgood hN hVH hVW htl hrl
    by_cases hlt : k < n
    · obtain ⟨ad, rfl⟩ := Hr0.out.isSome (by omega)
      obtain ⟨x, hx⟩ : ∃ x, ws.getD k 0 = x := ⟨_, rfl⟩
      have hcx : wr.cell? (ad.add k) = some (.int .i64 x) := by rw [← hx]; exact (Hr0.out.below HN.out.below).ints k hlt
      have Hx := hide hx
      clear hx
      by_cases h1 : x < 1
      · have hbad : ¬ goodW ws n := fun h => by have h := (h k hlt).1; rw [Hx.out] at h; omega
        have Hbad := hide hbad
        clear hbad s0 s1
        go_wp2_with fail
        refine bodyPost_ret (v := .tuple #[rv none 0 0 none 0 0, .int .i64 7]) (by simp [results, Try.results25, go_sem, r0, r1]) rfl ⟨?_, .inl ⟨Hbad.out, rfl⟩⟩
        exact (HN.out.below.setCell (p := ⟨w.heap.size, 0, none⟩) (by simp) _).setCell (p := ⟨w.heap.size, 1, none⟩) (by simp) _
      · by_cases h2 : 100 < x
        · have hbad : ¬ goodW ws n := fun h => by have h := (h k hlt).2; rw [Hx.out] at h; omega
          have Hbad := hide hbad
          clear hbad s0 s1
          go_wp2_with fail
          refine bodyPost_ret (v := .tuple #[rv none 0 0 none 0 0, .int .i64 7]) (by simp [results, Try.results25, go_sem, r0, r1]) rfl ⟨?_, .inl ⟨Hbad.out, rfl⟩⟩
          exact (HN.out.below.setCell (p := ⟨w.heap.size, 0, none⟩) (by simp) _).setCell (p := ⟨w.heap.size, 1, none⟩) (by simp) _
        · have hok : okW x := ⟨by omega, by omega⟩
          have Hok := hide hok
          clear hok r0 r1 rf0 rf1
          have HA := hide (show (wr.alloc (.cells #[.int .i64 0] 3)).ownsRow (w.heap.size + 1 + 1) 3 1 (.slice VH k ch) k (i64s (List.replicate k 0)) from by
            have h := (HN.out.alloc (.cells #[.int .i64 0] 3)).oh
            rw [Hrl.out] at h
            exact h)
          go_wp2_with (first
            | (at_builtin
               refine wpList_append_rd _ rfl (.tmp 25) (.tmp 26) 39 rfl (w.heap.size + 1 + 1) 3 i0 _ 1 8 Try.underlying39 hi0 hz0 hz1 hz2 rfl (by omega) (.slice VH k ch) k (i64s (List.replicate k 0)) rfl HA.out _ 1 1 [.int .i64 0] rfl (rd_new _ _ _) (i64s_one [0]) (by simp only [maxLen]; omega) (by omega) (by simp; omega) ?_
               intro v2 w2 hown2 hg2 hat2
               obtain ⟨V2, c2, rfl, hV2⟩ := own_slice hown2
               have hp := (HN.out.alloc (.cells #[.int .i64 0] 3)).push_h (x := 0) (by rw [Hrl.out]; exact hown2) (by rw [Hrl.out]; exact hg2) (by rw [Hrl.out]; exact hat2)
               clear s0 s1
               have s0 := hp.1
               have sf0 := hp.2.1
               have hsz2 := hp.2.2.1
               have HN2 := hide hp.2.2.2.1
               have s1 := hp.2.2.2.2.1
               have sf1 := hp.2.2.2.2.2
               rw [Htl.out] at s1
               rw [Hrl.out] at s0
               have HA2 := hide (show ((w2.setCell ⟨w.heap.size + 1, 0, none⟩ (.slice V2 (k + 1) c2)).alloc (.cells #[.int .i64 x] 3)).ownsRow (w.heap.size + 1 + 1) 3 1 (.slice VW k cw) k (i64s (ws.take k)) from by
                 have h := (HN2.out.alloc (.cells #[.int .i64 x] 3)).ow
                 rw [Htl.out] at h
                 exact h)
               clear hp hown2 hg2 hat2 HA hV2)
            | (at_builtin
               refine wpList_append_rd _ rfl (.tmp 30) (.tmp 32) 39 rfl (w.heap.size + 1 + 1) 3 i0 _ 1 8 Try.underlying39 hi0 hz0 hz1 hz2 rfl (by omega) (.slice VW k cw) k (i64s (ws.take k)) rfl HA2.out _ 1 1 [.int .i64 x] rfl (rd_new' _ _ _ _ (by simp)) (i64s_one [x]) (by simp only [maxLen]; omega) (by omega) (by simp; omega) ?_
               intro v3 w3 hown3 hg3 hat3
               obtain ⟨V3, c3, rfl, hV3⟩ := own_slice hown3
               have hp := (HN2.out.alloc (.cells #[.int .i64 x] 3)).push_w (x := x) (by rw [Htl.out]; exact hown3) (by rw [Htl.out]; exact hg3) (by rw [Htl.out]; exact hat3)
               clear s0 s1 sf0 sf1
               have s1 := hp.1
               have sf1 := hp.2.1
               have hsz3 := hp.2.2.1
               have HN3 := hide hp.2.2.2
               rw [Htl.out] at s1
               clear hp hown3 hg3 hat3 HA2 hV3)
            | fail)
          go_roundw
          case rel =>
            have hl := Hl.out
            have h1 : List.replicate (k + 1) (0 : Int) = List.replicate k 0 ++ [0] := by rw [List.replicate_succ']
            have h2 : ws.take (k + 1) = ws.take k ++ [x] := by
              rw [List.take_succ_eq_append_getElem (by omega)]
              have := Hx.out
              simp only [List.getD, show k < ws.length by omega, List.getElem?_eq_getElem, Option.getD_some] at this
              rw [this]
            refine ⟨k + 1, .slice V2 (k + 1) c2, .slice V3 (k + 1) c3, by omega, by go_num, fun j hj => ?_, ?_⟩
            · by_cases e : j = k
              · rw [e, Hx.out]; exact Hok.out
              · exact Hgood.out j (by omega)
            · rw [h1, h2]
              exact HN3.out
          case measure => simp [intOf]; omega
    · obtain rfl : k = n := by omega
      have hgood : goodW ws k := Hgood.out
      have Hgd := hide hgood
      clear hgood hlt hk
      go_wp2_with fail
      refine bodyPost_ret (v := .tuple #[rv VH k ch VW k cw, .int .i64 0]) (by simp [results, Try.results25, go_sem, r0, r1]) rfl ⟨?_, .inr ⟨Hgd.out, _, rfl, VH, ch, VW, cw, rfl, ?_, ?_, fun ad e => by have := (HN.out.oh.lt ad.block (by rw [e]; rfl)).1; omega, fun ad e => by have := (HN.out.ow.lt ad.block (by rw [e]; rfl)).1; omega⟩⟩
      · exact (HN.out.below.setCell (p := ⟨w.heap.size, 0, none⟩) (by simp) _).setCell (p := ⟨w.heap.size, 1, none⟩) (by simp) _
      · have h1 : (fresh ws).map Prod.fst = List.replicate k 0 := by
          rw [← Hl.out]
          refine List.ext_getElem (by simp) fun i _ _ => by simp [fresh]
        rw [h1]
        have h := HVH.out
        rw [Hrl.out] at h
        exact (h.setCell (p := ⟨w.heap.size, 0, none⟩) _ (fun _ ad e => by have := (HN.out.oh.lt ad.block (by rw [e]; rfl)).1; simp only; omega)).setCell (p := ⟨w.heap.size, 1, none⟩) _ (fun _ ad e => by have := (HN.out.oh.lt ad.block (by rw [e]; rfl)).1; simp only; omega)
      · have h1 : (fresh ws).map Prod.snd = ws.take k := by
          rw [List.take_of_length_le (by rw [Hl.out]; exact Nat.le_refl _)]
          exact List.ext_getElem (by simp) fun i _ _ => by simp [fresh]
        rw [h1]
        have h := HVW.out
        rw [Htl.out] at h
        exact (h.setCell (p := ⟨w.heap.size, 0, none⟩) _ (fun _ ad e => by have := (HN.out.ow.lt ad.block (by rw [e]; rfl)).1; simp only; omega)).setCell (p := ⟨w.heap.size, 1, none⟩) _ (fun _ ad e => by have := (HN.out.ow.lt ad.block (by rw [e]; rfl)).1; simp only; omega)
end Go.Proofs.Ytnabckcdffpimaa
