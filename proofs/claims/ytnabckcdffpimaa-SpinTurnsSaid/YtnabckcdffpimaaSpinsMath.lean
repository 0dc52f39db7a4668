/-
  A spin and the document's in two variables; the document's turn by its answer. Conditions: the slices can be read; the numbers are small.
-/
import Derived.Test.YtnabckcdffpimaaIsSpin
import Derived.Test.YtnabckcdffpimaaSpinOf
namespace Go.Proofs.Ytnabckcdffpimaa
open Go.RowKit Ieee

/-- The document's spin in the variable whose block is g. -/
structure QD (w : World) (g : Nat) (H : Option Addr) (hc : Nat) (W : Option Addr) (wc n : Nat) (l : List PN) : Prop where
  c0 : w.cell? ⟨g, 0, none⟩ = some (.slice H n hc)
  c1 : w.cell? ⟨g, 1, none⟩ = some (.slice W n wc)
  f0 : w.frozen? ⟨g, 0, none⟩ = false
  f1 : w.frozen? ⟨g, 1, none⟩ = false
  rh : Rd w 1 H n hc (i64s (l.map Prod.fst))
  rw : Rd w 1 W n wc (i64s (l.map Prod.snd))
  fh : l ≠ [] → ∀ ad, H = some ad → ad.block ≠ g
  fw : l ≠ [] → ∀ ad, W = some ad → ad.block ≠ g

theorem ne_fst {l : List PN} (h : i64s (l.map Prod.fst) ≠ []) : l ≠ [] := fun e => h (by rw [e]; rfl)
theorem ne_snd {l : List PN} (h : i64s (l.map Prod.snd) ≠ []) : l ≠ [] := fun e => h (by rw [e]; rfl)
theorem ne_pvs {l : List PN} (h : pvs l ≠ []) : l ≠ [] := fun e => h (by rw [e]; rfl)
theorem fst_ne {l : List PN} (h : l ≠ []) : i64s (l.map Prod.fst) ≠ [] := fun e => h (by have := congrArg List.length e; simp at this; exact this)
theorem snd_ne {l : List PN} (h : l ≠ []) : i64s (l.map Prod.snd) ≠ [] := fun e => h (by have := congrArg List.length e; simp at this; exact this)
theorem pvs_ne {l : List PN} (h : l ≠ []) : pvs l ≠ [] := fun e => h (by have := congrArg List.length e; simp at this; exact this)

section
variable {w w' : World} {g : Nat} {H W : Option Addr} {n hc wc : Nat} {l : List PN}
theorem QD.lt (h : QD w g H hc W wc n l) : g < w.heap.size := World.block_lt_of_cell? w _ h.c0
theorem QD.step (h : QD w g H hc W wc n l) (hb : Below w.heap.size w w') : QD w' g H hc W wc n l :=
  ⟨cell_later hb h.c0, cell_later hb h.c1, by rw [hb.frozen (p := ⟨g, 0, none⟩) h.lt]; exact h.f0, by rw [hb.frozen (p := ⟨g, 1, none⟩) h.lt]; exact h.f1, h.rh.below hb, h.rw.below hb, h.fh, h.fw⟩
theorem QD.other (h : QD w g H hc W wc n l) {p : Addr} (hp : p.block ≠ g) (hph : l ≠ [] → ∀ ad, H = some ad → ad.block ≠ p.block) (hpw : l ≠ [] → ∀ ad, W = some ad → ad.block ≠ p.block) (v : Value) : QD (w.setCell p v) g H hc W wc n l := by
  have h1 := h.f0
  have h2 := h.f1
  exact ⟨by rw [World.cell?_setCell_other w _ _ _ (fun e => hp (by rw [e]))]; exact h.c0, by rw [World.cell?_setCell_other w _ _ _ (fun e => hp (by rw [e]))]; exact h.c1,
    by simp [go_sem, h1], by simp [go_sem, h2], h.rh.setCell v (fun hx ad e he => hph (ne_fst hx) ad e he.symm), h.rw.setCell v (fun hx ad e he => hpw (ne_snd hx) ad e he.symm), h.fh, h.fw⟩
theorem QD.store (h : QD w g H hc W wc n l) {H' W' : Option Addr} {hc' wc' : Nat} {l' : List PN} (hh : Rd w 1 H' n hc' (i64s (l'.map Prod.fst))) (hw : Rd w 1 W' n wc' (i64s (l'.map Prod.snd)))
    (fh : l' ≠ [] → ∀ ad, H' = some ad → ad.block ≠ g) (fw : l' ≠ [] → ∀ ad, W' = some ad → ad.block ≠ g) :
    QD ((w.setCell ⟨g, 0, none⟩ (.slice H' n hc')).setCell ⟨g, 1, none⟩ (.slice W' n wc')) g H' hc' W' wc' n l' := by
  have h0 := h.c0
  have h1 := h.c1
  have h2 := h.f0
  have h3 := h.f1
  exact ⟨by simp [go_sem, h0], by simp [go_sem, h1], by simp [go_sem, h2], by simp [go_sem, h3],
    (hh.setCell (p := ⟨g, 0, none⟩) _ (fun hx ad e he => fh (ne_fst hx) ad e he.symm)).setCell (p := ⟨g, 1, none⟩) _ (fun hx ad e he => fh (ne_fst hx) ad e he.symm),
    (hw.setCell (p := ⟨g, 0, none⟩) _ (fun hx ad e he => fw (ne_snd hx) ad e he.symm)).setCell (p := ⟨g, 1, none⟩) _ (fun hx ad e he => fw (ne_snd hx) ad e he.symm), fh, fw⟩
theorem QD.new (hh : Rd w 1 H n hc (i64s (l.map Prod.fst))) (hw : Rd w 1 W n wc (i64s (l.map Prod.snd))) : QD (w.alloc (.cells #[.slice H n hc, .slice W n wc] 55)) w.heap.size H hc W wc n l :=
  ⟨by go_simp, by go_simp, by go_simp, by go_simp, hh.alloc _, hw.alloc _, fun hx ad e => Nat.ne_of_lt (hh.lt (fst_ne hx) e), fun hx ad e => Nat.ne_of_lt (hw.lt (snd_ne hx) e)⟩
end

/-- Both. -/
structure TD (w : World) (gs gq : Nat) (A : Option Addr) (c : Nat) (H : Option Addr) (hc : Nat) (W : Option Addr) (wc n : Nat) (l : List PN) : Prop where
  s : SB w gs A n c l
  q : QD w gq H hc W wc n l
  ne : gs ≠ gq
  fa : l ≠ [] → ∀ ad, A = some ad → ad.block ≠ gq
  fh : l ≠ [] → ∀ ad, H = some ad → ad.block ≠ gs
  fw : l ≠ [] → ∀ ad, W = some ad → ad.block ≠ gs

section
variable {w w' : World} {gs gq : Nat} {A A' H W H' W' : Option Addr} {n c c' hc wc hc' wc' : Nat} {l l' : List PN}
theorem TD.step (h : TD w gs gq A c H hc W wc n l) (hb : Below w.heap.size w w') : TD w' gs gq A c H hc W wc n l := ⟨h.s.step hb, h.q.step hb, h.ne, h.fa, h.fh, h.fw⟩
theorem TD.alloc (h : TD w gs gq A c H hc W wc n l) (o : Obj) : TD (w.alloc o) gs gq A c H hc W wc n l := h.step ((Below.refl _ _).alloc (Nat.le_refl _) o)
theorem TD.turn (h : TD w gs gq A c H hc W wc n l) (ha : Rd w 1 A' n c' (pvs l')) (hh : Rd w 1 H' n hc' (i64s (l'.map Prod.fst))) (hw : Rd w 1 W' n wc' (i64s (l'.map Prod.snd)))
    (fa : l' ≠ [] → ∀ ad, A' = some ad → ad.block ≠ gs ∧ ad.block ≠ gq) (fh : l' ≠ [] → ∀ ad, H' = some ad → ad.block ≠ gs ∧ ad.block ≠ gq) (fw : l' ≠ [] → ∀ ad, W' = some ad → ad.block ≠ gs ∧ ad.block ≠ gq) :
    TD (((w.setCell ⟨gs, 0, none⟩ (.slice A' n c')).setCell ⟨gq, 0, none⟩ (.slice H' n hc')).setCell ⟨gq, 1, none⟩ (.slice W' n wc')) gs gq A' c' H' hc' W' wc' n l' ∧
    TD (((w.setCell ⟨gq, 0, none⟩ (.slice H' n hc')).setCell ⟨gq, 1, none⟩ (.slice W' n wc')).setCell ⟨gs, 0, none⟩ (.slice A' n c')) gs gq A' c' H' hc' W' wc' n l' := by
  have hs := h.s.store ha (fun hx ad e => (fa (ne_pvs hx) ad e).1)
  have hq := h.q.store hh hw (fun hx ad e => (fh hx ad e).2) (fun hx ad e => (fw hx ad e).2)
  have hn1 : (⟨gq, 0, none⟩ : Addr).block ≠ gs := fun e => h.ne e.symm
  have hn2 : (⟨gq, 1, none⟩ : Addr).block ≠ gs := fun e => h.ne e.symm
  constructor
  · refine ⟨(hs.other2 hn1 (fun hx ad e => (fa (ne_pvs hx) ad e).2) _).other2 hn2 (fun hx ad e => (fa (ne_pvs hx) ad e).2) _, ?_, h.ne, fun hx ad e => (fa hx ad e).2, fun hx ad e => (fh hx ad e).1, fun hx ad e => (fw hx ad e).1⟩
    have q1 : QD (w.setCell ⟨gs, 0, none⟩ (.slice A' n c')) gq H hc W wc n l := h.q.other (p := ⟨gs, 0, none⟩) h.ne h.fh h.fw _
    exact q1.store (hh.setCell (p := ⟨gs, 0, none⟩) _ (fun hx ad e he => (fh (ne_fst hx) ad e).1 he.symm)) (hw.setCell (p := ⟨gs, 0, none⟩) _ (fun hx ad e he => (fw (ne_snd hx) ad e).1 he.symm)) (fun hx ad e => (fh hx ad e).2) (fun hx ad e => (fw hx ad e).2)
  · refine ⟨?_, hq.other (p := ⟨gs, 0, none⟩) h.ne (fun hx ad e => (fh hx ad e).1) (fun hx ad e => (fw hx ad e).1) _, h.ne, fun hx ad e => (fa hx ad e).2, fun hx ad e => (fh hx ad e).1, fun hx ad e => (fw hx ad e).1⟩
    have s1 := (h.s.other2 hn1 (fun hx ad e => h.fa (ne_pvs hx) ad e) (.slice H' n hc')).other2 hn2 (fun hx ad e => h.fa (ne_pvs hx) ad e) (.slice W' n wc')
    exact s1.store ((ha.setCell (p := ⟨gq, 0, none⟩) _ (fun hx ad e he => (fa (ne_pvs hx) ad e).2 he.symm)).setCell (p := ⟨gq, 1, none⟩) _ (fun hx ad e he => (fa (ne_pvs hx) ad e).2 he.symm)) (fun hx ad e => (fa (ne_pvs hx) ad e).1)
end

theorem nextD_yes (Hp : Option Addr) (n hc : Nat) (Wp : Option Addr) (wc : Nat) (B : Option Addr) (m d : Nat) (l : List PN) (D : List Int) (Hb b : Nat) (w : World) (hH : Rd w 1 Hp n hc (i64s (l.map Prod.fst))) (hW : Rd w 1 Wp n wc (i64s (l.map Prod.snd)))
    (hD : Rd w 1 B m d (i64s D)) (hs : SP l Hb) (hHb : Hb ≤ 100000000) (hb : bestTo D l l.length = (b : Int)) (l' : List PN) (hl' : after D l b = l') :
    Calls Try.prog 28 #[rv Hp n hc Wp n wc, .slice B m d] w fun e w' => ∃ H' hc' W' wc', e = .returned (.tuple #[rv H' n hc' W' n wc', .int .i64 b]) ∧ Rd w' 1 H' n hc' (i64s (l'.map Prod.fst)) ∧ Rd w' 1 W' n wc' (i64s (l'.map Prod.snd)) ∧
      (∀ ad, H' = some ad → w.heap.size ≤ ad.block) ∧ (∀ ad, W' = some ad → w.heap.size ≤ ad.block) ∧ Below w.heap.size w w' := by
  refine (refNext_any Hp n hc Wp wc B m d l D Hb w hH hW hD hs hHb).mono ?_
  rintro e w' ⟨hbel, ⟨h1, _⟩ | ⟨b', v, h1, rfl, H', hc', W', wc', rfl, h2, h3, h4, h5⟩⟩
  · rw [hb] at h1
    omega
  · obtain rfl : b = b' := by rw [hb] at h1; omega
    rw [hl'] at h2 h3
    exact ⟨H', hc', W', wc', rfl, h2, h3, h4, h5, hbel⟩
theorem nextD_no (Hp : Option Addr) (n hc : Nat) (Wp : Option Addr) (wc : Nat) (B : Option Addr) (m d : Nat) (l : List PN) (D : List Int) (Hb : Nat) (w : World) (hH : Rd w 1 Hp n hc (i64s (l.map Prod.fst))) (hW : Rd w 1 Wp n wc (i64s (l.map Prod.snd)))
    (hD : Rd w 1 B m d (i64s D)) (hs : SP l Hb) (hHb : Hb ≤ 100000000) (hb : bestTo D l l.length = -1) :
    Calls Try.prog 28 #[rv Hp n hc Wp n wc, .slice B m d] w fun e w' => e = .returned (.tuple #[rv Hp n hc Wp n wc, .int .i64 (-1)]) ∧ Below w.heap.size w w' := by
  refine (refNext_any Hp n hc Wp wc B m d l D Hb w hH hW hD hs hHb).mono ?_
  rintro e w' ⟨hbel, ⟨h1, rfl⟩ | ⟨b', v, h1, _⟩⟩
  · exact ⟨rfl, hbel⟩
  · rw [hb] at h1
    omega
end Go.Proofs.Ytnabckcdffpimaa
