/-
  Join: one queue behind another; who is left over. Conditions: both queues' slices can be read, and are short.
-/
import Derived.Test.YtghmjfinmbgjiaaRef
import Derived.Test.YtghmjfinmbgjiaaOrder
import Derived.ScopeJumps
namespace Go.Proofs.Ytghmjfinmbgjiaa
open Go.RowKit

/-- One more is put, or is left over. -/
def jstep (room : Int) (p : List Int × List Int) (x : Int) : List Int × List Int :=
  if p.1.contains x = true ∨ room ≤ (p.1.length : Int) then (p.1, p.2 ++ [x]) else (p.1 ++ [x], p.2)
def jfold (room : Int) (zs : List Int) (ys : List Int) : List Int × List Int := ys.foldl (jstep room) (zs, [])
theorem jfold_succ (room : Int) (zs ys : List Int) (k : Nat) (hk : k < ys.length) : jfold room zs (ys.take (k + 1)) = jstep room (jfold room zs (ys.take k)) (ys.getD k 0) := by
  unfold jfold
  rw [List.take_succ_eq_append_getElem hk, List.foldl_append]
  simp [List.getD, hk]
theorem jfold_len (room : Int) (zs ys : List Int) (k : Nat) : (jfold room zs (ys.take k)).1.length ≤ zs.length + k ∧ (jfold room zs (ys.take k)).2.length ≤ k := by
  induction k with
  | zero => simp [jfold]
  | succ k ih =>
    by_cases hk : k < ys.length
    · rw [jfold_succ room zs ys k hk]
      unfold jstep
      split <;> simp <;> omega
    · rw [List.take_of_length_le (by omega)] at ih ⊢
      omega

/-- As wp_scope_jumps, the way to the label and the way from it shown once. -/
theorem wp_scope_once {P : Program} {a : Act} {w : World} {Q : Exit → Act → World → Prop} {c rest : Code} (l : Nat) (J : Act → World → Prop) (μ : Act → World → Nat) (hf : findLabel c l = some (Code.seq .skip rest))
    (first : (∀ a w, J a w → rest.wp P (Exit.jump l J Q) a w) → c.wp P (Exit.jump l J Q) a w)
    (pass : ∀ a w, J a w → rest.wp P (Exit.jump l (fun a' w' => J a' w' ∧ μ a' w' < μ a w) Q) a w) : (Code.scope c).wp P Q a w :=
  wp_scope_jumps l J μ hf (first fun a w h => Code.wp_mono (fun e a' w' h' => by
    cases e <;> first | exact h' | exact ⟨h'.1, h'.2.1⟩) (pass a w h)) (fun a w h => wp_seq (wp_skip (pass a w h)))

theorem cell_far {w : World} {p q : Addr} {v : Value} (h : w.cell? q = some v) (hp : p.block ≠ q.block) (u : Value) : (w.setCell p u).cell? q = some v := by
  rw [World.cell?_setCell_other w p q u (fun e => hp (by rw [e]))]
  exact h

/-- What stands in the midst of Join. -/
structure JT (w : World) (room : Int) (A : Option Addr) (n c : Nat) (zs : List Int) (B : Option Addr) (m d : Nat) (ys : List Int) (v : Value) (ns : Nat) (r : List Int) (W : World) : Prop where
  a0 : W.cell? ⟨w.heap.size, 0, none⟩ = some (.int .i64 room)
  a1 : W.cell? ⟨w.heap.size, 1, none⟩ = some (.slice A n c)
  a2 : W.frozen? ⟨w.heap.size, 0, none⟩ = false
  a3 : W.frozen? ⟨w.heap.size, 1, none⟩ = false
  ar : Rd W 1 A n c (u64s zs)
  af : u64s zs ≠ [] → ∀ ad, A = some ad → w.heap.size ≠ ad.block ∧ w.heap.size + 1 + 1 ≠ ad.block
  b1 : W.cell? ⟨w.heap.size + 1, 1, none⟩ = some (.slice B m d)
  br : Rd W 1 B m d (u64s ys)
  bf : u64s ys ≠ [] → ∀ ad, B = some ad → ad.block < w.heap.size
  r0 : W.cell? ⟨w.heap.size + 1 + 1, 0, none⟩ = some (.int .i64 0)
  r1 : W.cell? ⟨w.heap.size + 1 + 1, 1, none⟩ = some (.slice none 0 0)
  r2 : W.frozen? ⟨w.heap.size + 1 + 1, 0, none⟩ = false
  r3 : W.frozen? ⟨w.heap.size + 1 + 1, 1, none⟩ = false
  o : W.ownsRow (w.heap.size + 1 + 1 + 1) 29 1 v ns (u64s r)
  ap : u64s zs ≠ [] → ∀ ad, A = some ad → v.ownBlock ≠ some ad.block
  bel : Below w.heap.size w W
  sz : w.heap.size + 1 + 1 < W.heap.size

section
variable {w W W' : World} {room : Int} {A B : Option Addr} {n c m d : Nat} {zs ys r : List Int} {v : Value} {ns : Nat}
theorem JT.grown (h : JT w room A n c zs B m d ys v ns r W) {row : Option Nat} (hg : W.grownBy W' row) (hrow : ∀ k, row = some k → w.heap.size + 1 + 1 < k) (ha : u64s zs ≠ [] → ∀ ad, A = some ad → row ≠ some ad.block)
    {v' : Value} {ns' : Nat} {r' : List Int} (ho : W'.ownsRow (w.heap.size + 1 + 1 + 1) 29 1 v' ns' (u64s r')) (hap : u64s zs ≠ [] → ∀ ad, A = some ad → v'.ownBlock ≠ some ad.block) : JT w room A n c zs B m d ys v' ns' r' W' := by
  have hs := h.sz
  have hb0 : W'.heap[w.heap.size]? = W.heap[w.heap.size]? := hg.block _ (by omega) (fun e => by have := hrow _ e.symm; omega)
  have hb1 : W'.heap[w.heap.size + 1]? = W.heap[w.heap.size + 1]? := hg.block _ (by omega) (fun e => by have := hrow _ e.symm; omega)
  have hb2 : W'.heap[w.heap.size + 1 + 1]? = W.heap[w.heap.size + 1 + 1]? := hg.block _ (by omega) (fun e => by have := hrow _ e.symm; omega)
  exact { h with
    a0 := (World.cell?_of_block hb0).trans h.a0
    a1 := (World.cell?_of_block hb0).trans h.a1
    a2 := (World.frozen?_of_block hb0).trans h.a2
    a3 := (World.frozen?_of_block hb0).trans h.a3
    ar := h.ar.grown hg ha
    b1 := (World.cell?_of_block hb1).trans h.b1
    br := h.br.grown hg (fun hx ad e h3 => by have := h.bf hx ad e; have := hrow _ h3; omega)
    r0 := (World.cell?_of_block hb2).trans h.r0
    r1 := (World.cell?_of_block hb2).trans h.r1
    r2 := (World.frozen?_of_block hb2).trans h.r2
    r3 := (World.frozen?_of_block hb2).trans h.r3
    o := ho
    ap := hap
    bel := h.bel.grown hg h.bel.size (fun k e => by have := hrow k e; omega)
    sz := Nat.lt_of_lt_of_le hs hg.size }
theorem JT.step (h : JT w room A n c zs B m d ys v ns r W) (hb : Below W.heap.size W W') : JT w room A n c zs B m d ys v ns r W' :=
  h.grown (grown_of_below hb) (by simp) (by simp) (own_below h.o hb (Nat.le_refl _)) h.ap
theorem JT.alloc (h : JT w room A n c zs B m d ys v ns r W) (o : Obj) : JT w room A n c zs B m d ys v ns r (W.alloc o) := h.step ((Below.refl _ _).alloc (Nat.le_refl _) o)
theorem JT.drew (h : JT w room A n c zs B m d ys v ns r W) : JT w room A n c zs B m d ys v ns r W.drew := h.step (below_drew _ _)
theorem JT.elem {bb bo : Nat} (h : JT w room A n c zs (some ⟨bb, bo, none⟩) m d ys v ns r W) {k : Nat} {y : Int} (hk : k < m) (hy : ys.getD k 0 = y) : W.cell? ⟨bb, bo + k, none⟩ = some (.int .u64 y) := by
  have := h.br.ints k hk
  rw [hy] at this
  simpa [Addr.add_lit] using this
/-- A store into a variable of the round. -/
theorem JT.far (h : JT w room A n c zs B m d ys v ns r W) (p : Addr) (hp : w.heap.size + 1 + 1 < p.block) (h1 : u64s zs ≠ [] → ∀ ad, A = some ad → p.block ≠ ad.block) (h2 : v.ownBlock ≠ some p.block) (u : Value) : JT w room A n c zs B m d ys v ns r (W.setCell p u) :=
  { h with
    a0 := cell_far h.a0 (by simp only; omega) _
    a1 := cell_far h.a1 (by simp only; omega) _
    a2 := by rw [World.frozen?_setCell]; exact h.a2
    a3 := by rw [World.frozen?_setCell]; exact h.a3
    ar := h.ar.setCell _ h1
    b1 := cell_far h.b1 (by simp only; omega) _
    br := h.br.setCell _ (fun hx ad e => by have := h.bf hx ad e; omega)
    r0 := cell_far h.r0 (by simp only; omega) _
    r1 := cell_far h.r1 (by simp only; omega) _
    r2 := by rw [World.frozen?_setCell]; exact h.r2
    r3 := by rw [World.frozen?_setCell]; exact h.r3
    o := own_setCell_far h.o h2 _
    bel := h.bel.setCell (by omega) _
    sz := by simpa using h.sz }
/-- 'a = next'. -/
theorem JT.store (h : JT w room A n c zs B m d ys v ns r W) {A' : Option Addr} {n' c' : Nat} {zs' : List Int} (hr : Rd W 1 A' n' c' (u64s zs')) (hf : u64s zs' ≠ [] → ∀ ad, A' = some ad → w.heap.size ≠ ad.block ∧ w.heap.size + 1 + 1 ≠ ad.block) (hap : u64s zs' ≠ [] → ∀ ad, A' = some ad → v.ownBlock ≠ some ad.block) :
    JT w room A' n' c' zs' B m d ys v ns r ((W.setCell ⟨w.heap.size, 0, none⟩ (.int .i64 room)).setCell ⟨w.heap.size, 1, none⟩ (.slice A' n' c')) := by
  have h0 := h.a0
  have h1 := h.a1
  have h2 := h.a2
  have h3 := h.a3
  exact { h with
    a0 := by simp [go_sem, h0, h1]
    a1 := by simp [go_sem, h0, h1]
    a2 := by simp [go_sem, h2]
    a3 := by simp [go_sem, h3]
    ar := (hr.setCell (p := ⟨w.heap.size, 0, none⟩) _ (fun hx ad e => (hf hx ad e).1)).setCell (p := ⟨w.heap.size, 1, none⟩) _ (fun hx ad e => (hf hx ad e).1)
    af := hf
    b1 := cell_far (cell_far h.b1 (by simp) _) (by simp) _
    br := (h.br.setCell (p := ⟨w.heap.size, 0, none⟩) _ (fun hx ad e => by have := h.bf hx ad e; simp only; omega)).setCell (p := ⟨w.heap.size, 1, none⟩) _ (fun hx ad e => by have := h.bf hx ad e; simp only; omega)
    r0 := cell_far (cell_far h.r0 (by simp only; omega) _) (by simp only; omega) _
    r1 := cell_far (cell_far h.r1 (by simp only; omega) _) (by simp only; omega) _
    r2 := by rw [World.frozen?_setCell, World.frozen?_setCell]; exact h.r2
    r3 := by rw [World.frozen?_setCell, World.frozen?_setCell]; exact h.r3
    o := ownsRow_setCell_below (ownsRow_setCell_below h.o (by simp only; omega) _) (by simp only; omega) _
    ap := hap
    bel := (h.bel.setCell (p := ⟨w.heap.size, 0, none⟩) (Nat.le_refl _) _).setCell (p := ⟨w.heap.size, 1, none⟩) (Nat.le_refl _) _
    sz := by simpa using h.sz }
theorem JT.start (ha : Rd w 1 A n c (u64s zs)) (hb : Rd w 1 B m d (u64s ys)) (roomB : Int) :
    JT w room A n c zs B m d ys (.slice none 0 0) 0 [] (((w.alloc (.cells #[.int .i64 room, .slice A n c] 25)).alloc (.cells #[.int .i64 roomB, .slice B m d] 25)).alloc (.cells #[.int .i64 0, .slice none 0 0] 25)) where
  a0 := by go_simp
  a1 := by go_simp
  a2 := by go_simp
  a3 := by go_simp
  ar := ((ha.alloc _).alloc _).alloc _
  af := fun hx ad e => by have := ha.lt hx e; constructor <;> omega
  b1 := by go_simp
  br := ((hb.alloc _).alloc _).alloc _
  bf := fun hx ad e => hb.lt hx e
  r0 := by go_simp
  r1 := by go_simp
  r2 := by go_simp
  r3 := by go_simp
  o := World.ownsRow_nil _ _ _ _
  ap := fun _ _ _ h => by cases h
  bel := (((Below.refl _ _).alloc (Nat.le_refl _) _).alloc (by simp) _).alloc (by simp; omega) _
  sz := by simp
end
end Go.Proofs.Ytghmjfinmbgjiaa
