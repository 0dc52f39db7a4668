/-
  Small facts on worlds, slices that read as lists of cells, and appends, used by all proofs of this seat. Conditions: none; nothing here speaks of the program.
-/
import Derived.WalkKit
import Derived.WalkSpells
import Derived.WalkLawsBesides
namespace Go.Proofs.YtdjpcdimcjjemaaDoor
open Go.RowKit

theorem hide {p : Prop} (h : p) : Hid p := h

theorem ret_int {k : IntKind} {a b : Int} (h : a = b) : Ending.returned (.int k a) = .returned (.int k b) := by rw [h]
theorem ret_bool {a b : Bool} (h : a = b) : Ending.returned (.bool a) = .returned (.bool b) := by rw [h]

/-- The slice value at A, of n elements and capacity c, sz cells an element, reads in w as the cells xs. -/
structure Rd (w : World) (sz : Nat) (A : Option Addr) (n c : Nat) (xs : List Value) : Prop where
  len : xs.length = n * sz
  le : n ≤ c
  max : c ≤ maxLen
  nil0 : A = none → c = 0
  cell : ∀ ad, A = some ad → ∀ j u, xs[j]? = some u → w.cell? (ad.add j) = some u

section
variable {w w' : World} {sz : Nat} {A : Option Addr} {n c : Nat} {xs : List Value}

theorem Rd.nil_ (w : World) (sz : Nat) : Rd w sz none 0 0 [] := ⟨by simp, Nat.le_refl _, by simp [maxLen], fun _ => rfl, fun _ h => by cases h⟩

theorem Rd.keep (h : Rd w sz A n c xs) (hk : ∀ p : Addr, p.block < w.heap.size → w'.cell? p = w.cell? p) : Rd w' sz A n c xs :=
  ⟨h.len, h.le, h.max, h.nil0, fun ad e j u hj => by
    have hc := h.cell ad e j u hj
    rw [hk _ (World.block_lt_of_cell? w _ hc)]
    exact hc⟩

theorem Rd.below (h : Rd w sz A n c xs) (hb : Below w.heap.size w w') : Rd w' sz A n c xs := h.keep fun _ hp => hb.cell hp

theorem Rd.alloc (h : Rd w sz A n c xs) (o : Obj) : Rd (w.alloc o) sz A n c xs := h.below ((Below.refl _ _).alloc (Nat.le_refl _) o)

theorem Rd.drew (h : Rd w sz A n c xs) : Rd w.drew sz A n c xs := ⟨h.len, h.le, h.max, h.nil0, h.cell⟩

theorem grown_drew {row : Option Nat} (h : w.drew.grownBy w' row) : w.grownBy w' row := ⟨h.os, h.tape, h.output, h.size, h.block⟩
theorem grown_drewN {row : Option Nat} {q : Nat} (h : (w.drewN q).grownBy w' row) : w.grownBy w' row := ⟨h.os, h.tape, h.output, h.size, h.block⟩
theorem below_undrew {B : Nat} (h : Below B w.drew w') : Below B w w' := ⟨h.os, h.tape, h.output, h.size, h.block⟩
theorem below_undrewN {B q : Nat} (h : Below B (w.drewN q) w') : Below B w w' := ⟨h.os, h.tape, h.output, h.size, h.block⟩
theorem below_drewN (B : Nat) (w : World) (q : Nat) : Below B w (w.drewN q) := ⟨rfl, rfl, rfl, Nat.le_refl _, fun _ _ => rfl⟩
theorem below_drew (B : Nat) (w : World) : Below B w w.drew := ⟨rfl, rfl, rfl, Nat.le_refl _, fun _ _ => rfl⟩
theorem Rd.drewN (h : Rd w sz A n c xs) (q : Nat) : Rd (w.drewN q) sz A n c xs := ⟨h.len, h.le, h.max, h.nil0, h.cell⟩

theorem block_add (ad : Addr) (j : Nat) : (ad.add j).block = ad.block := by unfold Addr.add; split <;> rfl

theorem Rd.grown (h : Rd w sz A n c xs) {row : Option Nat} (hg : w.grownBy w' row) (hne : xs ≠ [] → ∀ ad, A = some ad → row ≠ some ad.block) : Rd w' sz A n c xs :=
  ⟨h.len, h.le, h.max, h.nil0, fun ad e j u hj => by
    have hx : xs ≠ [] := by rintro rfl; simp at hj
    exact hg.cell (h.cell ad e j u hj) (by rw [block_add]; exact fun he => hne hx ad e he.symm)⟩

theorem Rd.setCell (h : Rd w sz A n c xs) {p : Addr} (v : Value) (hne : xs ≠ [] → ∀ ad, A = some ad → p.block ≠ ad.block) : Rd (w.setCell p v) sz A n c xs :=
  ⟨h.len, h.le, h.max, h.nil0, fun ad e j u hj => by
    have hx : xs ≠ [] := by rintro rfl; simp at hj
    rw [World.cell?_setCell_other w p (ad.add j) v (fun he => hne hx ad e (by rw [he, block_add]))]
    exact h.cell ad e j u hj⟩

theorem Rd.lt (h : Rd w sz A n c xs) (hx : xs ≠ []) {ad : Addr} (e : A = some ad) : ad.block < w.heap.size := by
  cases xs with
  | nil => exact absurd rfl hx
  | cons u r =>
    have := World.block_lt_of_cell? w _ (h.cell ad e 0 u rfl)
    rwa [block_add] at this

theorem Rd.spot {ad : Addr} (h : Rd w sz (some ad) n c xs) (hx : xs ≠ []) : ad.spot = none := by
  cases xs with
  | nil => exact absurd rfl hx
  | cons u r =>
    have hc := h.cell ad rfl 0 u rfl
    have := World.cell?_spot hc
    simpa [Addr.add] using this

theorem Rd.isSome (h : Rd w sz A n c xs) (hn : 0 < n) : ∃ ad, A = some ad := by
  cases A with
  | none => have := h.nil0 rfl; have := h.le; omega
  | some ad => exact ⟨ad, rfl⟩

theorem Rd.of_own {base : Nat} {e : TypeId} {A : Option Addr} {n c : Nat} {xs : List Value} (h : w.ownsRow base e sz (.slice A n c) n xs) : Rd w sz A n c xs := by
  have h1 := h.1
  rcases h.2 with ⟨hv, hn⟩ | ⟨g, cap, cur, hv, hb, hg, hnc, hcm, hcs, htake⟩
  · injection hv with hA hn' hc
    subst hA hc
    exact ⟨h1, by omega, (by simp [maxLen]), (fun _ => rfl), (fun _ he => by cases he)⟩
  · injection hv with hA hn' hc
    subst hA hc
    refine ⟨h1, hnc, hcm, (fun he => by cases he), (fun ad he j u hj => ?_)⟩
    injection he with he
    subst he
    exact h.cells (g := g) rfl j u hj

theorem own_slice {base : Nat} {e : TypeId} {v : Value} (h : w.ownsRow base e sz v n xs) : ∃ A c, v = .slice A n c ∧ Rd w sz A n c xs := by
  have h2 := h.2
  rcases h2 with ⟨hv, hn⟩ | ⟨g, cap, cur, hv, _⟩
  · subst hn
    exact ⟨_, _, hv, Rd.of_own (hv ▸ h)⟩
  · exact ⟨_, _, hv, Rd.of_own (hv ▸ h)⟩

/-- What the part from k on reads as: the walk's own spelling of its address bears an 'if'. -/
theorem Rd.from_ (h : Rd w sz A n c xs) {k : Nat} (hk : k ≤ n) : Rd w sz (if c = k then A else A.map (·.add (k * sz))) (n - k) (c - k) (xs.drop (k * sz)) := by
  refine ⟨by rw [List.length_drop, h.len, Nat.sub_mul], by have := h.le; omega, by have := h.max; omega, fun he => ?_, fun ad he j u hj => ?_⟩
  · split at he
    · omega
    · have := h.nil0 (by simpa using he)
      omega
  · rw [List.getElem?_drop] at hj
    split at he
    · rename_i hc
      have hlt : k * sz + j < xs.length := (List.getElem?_eq_some_iff.1 hj).1
      have hnk : n = k := by have := h.le; omega
      rw [h.len, hnk] at hlt
      omega
    · cases A with
      | none => cases he
      | some a =>
        simp only [Option.map_some, Option.some.injEq] at he
        subst he
        have e1 : (a.add (k * sz)).add j = a.add (k * sz + j) := by
          unfold Addr.add
          by_cases hi : k * sz = 0 <;> by_cases hj : j = 0 <;> simp [hi, hj, Nat.add_assoc]
        rw [e1]
        exact h.cell a rfl _ u hj

theorem Rd.to_ (h : Rd w sz A n c xs) {k : Nat} (hk : k ≤ n) : Rd w sz A k c (xs.take (k * sz)) := by
  refine ⟨by rw [List.length_take, h.len]; exact Nat.min_eq_left (Nat.mul_le_mul_right _ hk), by have := h.le; omega, h.max, h.nil0, fun ad he j u hj => ?_⟩
  rw [List.getElem?_take] at hj
  split at hj
  · exact h.cell ad he j u hj
  · cases hj
end

theorem rd_new (w : World) (u : Value) (e : TypeId) : Rd (w.alloc (.cells #[u] e)) 1 (some ⟨w.heap.size, 0, none⟩) 1 1 [u] := by
  refine ⟨rfl, Nat.le_refl _, by simp [maxLen], (fun h => by cases h), fun ad he j v hj => ?_⟩
  injection he with he
  subst he
  match j, hj with
  | 0, hj => simp at hj; subst hj; simp [Addr.add]

theorem rd_new' (w : World) (u : Value) (e : TypeId) (g : Nat) (hg : g = w.heap.size) : Rd (w.alloc (.cells #[u] e)) 1 (some ⟨g, 0, none⟩) 1 1 [u] := hg ▸ rd_new w u e

/-! ### Slices of whole numbers -/
section
variable {w w' : World} {A : Option Addr} {n c : Nat} {zs : List Int} {k : IntKind}

theorem Rd.int {ad : Addr} (h : Rd w 1 A n c (zs.map (Value.int k))) (e : A = some ad) (j : Nat) (hj : j < zs.length) : w.cell? (ad.add j) = some (.int k (zs.getD j 0)) :=
  h.cell ad e j _ (by simp [hj, List.getD])
theorem Rd.ints {ad : Addr} (h : Rd w 1 (some ad) n c (zs.map (Value.int k))) (j : Nat) (hj : j < n) : w.cell? (ad.add j) = some (.int k (zs.getD j 0)) :=
  h.int rfl j (by have := h.len; simp at this; omega)
theorem Rd.intLen (h : Rd w 1 A n c (zs.map (Value.int k))) : zs.length = n := by have := h.len; simpa using this
end

/-! ### Appends -/
section
variable {P : Program} (w : World)

theorem run_append_nothing (base : Nat) (t ty e : TypeId) (i : TypeInfo) (size : Nat) (ht : P.underlying t = some (.slice e)) (hi : P.info? e = some i)
    (v : Value) (n : Nat) (xs : List Value) (hown : w.ownsRow base e size v n xs) (A : Option Addr) (c : Nat) : (Builtin.append_ #[t, t] ty #[v, .slice A 0 c]).run P w = .ok v w := by
  rcases hown.2 with ⟨rfl, rfl⟩ | ⟨g, cap, cur, rfl, _, _, hnc, _⟩
  · cases A <;> simp [Builtin.append_, run_underlying ht, sizeOf, typeInfo, hi, Builtin.lenOf, Builtin.firstCells, loadCells, loadCellsFrom]
  · cases A <;> simp [Builtin.append_, run_underlying ht, sizeOf, typeInfo, hi, Builtin.lenOf, Builtin.firstCells, hnc, storeCells, loadCells, loadCellsFrom]

/-- An append onto what the call owns, of whatever slice that can be read. It says where the new row lies. -/
theorem run_append_rd (base : Nat) (t ty e : TypeId) (i : TypeInfo) (z : Value) (size bytes : Nat) (ht : P.underlying t = some (.slice e)) (hi : P.info? e = some i) (hz : i.zero = some z)
    (hsize : i.size = size) (hby : i.bytes = bytes) (hzs : z.cells.size = size) (hsz : 0 < size)
    (v : Value) (n : Nat) (xs : List Value) (hown : w.ownsRow base e size v n xs)
    (A : Option Addr) (m c : Nat) (news : List Value) (hr : Rd w size A m c news) (h1 : ∀ u ∈ news, u.oneCell' = true)
    (h63 : n + m ≤ maxLen) (hbytes : (n + m) * bytes ≤ 140737488355328) (hbase : base ≤ w.heap.size) :
    ∃ v' w', (Builtin.append_ #[t, t] ty #[v, .slice A m c]).run P w = .ok v' w' ∧ w'.ownsRow base e size v' (n + m) (xs ++ news) ∧ w.grownBy w' v.ownBlock ∧ (v'.ownBlock = v.ownBlock ∨ v'.ownBlock = some w.heap.size) := by
  by_cases hm : m = 0
  · subst hm
    have hn : news = [] := List.eq_nil_of_length_eq_zero (by simpa using hr.len)
    subst hn
    exact ⟨v, w, run_append_nothing w base t ty e i size ht hi v n xs hown A c, by simpa using hown, World.grownBy.refl w _, .inl rfl⟩
  · obtain ⟨ad, rfl⟩ := hr.isSome (by omega)
    obtain ⟨v', w', hrun, h2, h3, _, h5⟩ := run_append_own_at (P := P) w base t ty e i z size bytes ht hi hz hsize hby hzs hsz v n xs hown ad m c news hr.len (hr.cell ad rfl) h1 h63 hbytes hbase
    exact ⟨v', w', hrun, h2, h3, h5⟩

theorem wp_append_rd {o : Oper} {a : Act} {K : Act → World → Prop} {Q : Exit → Act → World → Prop} (s x : Operand) (t : TypeId)
    (ho : o.op = .call { callee := .builtin .append, args := #[s, x], argTypes := #[t, t] })
    (base : Nat) (e : TypeId) (i : TypeInfo) (z : Value) (size bytes : Nat) (ht : P.underlying t = some (.slice e)) (hi : P.info? e = some i) (hz : i.zero = some z)
    (hsize : i.size = size) (hby : i.bytes = bytes) (hzs : z.cells.size = size) (hsz : 0 < size)
    (v : Value) (n : Nat) (xs : List Value) (hs : a.eval s = v) (hown : w.ownsRow base e size v n xs)
    (A : Option Addr) (m c : Nat) (news : List Value) (hx : a.eval x = .slice A m c) (hr : Rd w size A m c news) (h1 : ∀ u ∈ news, u.oneCell' = true)
    (h63 : n + m ≤ maxLen) (hbytes : (n + m) * bytes ≤ 140737488355328) (hbase : base ≤ w.heap.size)
    (h : ∀ v' w', w'.ownsRow base e size v' (n + m) (xs ++ news) → w.grownBy w' v.ownBlock → (v'.ownBlock = v.ownBlock ∨ v'.ownBlock = some w.heap.size) → K (a.put o.dst v') w') : o.wp P a w K Q := by
  obtain ⟨v', w', hrun, h2, h3, h5⟩ := run_append_rd (P := P) w base t o.type e i z size bytes ht hi hz hsize hby hzs hsz v n xs hown A m c news hr h1 h63 hbytes hbase
  unfold Oper.wp execOp
  simp only [ho, resolve, invoke, builtin, Sem.run_bind, Sem.run_pure, Result.andThen_ok, List.map_toArray, List.map_cons, List.map_nil, hs, hx, hrun]
  exact h v' w' h2 h3 h5

theorem wpList_append_rd {ops : Array Oper} {rest : List Oper} {o : Oper} {a : Act} {Q : Exit → Act → World → Prop} (hgd : o.guard = none) (s x : Operand) (t : TypeId)
    (ho : o.op = .call { callee := .builtin .append, args := #[s, x], argTypes := #[t, t] })
    (base : Nat) (e : TypeId) (i : TypeInfo) (z : Value) (size bytes : Nat) (ht : P.underlying t = some (.slice e)) (hi : P.info? e = some i) (hz : i.zero = some z)
    (hsize : i.size = size) (hby : i.bytes = bytes) (hzs : z.cells.size = size) (hsz : 0 < size)
    (v : Value) (n : Nat) (xs : List Value) (hs : a.eval s = v) (hown : w.ownsRow base e size v n xs)
    (A : Option Addr) (m c : Nat) (news : List Value) (hx : a.eval x = .slice A m c) (hr : Rd w size A m c news) (h1 : ∀ u ∈ news, u.oneCell' = true)
    (h63 : n + m ≤ maxLen) (hbytes : (n + m) * bytes ≤ 140737488355328) (hbase : base ≤ w.heap.size)
    (h : ∀ v' w', w'.ownsRow base e size v' (n + m) (xs ++ news) → w.grownBy w' v.ownBlock → (v'.ownBlock = v.ownBlock ∨ v'.ownBlock = some w.heap.size) → wpList P ops Q rest (a.put o.dst v') w') : wpList P ops Q (o :: rest) a w :=
  wpList_plain hgd fun _ hK => wp_append_rd w s x t ho base e i z size bytes ht hi hz hsize hby hzs hsz v n xs hs hown A m c news hx hr h1 h63 hbytes hbase fun v' w' h2 h3 h5 => hK _ _ (h v' w' h2 h3 h5)
end

end Go.Proofs.YtdjpcdimcjjemaaDoor
