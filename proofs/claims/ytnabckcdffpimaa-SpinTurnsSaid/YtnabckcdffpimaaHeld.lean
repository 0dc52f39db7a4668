/-
  A region that draws its order of evaluation and holds loads, calls and a store at its end: a load may be taken first where nobody but that last operation writes its cell. Conditions: none.
-/
import Derived.Test.YtnabckcdffpimaaBase
import Derived.Deep.RegionHeld
namespace Go.Proofs.Ytnabckcdffpimaa

section
variable {P : Program} {ops : Array Oper} {Q : Exit → Act → World → Prop} {md : Region.Mode} {S : World → Prop} {z : Nat}

/-- Whatever order is picked from here on, and 'S' holds behind every operation till number 'z' has come up. -/
def AnyE (P : Program) (md : Region.Mode) (ops : Array Oper) (Q : Exit → Act → World → Prop) (S : World → Prop) (z : Nat) : Nat → Array Bool → Act → World → Prop
  | 0, listed, a, w => Region.ready md ops listed = [] ∧ Q .normal a w
  | fuel + 1, listed, a, w =>
    (Region.ready md ops listed = [] → Q .normal a w) ∧
    ∀ i ∈ Region.ready md ops listed,
      wpOp P ops Q i (fun a' w' => ((listed.setIfInBounds i true).getD z false = false → S w') ∧ AnyE P md ops Q S z fuel (listed.setIfInBounds i true) a' w') a w

theorem AnyE.any : ∀ (fuel : Nat) (listed : Array Bool) (a : Act) (w : World), AnyE P md ops Q S z fuel listed a w → wpAny P md ops Q fuel listed a w
  | 0, _, _, _, h => h
  | fuel + 1, _, _, _, h => ⟨h.1, fun i hi => wpOp_mono (fun a' w' h' => AnyE.any fuel _ a' w' h'.2) (h.2 i hi)⟩

/-- Who has come up, for him have come up all that he waits for. -/
def ClosedE (md : Region.Mode) (ops : Array Oper) (listed : Array Bool) : Prop :=
  ∀ j oj, ops[j]? = some oj → listed.getD j false = true → ∀ e ∈ oj.after, Region.binds md e = true → listed.getD e.on false = true
def closedB (md : Region.Mode) (ops : Array Oper) (listed : Array Bool) : Bool :=
  (List.range ops.size).all fun j => !listed.getD j false || ((ops[j]?).map fun oj => oj.after.all fun e => !Region.binds md e || listed.getD e.on false).getD true
theorem closedB_spec {listed : Array Bool} (h : closedB md ops listed = true) : ClosedE md ops listed := by
  intro j oj hj hl e he hb
  have hjs : j < ops.size := (Array.getElem?_eq_some_iff.1 hj).1
  have h1 := List.all_eq_true.1 h j (List.mem_range.2 hjs)
  rw [hj, hl] at h1
  simp only [Bool.not_true, Bool.false_or, Option.map_some, Option.getD_some] at h1
  have h2 := Array.all_eq_true'.1 h1 e he
  rw [hb] at h2
  simpa using h2
theorem ClosedE.set {i : Nat} {listed : Array Bool} (h : ClosedE md ops listed) (hi : i ∈ Region.ready md ops listed) : ClosedE md ops (listed.setIfInBounds i true) := by
  obtain ⟨_, oi, hoi, hall⟩ := mem_ready.1 hi
  intro j oj hj hl e he hb
  by_cases hij : i = j
  · subst hij
    obtain rfl : oj = oi := Option.some.inj (hj.symm.trans hoi)
    exact getD_set_true (hall e he hb)
  · rw [getD_set_ne false hij] at hl
    exact getD_set_true (h j oj hj hl e he hb)

theorem unlisted {listed : Array Bool} {i : Nat} (h : listed.getD i true = false) : listed.getD i false = false := by
  by_cases h' : i < listed.size
  · simp [h'] at h ⊢; exact h
  · simp [Array.getElem?_eq_none (Nat.le_of_not_lt h')]
/-- Number j waits for number i. -/
def waitsB (md : Region.Mode) (ops : Array Oper) (j i : Nat) : Bool := ((ops[j]?).map fun o => o.after.any fun e => Region.binds md e && e.on == i).getD false
theorem waits_spec {listed : Array Bool} (h : ClosedE md ops listed) {j i : Nat} (hw : waitsB md ops j i = true) (hj : listed.getD j false = true) : listed.getD i false = true := by
  unfold waitsB at hw
  cases ho : ops[j]? with
  | none => rw [ho] at hw; cases hw
  | some o =>
    rw [ho] at hw
    simp only [Option.map_some, Option.getD_some] at hw
    obtain ⟨e, he, hb⟩ := Array.any_eq_true'.1 hw
    simp only [Bool.and_eq_true, beq_iff_eq] at hb
    rw [← hb.2]
    exact h j o ho hj e he hb.1
/-- 'z' waits for 'i', through those of the path. -/
def pathB (md : Region.Mode) (ops : Array Oper) : Nat → List Nat → Nat → Bool
  | z, [], i => waitsB md ops z i
  | z, c :: r, i => waitsB md ops z c && pathB md ops c r i
theorem path_spec {listed : Array Bool} (h : ClosedE md ops listed) : ∀ (r : List Nat) (z i : Nat), pathB md ops z r i = true → listed.getD z false = true → listed.getD i false = true
  | [], _, _, hp, hz => waits_spec h hp hz
  | c :: r, z, i, hp, hz => by
    simp only [pathB, Bool.and_eq_true] at hp
    exact path_spec h r c i hp.2 (waits_spec h hp.1 hz)

theorem AnyE.first {i : Nat} {oi : Oper} {v : Value} {r : List Nat} (hp : pathB md ops z r i = true) (hiz : i ≠ z) (hi : ops[i]? = some oi) (hsel : ∀ (j : Nat) (o : Oper) cs b, ops[j]? = some o → o.op ≠ .select cs b)
    (hQ : ∀ c a w, Q (.panic c) (a.put oi.dst v) w → Q (.panic c) a w) (fuel : Nat) :
    ∀ (listed : Array Bool) (a : Act) (w : World), ClosedE md ops listed →
      (∀ j oj, ops[j]? = some oj → j ≠ i → listed.getD j true = false → (∀ e ∈ oj.after, Region.binds md e = true → e.on ≠ i) → oi.apart ops oj = true) →
      i ∈ Region.ready md ops listed → YieldsIf P ops S oi v a → S w →
      AnyE P md ops Q S z fuel (listed.setIfInBounds i true) (a.put oi.dst v) w → AnyE P md ops Q S z (fuel + 1) listed a w := by
  induction fuel with
  | zero =>
    intro listed a w _ _ hr hy hS H
    constructor
    · intro h; rw [h] at hr; cases hr
    · intro j hj
      by_cases hji : j = i
      · subst hji; exact hy.wpOp hi hS ⟨fun _ => hS, H⟩
      · have h1 := ready_mono hj hji
        rw [H.1] at h1
        cases h1
  | succ fuel ih =>
    intro listed a w hcl hfree hr hy hS H
    constructor
    · intro h; rw [h] at hr; cases hr
    · intro j hj
      by_cases hji : j = i
      · subst hji; exact hy.wpOp hi hS ⟨fun _ => hS, H⟩
      · have hrj : i ∈ Region.ready md ops (listed.setIfInBounds j true) := ready_mono hr (Ne.symm hji)
        have hclj := hcl.set hj
        obtain ⟨hjun, oj, hoj, hall⟩ := mem_ready.1 hj
        have hnot : ∀ e ∈ oj.after, Region.binds md e = true → e.on ≠ i := by
          intro e he hb heq
          have h1 := hall e he hb
          have h0 := (mem_ready.1 hr).1
          rw [heq, unlisted h0] at h1
          cases h1
        have hz : (listed.setIfInBounds j true).getD z false = false := by
          cases hzl : (listed.setIfInBounds j true).getD z false with
          | false => rfl
          | true =>
            have h1 := path_spec hclj r z i hp hzl
            rw [unlisted (mem_ready.1 hrj).1] at h1
            cases h1
        have h2 := wpOp_putIf hoj (hfree j oj hoj hji hjun hnot) (fun cs b => hsel i oi cs b hi) (fun cs b => hsel j oj cs b hoj) hQ hy (H.2 j (ready_mono hj hji))
        refine wpOp_mono (fun a' w' h3 => ?_) h2
        have hSw : S w' := h3.2.1 (by rw [Array.setIfInBounds_comm _ _ (Ne.symm hji), getD_set_ne false hiz]; exact hz)
        refine ⟨fun _ => hSw, ih (listed.setIfInBounds j true) a' w' hclj ?_ hrj h3.1 hSw ?_⟩
        · intro k ok hk hki hun hno
          by_cases hjk : j = k
          · subst hjk; exact hfree _ ok hk hki hjun hno
          · rw [getD_set_ne true hjk] at hun; exact hfree k ok hk hki hun hno
        · rw [Array.setIfInBounds_comm _ _ hji]
          exact h3.2.2

theorem at_list {i : Nat} {o : Oper} (h : ops.toList[i]? = some o) : ops[i]? = some o := by simpa using h

/-- Take number 'i' first: z waits for it through r, and it yields v in every world that meets S. -/
theorem AnyE.take {i : Nat} {oi : Oper} {v : Value} (r : List Nat) {fuel : Nat} {listed : Array Bool} {a : Act} {w : World} (hi : ops.toList[i]? = some oi)
    (hp : (pathB md ops z r i && (i != z) && closedB md ops listed && Region.noSelect ops && Region.free md ops listed i && (Region.ready md ops listed).contains i) = true)
    (hQ : ∀ c a w, Q (.panic c) (a.put oi.dst v) w → Q (.panic c) a w) (hy : YieldsIf P ops S oi v a) (hS : S w)
    (h : AnyE P md ops Q S z fuel (listed.setIfInBounds i true) (a.put oi.dst v) w) : AnyE P md ops Q S z (fuel + 1) listed a w := by
  simp only [Bool.and_eq_true, bne_iff_ne] at hp
  obtain ⟨⟨⟨⟨⟨h1, h2⟩, h3⟩, h4⟩, h5⟩, h6⟩ := hp
  exact AnyE.first h1 h2 (at_list hi) (Region.noSelect_spec h4) hQ fuel listed a w (closedB_spec h3) (Region.free_spec (at_list hi) h5) (by simpa using h6) hy hS h

/-- Those of 'rs' that may come up next. -/
def ReadyE (P : Program) (md : Region.Mode) (ops : Array Oper) (Q : Exit → Act → World → Prop) (S : World → Prop) (z : Nat) (fuel : Nat) (listed : Array Bool) (a : Act) (w : World) (rs : List Nat) : Prop :=
  ∀ i ∈ rs, wpOp P ops Q i (fun a' w' => ((listed.setIfInBounds i true).getD z false = false → S w') ∧ AnyE P md ops Q S z fuel (listed.setIfInBounds i true) a' w') a w
theorem ReadyE.nil {fuel : Nat} {listed : Array Bool} {a : Act} {w : World} : ReadyE P md ops Q S z fuel listed a w [] := fun _ h => by cases h
theorem AnyE.ready {rs : List Nat} {fuel : Nat} {listed : Array Bool} {a : Act} {w : World} (hr : (Region.ready md ops listed == rs && !rs.isEmpty) = true)
    (h : ReadyE P md ops Q S z fuel listed a w rs) : AnyE P md ops Q S z (fuel + 1) listed a w := by
  simp only [Bool.and_eq_true, beq_iff_eq] at hr
  refine ⟨fun h0 => ?_, hr.1 ▸ h⟩
  have h1 := hr.2
  rw [← hr.1, h0] at h1
  cases h1
/-- One of them in the midst. -/
theorem ReadyE.cons {fuel : Nat} {listed : Array Bool} {a : Act} {w : World} {i : Nat} {o : Oper} {rs : List Nat} (ho : ops.toList[i]? = some o)
    (h : ∀ K' : Act → World → Prop, Shut (∀ a w, S w → (S w → AnyE P md ops Q S z fuel (listed.setIfInBounds i true) a w) → K' a w) → if Region.wanted o (yielded ops a.tmps) = true then Oper.wp P o a w K' Q else K' (a.put o.dst undef) w)
    (hs : ReadyE P md ops Q S z fuel listed a w rs) : ReadyE P md ops Q S z fuel listed a w (i :: rs) := fun j hj => by
  rcases List.mem_cons.1 hj with rfl | hj
  · exact wpOp_step (at_list ho) (fun K' hK => h K' (fun a w hS hW => hK a w ⟨fun _ => hS, hW hS⟩))
  · exact hs j hj
/-- One alone may come up: the last, or one behind it. -/
theorem AnyE.one {i : Nat} {fuel : Nat} {listed : Array Bool} {a : Act} {w : World} {o : Oper} (ho : ops.toList[i]? = some o)
    (hr : (Region.ready md ops listed == [i] && (listed.setIfInBounds i true).getD z false) = true)
    (h : ∀ K' : Act → World → Prop, Shut (∀ a w, AnyE P md ops Q S z fuel (listed.setIfInBounds i true) a w → K' a w) → if Region.wanted o (yielded ops a.tmps) = true then Oper.wp P o a w K' Q else K' (a.put o.dst undef) w) :
    AnyE P md ops Q S z (fuel + 1) listed a w := by
  simp only [Bool.and_eq_true, beq_iff_eq] at hr
  refine ⟨fun h0 => (by rw [h0] at hr; cases hr.1), fun j hj => ?_⟩
  rw [hr.1] at hj
  obtain rfl : j = i := by simpa using hj
  exact wpOp_step (at_list ho) (fun K' hK => h K' (fun a w hQ => hK a w ⟨fun h0 => (by rw [hr.2] at h0; cases h0), hQ⟩))
/-- All have come up. -/
theorem AnyE.done {fuel : Nat} {listed : Array Bool} {a : Act} {w : World} (hr : Region.ready md ops listed = []) (h : Q .normal a w) : AnyE P md ops Q S z fuel listed a w := by
  cases fuel with
  | zero => exact ⟨hr, h⟩
  | succ f => exact ⟨fun _ => h, by rw [hr]; simp⟩
/-- The beginning. -/
theorem region_e {id : Nat} (z : Nat) (S : World → Prop) {a : Act} {w : World} (hm : P.follows .mixedOrders = true) (hS : S w.drew)
    (h : S w.drew → AnyE P .any ops Q S z ops.size (Array.replicate ops.size false) a w.drew) : (Code.region id ops true).wp P Q a w :=
  wp_region_any hm (AnyE.any _ _ _ _ (h hS))
end
end Go.Proofs.Ytnabckcdffpimaa
