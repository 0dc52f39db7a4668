/-
  Names, hosts, paths over lists of bytes: what is one, its parts, its small letters. Conditions: none; nothing here speaks of the program.
-/
import Derived.Test.YtdjpcdimcjjemaaDoorBase
namespace Go.Proofs.YtdjpcdimcjjemaaDoor

abbrev Bs := List UInt8

/-- One of the small letters; one of these or a digit. -/
abbrev letC (c : UInt8) : Prop := 97 ≤ c.toNat ∧ c.toNat ≤ 122
abbrev plaC (c : UInt8) : Prop := letC c ∨ (48 ≤ c.toNat ∧ c.toNat ≤ 57)

/-- The small letter of a byte. -/
def low (c : UInt8) : UInt8 := if 65 ≤ c.toNat ∧ c.toNat ≤ 90 then c + 32 else c
def lower (l : Bs) : Bs := l.map low

theorem low_up {c : UInt8} (h1 : 65 ≤ c.toNat) (h2 : c.toNat ≤ 90) : (low c).toNat = c.toNat + 32 := by
  unfold low
  rw [if_pos ⟨h1, h2⟩, UInt8.toNat_add]
  simp
  omega
theorem low_other {c : UInt8} (h : ¬ (65 ≤ c.toNat ∧ c.toNat ≤ 90)) : low c = c := by unfold low; rw [if_neg h]
theorem low_low (c : UInt8) : low (low c) = low c := by
  by_cases h : 65 ≤ c.toNat ∧ c.toNat ≤ 90
  · have := low_up h.1 h.2
    exact low_other (by omega)
  · rw [low_other h, low_other h]
theorem low_small {c d : UInt8} (hd : d.toNat < 65) : low c = d ↔ c = d := by
  by_cases h : 65 ≤ c.toNat ∧ c.toNat ≤ 90
  · have := low_up h.1 h.2
    constructor
    · intro e; rw [e] at this; omega
    · intro e; rw [e] at h; omega
  · rw [low_other h]
theorem lower_lower (l : Bs) : lower (lower l) = lower l := by
  unfold lower
  rw [List.map_map]
  exact List.map_congr_left fun c _ => low_low c
theorem lower_len (l : Bs) : (lower l).length = l.length := by simp [lower]
theorem lower_append (a b : Bs) : lower (a ++ b) = lower a ++ lower b := by simp [lower]
theorem lower_at (l : Bs) (i : Nat) (h : i < l.length) : (lower l).getD i 0 = low (l.getD i 0) := by simp [lower, List.getD, h]

/-- The pieces between a byte. -/
def cutA (b : UInt8) : Bs → Bs → List Bs
  | acc, [] => [acc]
  | acc, c :: r => if c = b then acc :: cutA b [] r else cutA b (acc ++ [c]) r
def cut (b : UInt8) (l : Bs) : List Bs := cutA b [] l

theorem cutA_ne (b : UInt8) : ∀ (l acc : Bs), cutA b acc l ≠ []
  | [], _ => by simp [cutA]
  | c :: r, acc => by
    unfold cutA
    split
    · simp
    · exact cutA_ne b r _
theorem cut_ne (b : UInt8) (l : Bs) : cut b l ≠ [] := cutA_ne b l []
theorem cut_pos (b : UInt8) (l : Bs) : 0 < (cut b l).length := List.length_pos_iff.2 (cut_ne b l)
theorem cutA_append (b : UInt8) (y : Bs) : ∀ (x acc : Bs), cutA b acc (x ++ b :: y) = cutA b acc x ++ cut b y
  | [], acc => by simp [cutA, cut]
  | c :: r, acc => by
    rw [List.cons_append, cutA, cutA]
    split
    · rw [cutA_append b y r [], List.cons_append]
    · exact cutA_append b y r _
theorem cut_append (b : UInt8) (x y : Bs) : cut b (x ++ b :: y) = cut b x ++ cut b y := cutA_append b y x []
theorem cut_cons (b : UInt8) (y : Bs) : cut b (b :: y) = [] :: cut b y := by simp [cut, cutA]

/-- Put together with the byte between. -/
def joinB (b : UInt8) : List Bs → Bs
  | [] => []
  | [p] => p
  | p :: q :: r => p ++ b :: joinB b (q :: r)
theorem joinB_cons (b : UInt8) (p : Bs) {r : List Bs} (hr : r ≠ []) : joinB b (p :: r) = p ++ b :: joinB b r := by
  cases r with
  | nil => exact absurd rfl hr
  | cons q r => rfl
theorem joinB_append (b : UInt8) {q : List Bs} (hq : q ≠ []) : ∀ {p : List Bs}, p ≠ [] → joinB b (p ++ q) = joinB b p ++ b :: joinB b q
  | [], h => absurd rfl h
  | [x], _ => joinB_cons b x hq
  | x :: y :: r, _ => by
    rw [List.cons_append, joinB_cons b x (by simp), joinB_append b hq (by simp), joinB_cons b x (by simp)]
    simp
theorem join_cutA (b : UInt8) : ∀ (l acc : Bs), joinB b (cutA b acc l) = acc ++ l
  | [], acc => by simp [cutA, joinB]
  | c :: r, acc => by
    unfold cutA
    split
    · rename_i h
      rw [joinB_cons b acc (cutA_ne b r []), join_cutA b r [], h]
      simp
    · rw [join_cutA b r _]
      simp
theorem join_cut (b : UInt8) (l : Bs) : joinB b (cut b l) = l := join_cutA b l []
theorem cut_inj {b : UInt8} {x y : Bs} (h : cut b x = cut b y) : x = y := by rw [← join_cut b x, h, join_cut]

theorem cutA_mem (b : UInt8) : ∀ (l acc : Bs), b ∉ acc → ∀ p ∈ cutA b acc l, b ∉ p
  | [], acc, h, p, hp => by
    simp [cutA] at hp
    rw [hp]
    exact h
  | c :: r, acc, h, p, hp => by
    unfold cutA at hp
    split at hp
    · rcases List.mem_cons.1 hp with rfl | hp
      · exact h
      · exact cutA_mem b r [] (by simp) p hp
    · rename_i hc
      exact cutA_mem b r _ (by simp [h, Ne.symm hc]) p hp
theorem cut_mem (b : UInt8) (l : Bs) : ∀ p ∈ cut b l, b ∉ p := cutA_mem b l [] (by simp)
theorem cutA_none (b : UInt8) : ∀ (l acc : Bs), b ∉ l → cutA b acc l = [acc ++ l]
  | [], acc, _ => by simp [cutA]
  | c :: r, acc, h => by
    have h1 : ¬ c = b := fun e => h (by simp [e])
    rw [cutA, if_neg h1, cutA_none b r _ (fun e => h (List.mem_cons_of_mem _ e))]
    simp
theorem cut_none {b : UInt8} {l : Bs} (h : b ∉ l) : cut b l = [l] := by simpa [cut] using cutA_none b l [] h
theorem cutA_first (b : UInt8) : ∀ (l acc : Bs), ∃ p r, cut b l = p :: r ∧ cutA b acc l = (acc ++ p) :: r
  | [], acc => ⟨[], [], rfl, by simp [cutA]⟩
  | c :: l, acc => by
    by_cases h : c = b
    · exact ⟨[], cutA b [] l, by simp [cut, cutA, h], by simp [cutA, h]⟩
    · obtain ⟨p, r, h1, h2⟩ := cutA_first b l (acc ++ [c])
      obtain ⟨p', r', h1', h2'⟩ := cutA_first b l [c]
      rw [h1] at h1'
      injection h1' with e1 e2
      subst e1 e2
      refine ⟨c :: p, r, ?_, ?_⟩
      · rw [cut, cutA, if_neg h]
        simpa using h2'
      · rw [cutA, if_neg h, h2]
        simp

/-- A host's part. -/
def okAt (l : Bs) (i : Nat) : Prop := plaC (l.getD i 0) ∨ ((l.getD i 0).toNat = 45 ∧ 0 < i ∧ i + 1 < l.length)
def PartP (l : Bs) : Prop := (∀ i, i < l.length → okAt l i) ∧ 0 < l.length ∧ l.length ≤ 32
/-- A name. -/
def NameP (l : Bs) : Prop := 0 < l.length ∧ l.length ≤ 32 ∧ letC (l.getD 0 0) ∧ ∀ i, i < l.length → plaC (l.getD i 0) ∨ (l.getD i 0).toNat = 45 ∨ (l.getD i 0).toNat = 95
/-- The pieces of a host. -/
def FormP (ps : List Bs) : Prop := ∀ i, i < ps.length → PartP (ps.getD i []) ∨ (ps.getD i [] = [42] ∧ i = 0 ∧ 1 < ps.length)
instance (l : Bs) (i : Nat) : Decidable (okAt l i) := by unfold okAt; infer_instance
instance (l : Bs) : Decidable (PartP l) := by unfold PartP; infer_instance
instance (l : Bs) : Decidable (NameP l) := by unfold NameP; infer_instance
instance (l : List Bs) : Decidable (FormP l) := by unfold FormP; infer_instance
/-- What a host's answer is. -/
def hostN (l : Bs) : Int := if l.length = 0 then 3 else if 64 < l.length then 5 else if FormP (cut 46 l) then 0 else 4

theorem hostN_ok {l : Bs} : hostN l = 0 ↔ 0 < l.length ∧ l.length ≤ 64 ∧ FormP (cut 46 l) := by
  unfold hostN
  by_cases h1 : l.length = 0
  · simp [h1]
  by_cases h2 : 64 < l.length
  · simp [h1, h2]
    omega
  by_cases h3 : FormP (cut 46 l)
  · simp [h1, h2, h3]
    omega
  · simp [h1, h2, h3]

theorem star_no : ¬ PartP [42] := by decide
theorem nil_no : ¬ PartP [] := by decide
theorem part_ne {l : Bs} (h : PartP l) : l ≠ [] := fun e => nil_no (e ▸ h)

/-- Which pattern covers which host, of small letters. -/
def covP (p h : Bs) : Prop := p = h ∨ ∃ rest, p = 42 :: 46 :: rest ∧ rest ≠ [] ∧ rest.length + 1 < h.length ∧ (46 :: rest) <:+ h
/-- The same by the pieces. -/
def covR (a b : List Bs) : Prop := a.getD 0 [] = [42] ∧ 2 ≤ a.length ∧ a.length ≤ b.length ∧ ∀ i, 1 ≤ i → i < a.length → a.getD i [] = b.getD (b.length - a.length + i) []

theorem form_mem {ps : List Bs} (h : FormP ps) {p : Bs} (hp : p ∈ ps) : PartP p ∨ p = [42] := by
  obtain ⟨i, hi, rfl⟩ := List.mem_iff_getElem.1 hp
  rcases h i hi with h1 | h1
  · exact .inl (by simpa [List.getD, hi] using h1)
  · exact .inr (by simpa [List.getD, hi] using h1.1)

theorem drop_eq {a b : List Bs} (hl : a.length ≤ b.length) (h : ∀ i, 1 ≤ i → i < a.length → a.getD i [] = b.getD (b.length - a.length + i) []) (ha : 1 ≤ a.length) : a.drop 1 = b.drop (b.length - a.length + 1) := by
  refine List.ext_getElem (by simp; omega) fun i h1 h2 => ?_
  have hi : i + 1 < a.length := by simp at h1; omega
  have := h (i + 1) (by omega) hi
  simp [List.getD, hi, show b.length - a.length + (i + 1) < b.length by omega] at this
  rw [List.getElem_drop, List.getElem_drop]
  simp only [show 1 + i = i + 1 by omega, show b.length - a.length + 1 + i = b.length - a.length + (i + 1) by omega]
  exact this

theorem cov_iff {p h : Bs} (hp : hostN p = 0) (hh : hostN h = 0) (hne : p ≠ h) : covP p h ↔ covR (cut 46 p) (cut 46 h) := by
  obtain ⟨p1, p2, p3⟩ := hostN_ok.1 hp
  obtain ⟨h1, h2, h3⟩ := hostN_ok.1 hh
  constructor
  · rintro (e | ⟨rest, rfl, hr, hl, x, hx⟩)
    · exact absurd e hne
    · have ca : cut 46 (42 :: 46 :: rest) = [42] :: cut 46 rest := by
        simp [cut, cutA]
      have cb : cut 46 h = cut 46 x ++ cut 46 rest := by rw [← hx]; exact cut_append 46 x rest
      have c1 := cut_pos 46 x
      have c2 := cut_pos 46 rest
      rw [ca, cb]
      refine ⟨rfl, by simp; omega, by simp; omega, fun i hi1 hi2 => ?_⟩
      obtain ⟨j, rfl⟩ : ∃ j, i = j + 1 := ⟨i - 1, by omega⟩
      have hj : j < (cut 46 rest).length := by simpa using hi2
      simp only [List.getD, List.length_cons, List.length_append, List.getElem?_cons_succ]
      rw [show (cut 46 x).length + (cut 46 rest).length - ((cut 46 rest).length + 1) + (j + 1) = (cut 46 x).length + j by omega, List.getElem?_append_right (Nat.le_add_right _ _), Nat.add_sub_cancel_left]
  · rintro ⟨a1, a2, a3, a4⟩
    have hd := drop_eq a3 a4 (by omega)
    obtain ⟨r, hr⟩ : ∃ r, cut 46 p = [42] :: r := by
      cases hc : cut 46 p with
      | nil => exact absurd hc (cut_ne _ _)
      | cons q r => rw [hc] at a1; simp at a1; exact ⟨r, by rw [a1]⟩
    rw [hr] at a2 a3 hd p3
    simp only [List.drop_succ_cons, List.drop_zero, List.length_cons] at hd a2 a3
    have hrne : r ≠ [] := by intro e; rw [e] at a2; simp at a2
    have hp' : p = 42 :: 46 :: joinB 46 r := by rw [← join_cut 46 p, hr, joinB_cons 46 [42] hrne]; rfl
    have hrest : joinB 46 r ≠ [] := by
      intro e
      have := p3 1 (by simp; omega)
      cases r with
      | nil => exact hrne rfl
      | cons q r =>
        simp at this
        cases r with
        | nil =>
          simp [joinB] at e
          exact nil_no (e ▸ this)
        | cons q2 r2 =>
          rw [joinB_cons 46 q (by simp)] at e
          simp at e
    have hsplit := List.take_append_drop ((cut 46 h).length - (r.length + 1) + 1) (cut 46 h)
    rw [← hd] at hsplit
    have hpre : (cut 46 h).take ((cut 46 h).length - (r.length + 1) + 1) ≠ [] := by
      intro e
      rcases List.take_eq_nil_iff.1 e with e | e
      · omega
      · exact cut_ne _ _ e
    have hj := joinB_append 46 hrne hpre
    rw [hsplit, join_cut] at hj
    refine .inr ⟨joinB 46 r, hp', hrest, ?_, ⟨_, hj.symm⟩⟩
    have hx : joinB 46 ((cut 46 h).take ((cut 46 h).length - (r.length + 1) + 1)) ≠ [] := by
      intro e
      have hmem : ∀ q ∈ (cut 46 h).take ((cut 46 h).length - (r.length + 1) + 1), q ≠ [] := fun q hq e => by
        rcases form_mem h3 (List.mem_of_mem_take hq) with h | h
        · exact part_ne h e
        · rw [e] at h; cases h
      revert e hpre hmem
      generalize (cut 46 h).take ((cut 46 h).length - (r.length + 1) + 1) = z
      intro hpre e hmem
      cases z with
      | nil => exact hpre rfl
      | cons q z =>
        cases z with
        | nil => exact hmem q (by simp) (by simpa [joinB] using e)
        | cons q2 z2 =>
          rw [joinB_cons 46 q (by simp)] at e
          simp at e
    have := congrArg List.length hj
    have hx2 := List.length_pos_iff.2 hx
    simp at this
    omega
end Go.Proofs.YtdjpcdimcjjemaaDoor
