/-
  Fairness: behind as many turns as the sum of the weights, with all up, each was chosen as often as its weight says, and nothing is in hand again; what is in hand sums to 0 ever. Conditions: none; nothing here speaks of the program.
-/
import Derived.Test.YtnabckcdffpimaaUpMath
namespace Go.Proofs.Ytnabckcdffpimaa
open Go.RowKit

/-- The sum of the first n. -/
def sm (f : Nat → Int) : Nat → Int
  | 0 => 0
  | n + 1 => sm f n + f n
theorem sm_congr {f g : Nat → Int} : ∀ n, (∀ i, i < n → f i = g i) → sm f n = sm g n
  | 0, _ => rfl
  | n + 1, h => by rw [sm, sm, sm_congr n (fun i hi => h i (by omega)), h n (by omega)]
theorem sm_lin (a b : Int) (f g : Nat → Int) : ∀ n, sm (fun i => a * f i - b * g i) n = a * sm f n - b * sm g n
  | 0 => by simp [sm]
  | n + 1 => by
    rw [sm, sm, sm, sm_lin a b f g n, Int.mul_add, Int.mul_add]
    omega
theorem sm_add (f g : Nat → Int) : ∀ n, sm (fun i => f i + g i) n = sm f n + sm g n
  | 0 => rfl
  | n + 1 => by rw [sm, sm, sm, sm_add f g n]; omega
theorem sm_at (f : Nat → Int) (b : Nat) : ∀ n, sm (fun i => if b = i then f i + 1 else f i) n = sm f n + if b < n then 1 else 0
  | 0 => by simp [sm]
  | n + 1 => by
    rw [sm, sm, sm_at f b n]
    by_cases h : b = n
    · subst h; rw [if_pos rfl, if_neg (by omega), if_pos (by omega)]; omega
    · rw [if_neg h]
      by_cases h2 : b < n
      · rw [if_pos h2, if_pos (by omega)]; omega
      · rw [if_neg h2, if_neg (by omega)]; omega
theorem sm_le {f g : Nat → Int} : ∀ n, (∀ i, i < n → f i ≤ g i) → sm f n ≤ sm g n
  | 0, _ => Int.le_refl _
  | n + 1, h => by
    have := sm_le n (fun i hi => h i (by omega))
    have := h n (by omega)
    rw [sm, sm]
    omega
theorem sm_eq {f g : Nat → Int} : ∀ n, (∀ i, i < n → f i ≤ g i) → sm f n = sm g n → ∀ i, i < n → f i = g i
  | 0, _, _, _, hi => by omega
  | n + 1, h, he, i, hi => by
    have h1 := sm_le n (fun i hi => h i (by omega))
    have h2 := h n (by omega)
    rw [sm, sm] at he
    by_cases hin : i = n
    · subst hin; omega
    · exact sm_eq n (fun i hi => h i (by omega)) (by omega) i (by omega)
theorem sm_pos {f : Nat → Int} : ∀ n, 0 < sm f n → ∃ i, i < n ∧ 0 < f i
  | 0, h => by simp [sm] at h
  | n + 1, h => by
    rw [sm] at h
    by_cases h1 : 0 < f n
    · exact ⟨n, by omega, h1⟩
    · obtain ⟨i, hi, hf⟩ := sm_pos (f := f) n (by omega)
      exact ⟨i, by omega, hf⟩
theorem sm_nonneg {f : Nat → Int} (n : Nat) (h : ∀ i, i < n → 0 ≤ f i) : 0 ≤ sm f n := by
  have := sm_le (f := fun _ => 0) (g := f) n h
  have h0 : sm (fun _ => (0 : Int)) n = 0 := by
    clear h this
    induction n with
    | zero => rfl
    | succ n ih => rw [sm, ih]; rfl
  omega

theorem sumTo_nil (l : List PN) : ∀ k, sumTo [] l k = sm (fun i => (l.getD i (0, 0)).2) k
  | 0 => rfl
  | k + 1 => by rw [sumTo_up rfl, sm, sumTo_nil l k]

/-- The sum as the program reckons it. -/
theorem sumP_sm {l : List PN} {H : Nat} (hs : SP l H) (hH : H ≤ 100000000) : ∀ k, k ≤ l.length →
    sumP (l.take k) = (sm (fun i => (l.getD i (0, 0)).1) k, sm (fun i => (l.getD i (0, 0)).2) k) ∧ (sm (fun i => (l.getD i (0, 0)).1) k).natAbs ≤ k * 100000000 ∧ (sm (fun i => (l.getD i (0, 0)).2) k).natAbs ≤ k * 100
  | 0, _ => by simp [sm]
  | k + 1, hk => by
    obtain ⟨h1, h2, h3⟩ := sumP_sm hs hH k (by omega)
    have h4 := hs.hand k (by omega)
    have h5 := hs.weight k (by omega)
    have hl := hs.len
    rw [sumP_succ l k (by omega), h1]
    rw [sm, sm]
    refine ⟨?_, by omega, by omega⟩
    simp only [addP]
    rw [hold_same (by omega), hold_same (by omega)]
theorem sumP_all {l : List PN} {H : Nat} (hs : SP l H) (hH : H ≤ 100000000) : sumP l = (sm (fun i => (l.getD i (0, 0)).1) l.length, sm (fun i => (l.getD i (0, 0)).2) l.length) := by
  have := (sumP_sm hs hH l.length (Nat.le_refl _)).1
  rwa [List.take_length] at this

/-- The sum of all weights. -/
def tot (ws : List Int) : Int := sm (fun i => ws.getD i 0) ws.length
/-- Behind t turns, each chosen so often. -/
structure Fair (ws : List Int) (t : Nat) (cs : List Int) (l : List PN) : Prop where
  ll : l.length = ws.length
  lc : cs.length = ws.length
  val : ∀ i, i < ws.length → l.getD i (0, 0) = ((t : Int) * ws.getD i 0 - tot ws * cs.getD i 0, ws.getD i 0)
  low : ∀ i, i < ws.length → -tot ws < (t : Int) * ws.getD i 0 - tot ws * cs.getD i 0
  cnt : sm (fun i => cs.getD i 0) ws.length = (t : Int)
  cb : ∀ i, i < ws.length → 0 ≤ cs.getD i 0 ∧ cs.getD i 0 ≤ (t : Int)

theorem Fair.start (ws : List Int) (hg : ∀ i, i < ws.length → okW (ws.getD i 0)) : Fair ws 0 (List.replicate ws.length 0) (fresh ws) := by
  have hz : ∀ i, i < ws.length → (List.replicate ws.length (0 : Int)).getD i 0 = 0 := fun i hi => by simp [List.getD, hi]
  refine ⟨by simp, by simp, fun i hi => ?_, fun i hi => ?_, ?_, fun i hi => by rw [hz i hi]; exact ⟨by decide, by decide⟩⟩
  · rw [hz i hi]
    simp [fresh, List.getD, hi]
  · rw [hz i hi]
    have : 0 < tot ws := by
      have h1 : sm (fun k => if k = i then (1 : Int) else 0) ws.length ≤ tot ws := sm_le _ fun k hk => by
        have := hg k hk
        split <;> omega
      have h2 : ∀ n, i < n → 0 < sm (fun k => if k = i then (1 : Int) else 0) n := by
        intro n
        induction n with
        | zero => intro h; omega
        | succ n ih =>
          intro h
          rw [sm]
          have h3 : 0 ≤ sm (fun k => if k = i then (1 : Int) else 0) n := sm_nonneg n fun k _ => by split <;> omega
          by_cases hn : n = i
          · rw [if_pos hn]; omega
          · have := ih (by omega)
            rw [if_neg hn]; omega
      have := h2 ws.length hi
      omega
    simp
    omega
  · have : sm (fun i => (List.replicate ws.length (0 : Int)).getD i 0) ws.length = sm (fun _ => 0) ws.length := sm_congr _ hz
    rw [this]
    have h0 : ∀ n, sm (fun _ => (0 : Int)) n = 0 := by
      intro n
      induction n with
      | zero => rfl
      | succ n ih => rw [sm, ih]; rfl
    rw [h0]; rfl

theorem Fair.sumW {ws cs : List Int} {t : Nat} {l : List PN} (h : Fair ws t cs l) : sumTo [] l l.length = tot ws := by
  rw [sumTo_nil, h.ll]
  exact sm_congr _ fun i hi => by rw [h.val i hi]
theorem Fair.hands {ws cs : List Int} {t : Nat} {l : List PN} (h : Fair ws t cs l) : sm (fun i => (l.getD i (0, 0)).1) l.length = 0 := by
  rw [h.ll, sm_congr (g := fun i => (t : Int) * ws.getD i 0 - tot ws * cs.getD i 0) _ (fun i hi => by rw [h.val i hi]), sm_lin, h.cnt]
  unfold tot
  rw [Int.mul_comm]
  omega

/-- One turn more. -/
theorem Fair.turn {ws cs : List Int} {t : Nat} {l : List PN} (h : Fair ws t cs l) (hT : 0 < tot ws) (hg : ∀ i, i < ws.length → okW (ws.getD i 0)) :
    ∃ b : Nat, bestTo [] l l.length = (b : Int) ∧ b < ws.length ∧ Fair ws (t + 1) (cs.set b (cs.getD b 0 + 1)) (after [] l b) := by
  have hup : ∀ i, i < ws.length → upd [] i (l.getD i (0, 0)) = ((t : Int) * ws.getD i 0 - tot ws * cs.getD i 0 + ws.getD i 0, ws.getD i 0) := fun i hi => by
    rw [upd_up _ rfl, h.val i hi]
  have hsum : sm (fun i => (t : Int) * ws.getD i 0 - tot ws * cs.getD i 0 + ws.getD i 0) ws.length = tot ws := by
    rw [sm_add, sm_lin, h.cnt]
    unfold tot
    rw [Int.mul_comm]
    omega
  obtain ⟨i, hi, hpos⟩ := sm_pos ws.length (by rw [hsum]; exact hT)
  rcases bestTo_spec [] l l.length with ⟨h1, h2⟩ | ⟨b, h1, h2, _, h4⟩
  · have := h2 i (by rw [h.ll]; exact hi)
    simp at this
  · rw [h.ll] at h2 h4
    have hb := h4 i hi rfl
    rw [hup i hi, hup b h2] at hb
    simp only at hb hpos
    have hcs : ∀ k, k < ws.length → (cs.set b (cs.getD b 0 + 1)).getD k 0 = if b = k then cs.getD k 0 + 1 else cs.getD k 0 := fun k hk => by
      by_cases hbk : b = k
      · subst hbk
        rw [if_pos rfl]
        simp [List.getD, h.lc, hk]
      · rw [if_neg hbk]
        simp only [List.getD]
        rw [List.getElem?_set_ne hbk]
    have hmul : ∀ k : Nat, ((t + 1 : Nat) : Int) * ws.getD k 0 = (t : Int) * ws.getD k 0 + ws.getD k 0 := fun k => by
      rw [show ((t + 1 : Nat) : Int) = (t : Int) + 1 by omega, Int.add_mul, Int.one_mul]
    refine ⟨b, h1, h2, ⟨by rw [after_len]; exact h.ll, by rw [List.length_set]; exact h.lc, fun k hk => ?_, fun k hk => ?_, ?_, fun k hk => ?_⟩⟩
    · rw [after_at [] l b k (by rw [h.ll]; exact hk), hup k hk, hcs k hk, h.sumW, hmul, h.val k hk]
      by_cases hbk : b = k
      · rw [if_pos hbk, if_pos hbk, Int.mul_add, Int.mul_one]
        simp only
        congr 1
        omega
      · rw [if_neg hbk, if_neg hbk]
        congr 1
        omega
    · rw [hcs k hk, hmul]
      have hlow := h.low k hk
      by_cases hbk : b = k
      · subst hbk
        rw [if_pos rfl, Int.mul_add, Int.mul_one]
        omega
      · rw [if_neg hbk]
        have := (hg k hk).1
        omega
    · rw [sm_congr _ hcs, sm_at, h.cnt, if_pos h2]
      omega
    · have := h.cb k hk
      rw [hcs k hk]
      split <;> omega

theorem Fair.stop {ws cs : List Int} {l : List PN} {T : Nat} (h : Fair ws T cs l) (hT : (T : Int) = tot ws) (hp : 0 < ws.length → 0 < tot ws) : (∀ i, i < ws.length → cs.getD i 0 = ws.getD i 0) ∧ l = fresh ws := by
  have hle : ∀ i, i < ws.length → cs.getD i 0 ≤ ws.getD i 0 := fun i hi => by
    have h1 := h.low i hi
    rw [hT, ← Int.mul_sub] at h1
    have hpos := hp (by omega)
    refine Classical.byContradiction fun hlt => ?_
    have h2 : ws.getD i 0 - cs.getD i 0 ≤ -1 := by omega
    have h3 := Int.mul_le_mul_of_nonneg_left h2 (Int.le_of_lt hpos)
    omega
  have heq : ∀ i, i < ws.length → cs.getD i 0 = ws.getD i 0 := by
    refine sm_eq ws.length hle ?_
    rw [h.cnt, hT]
    rfl
  refine ⟨heq, List.ext_getElem (by rw [h.ll]; simp) fun i h1 h2 => ?_⟩
  have hi : i < ws.length := by rw [← h.ll]; exact h1
  have h3 := h.val i hi
  rw [heq i hi, hT, Int.sub_self] at h3
  have h4 : l.getD i (0, 0) = l[i] := by simp [List.getD, h1]
  rw [← h4, h3]
  simp [fresh, List.getD, hi]
theorem SB.other2 {w : World} {g : Nat} {A : Option Addr} {n c : Nat} {l : List PN} (h : SB w g A n c l) {p : Addr} (hp : p.block ≠ g) (hpa : pvs l ≠ [] → ∀ ad, A = some ad → ad.block ≠ p.block) (v : Value) : SB (w.setCell p v) g A n c l :=
  ⟨by rw [World.cell?_setCell_other w _ _ _ (fun e => hp (by rw [e]))]; exact h.c0,
   by have h1 := h.f0; simp [go_sem, h1], h.rd.setCell v (fun hx ad e he => hpa hx ad e he.symm), h.far⟩
theorem tot_fresh (ws : List Int) : sm (fun i => ((fresh ws).getD i (0, 0)).2) (fresh ws).length = tot ws := by
  unfold tot
  rw [show (fresh ws).length = ws.length by simp]
  exact sm_congr _ fun i hi => by simp [fresh, List.getD, hi]
theorem hands_fresh (ws : List Int) : sm (fun i => ((fresh ws).getD i (0, 0)).1) (fresh ws).length = 0 := by
  rw [show (fresh ws).length = ws.length by simp]
  have : sm (fun i => ((fresh ws).getD i (0, 0)).1) ws.length = sm (fun _ => 0) ws.length := sm_congr _ fun i hi => by simp [fresh, List.getD, hi]
  rw [this]
  clear this
  induction ws.length with
  | zero => rfl
  | succ n ih => rw [sm, ih]; rfl
theorem sum_fresh {ws : List Int} (h : SP (fresh ws) 0) {T : Nat} (hT : (T : Int) = tot ws) : sumP (fresh ws) = (0, (T : Int)) := by
  rw [sumP_all h (by omega), tot_fresh, hands_fresh, hT]
theorem sum_fair {ws cs : List Int} {t H : Nat} {l : List PN} (h : Fair ws t cs l) (hs : SP l H) (hH : H ≤ 100000000) : sumP l = (0, tot ws) := by
  rw [sumP_all hs hH, h.hands]
  congr 1
  rw [← sumTo_nil, h.sumW]
theorem tot_bound {ws : List Int} (h : SP (fresh ws) 0) : 0 ≤ tot ws ∧ tot ws ≤ 800 := by
  have h1 := h.sum [] (fresh ws).length (Nat.le_refl _)
  rw [sumTo_nil, tot_fresh] at h1
  have := h.len
  omega
theorem tot_pos {ws : List Int} (hg : ∀ i, i < ws.length → okW (ws.getD i 0)) (h : 0 < ws.length) : 0 < tot ws := by
  have h1 := (Fair.start ws hg).low 0 h
  have h2 : (List.replicate ws.length (0 : Int)).getD 0 0 = 0 := by simp [List.getD, h]
  rw [h2] at h1
  simp at h1
  exact h1
end Go.Proofs.Ytnabckcdffpimaa
