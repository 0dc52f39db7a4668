/-
  What the statements on labels say, over lists of bytes. Conditions: none; no program.
-/
import Derived.Test.YtdjpcdimcjjemaaDoorPath
namespace Go.Proofs.YtdjpcdimcjjemaaDoor

theorem cov_self (h : Bs) : cov h h = true := by unfold cov; simp
theorem low_star : low 42 = 42 ∧ low 46 = 46 ∧ low 120 = 120 := by decide
theorem cov_star (h : Bs) (h0 : 0 < h.length) : cov (lower (42 :: 46 :: h)) (lower (120 :: 46 :: h)) = true := by
  rw [cov_spec]
  refine .inr ⟨lower h, by simp [lower, low_star], by intro e; have := congrArg List.length e; rw [lower_len] at this; simp at this; rw [this] at h0; simp at h0, by simp [lower_len], ⟨[120], by simp [lower, low_star]⟩⟩
theorem cov_not (h : Bs) : cov (lower (42 :: 46 :: h)) (lower h) = false := by
  cases hc : cov (lower (42 :: 46 :: h)) (lower h) with
  | false => rfl
  | true =>
    rcases (cov_spec _ _).1 hc with e | ⟨r, e, _, hl, _⟩
    · have := congrArg List.length e
      simp [lower_len] at this
      omega
    · have := congrArg List.length e
      simp [lower_len] at this hl
      omega

theorem und_self (a : Bs) : und a a = true := by unfold und; rw [decide_eq_true_iff]; exact List.prefix_refl _
theorem und_trans {a b c : Bs} (h1 : und a b = true) (h2 : und b c = true) : und a c = true := by
  unfold und at *
  rw [decide_eq_true_iff] at *
  exact h1.trans h2
theorem parts_append (x y : Bs) : parts (x ++ 47 :: y) = parts x ++ parts y := by unfold parts; rw [cut_append, List.filter_append]
theorem und_slash (a : Bs) : und [47] a = true := by
  unfold und
  rw [decide_eq_true_iff, show parts [47] = [] by decide]
  exact List.nil_prefix
theorem und_more (a : Bs) : und a (a ++ [47, 120]) = true := by
  unfold und
  rw [decide_eq_true_iff, show a ++ [47, 120] = a ++ 47 :: [120] from rfl, parts_append]
  exact List.prefix_append _ _

/-- A path's parts, put together. -/
def allP (ps : List Bs) : Bs := ps.flatMap fun p => 47 :: p
theorem cut_all : ∀ ps : List Bs, (∀ p ∈ ps, (47 : UInt8) ∉ p) → cut 47 (allP ps) = [] :: ps
  | [], _ => rfl
  | p :: r, h => by
    have hp := h p (by simp)
    have ih := cut_all r (fun q hq => h q (by simp [hq]))
    have e : allP (p :: r) = 47 :: (p ++ allP r) := by simp [allP]
    rw [e, cut_cons]
    congr 1
    cases r with
    | nil => simpa [allP] using cut_none hp
    | cons q t =>
      have e2 : allP (q :: t) = 47 :: (q ++ allP t) := by simp [allP]
      rw [e2, cut_cons] at ih
      injection ih with _ ih
      rw [e2, cut_append, cut_none hp, ih]
      rfl
theorem parts_mem {s p : Bs} (h : p ∈ parts s) : p ≠ [] ∧ (47 : UInt8) ∉ p := by
  unfold parts at h
  rw [List.mem_filter] at h
  refine ⟨fun e => ?_, cut_mem 47 s p h.1⟩
  rw [e] at h
  simp at h
theorem parts_all (s : Bs) : parts (allP (parts s)) = parts s := by
  have h1 := cut_all (parts s) (fun p hp => (parts_mem hp).2)
  unfold parts at h1 ⊢
  rw [h1]
  simp
theorem parts_one {s p : Bs} (h : p ∈ parts s) : parts p = [p] := by
  obtain ⟨h1, h2⟩ := parts_mem h
  unfold parts
  rw [cut_none h2]
  cases p with
  | nil => exact absurd rfl h1
  | cons => rfl
theorem und_all (s : Bs) : und (allP (parts s)) s = true ∧ und s (allP (parts s)) = true := by
  unfold und
  rw [parts_all]
  simp
theorem allP_filter (f : Bs → Bool) : ∀ ps : List Bs, (allP (ps.filter f)).length ≤ (allP ps).length
  | [] => Nat.le_refl _
  | p :: r => by
    have ih := allP_filter f r
    cases h : f p with
    | true => simp [List.filter, h, allP] at ih ⊢; omega
    | false => simp [List.filter, h, allP] at ih ⊢; omega
theorem allP_join (b : UInt8) : ∀ {ps : List Bs}, ps ≠ [] → (allP ps).length = (joinB b ps).length + 1
  | [], h => absurd rfl h
  | [p], _ => by simp [allP, joinB]
  | p :: q :: r, _ => by
    have ih := allP_join b (ps := q :: r) (by simp)
    rw [joinB_cons b p (by simp)]
    have e : allP (p :: q :: r) = 47 :: p ++ allP (q :: r) := by simp [allP]
    rw [e]
    simp only [List.length_append, List.length_cons]
    omega
theorem allP_len (s : Bs) : (allP (parts s)).length ≤ s.length + 1 := by
  have h1 := allP_filter (fun p => !p.isEmpty) (cut 47 s)
  rw [allP_join 47 (cut_ne 47 s), join_cut] at h1
  exact h1
theorem allP_take (ps : List Bs) (k : Nat) : (allP (ps.take k)).length ≤ (allP ps).length := by
  have : allP ps = allP (ps.take k) ++ allP (ps.drop k) := by
    unfold allP
    rw [← List.flatMap_append, List.take_append_drop]
  rw [this]
  simp
theorem allP_succ (ps : List Bs) (k : Nat) (hk : k < ps.length) : allP (ps.take (k + 1)) = allP (ps.take k) ++ 47 :: ps.getD k [] := by
  rw [List.take_succ_eq_append_getElem hk]
  unfold allP
  rw [List.flatMap_append]
  simp [List.getD, hk]

theorem low_eq {s : Bs} (h : ∀ i, i < s.length → low (s.getD i 0) = s.getD i 0) : lower s = s := by
  unfold lower
  refine List.ext_getElem (by simp) fun i h1 h2 => ?_
  have := h i h2
  simp [List.getD, h2] at this
  simpa using this
theorem name_lower {s : Bs} (h : NameP s) : lower s = s := low_eq fun i hi => low_other (by
  have := h.2.2.2 i hi
  simp only [plaC, letC] at this
  omega)

/-- All pieces of such a host are parts. -/
theorem all_parts {s : Bs} (h : hostN s = 0) (h42 : bt s 0 ≠ 42) : ∀ p ∈ cut 46 s, PartP p := by
  obtain ⟨h1, h2, h3⟩ := hostN_ok.1 h
  intro p hp
  obtain ⟨i, hi, rfl⟩ := List.mem_iff_getElem.1 hp
  rcases h3 i hi with h4 | ⟨h4, rfl, h5⟩
  · simpa [List.getD, hi] using h4
  · exfalso
    apply h42
    have hj := join_cut 46 s
    cases hc : cut 46 s with
    | nil => exact absurd hc (cut_ne _ _)
    | cons q r =>
      rw [hc] at h4 h5 hj
      simp at h4 h5
      rw [h4, joinB_cons 46 [42] (by intro e; rw [e] at h5; simp at h5)] at hj
      rw [← hj]
      rfl
theorem form_of {ps : List Bs} (h : ∀ p ∈ ps, PartP p) : FormP ps := fun i hi => .inl (by
  have : ps.getD i [] = ps[i] := by simp [List.getD, hi]
  rw [this]
  exact h _ (List.getElem_mem hi))
theorem host_star {s : Bs} (h : hostN s = 0) (h42 : bt s 0 ≠ 42) (hl : s.length ≤ 60) : hostN (42 :: 46 :: s) = 0 := by
  rw [hostN_ok]
  refine ⟨by simp, by simp; omega, ?_⟩
  have hc : cut 46 (42 :: 46 :: s) = [42] :: cut 46 s := by simp [cut, cutA]
  have hp := all_parts h h42
  have hpos := cut_pos 46 s
  rw [hc]
  intro i hi
  cases i with
  | zero => exact .inr ⟨rfl, rfl, by simp; omega⟩
  | succ i =>
    left
    have : i < (cut 46 s).length := by simpa using hi
    rw [show ([42] :: cut 46 s).getD (i + 1) [] = (cut 46 s)[i] by simp [List.getD, this]]
    exact hp _ (List.getElem_mem this)
theorem host_both {s t : Bs} (hs : hostN s = 0) (s42 : bt s 0 ≠ 42) (ht : hostN t = 0) (t42 : bt t 0 ≠ 42) (hl : s.length + t.length ≤ 63) : hostN (t ++ [46] ++ s) = 0 := by
  rw [show t ++ [46] ++ s = t ++ 46 :: s by simp, hostN_ok]
  refine ⟨by simp <;> omega, by simp; omega, ?_⟩
  rw [cut_append]
  refine form_of fun p hp => ?_
  rcases List.mem_append.1 hp with h | h
  · exact all_parts ht t42 p h
  · exact all_parts hs s42 p h
theorem lower_three {s t : Bs} : lower (t ++ [46] ++ s) = lower t ++ 46 :: lower s := by simp [lower, low_star]
theorem cov_both {s t : Bs} (h0 : 0 < s.length) (t0 : 0 < t.length) : cov (lower (42 :: 46 :: s)) (lower (t ++ [46] ++ s)) = true := by
  rw [cov_spec]
  refine .inr ⟨lower s, by simp [lower, low_star], ?_, ?_, ?_⟩
  · intro e
    have := congrArg List.length e
    rw [lower_len] at this
    simp at this
    rw [this] at h0
    simp at h0
  · rw [lower_three]
    simp [lower_len]
    omega
  · rw [lower_three]
    exact ⟨lower t, rfl⟩
theorem cov_none {s t : Bs} (h0 : 0 < s.length) (h42 : bt s 0 ≠ 42) : cov (lower s) (lower (t ++ [46] ++ s)) = false := by
  cases hc : cov (lower s) (lower (t ++ [46] ++ s)) with
  | false => rfl
  | true =>
    exfalso
    rcases (cov_spec _ _).1 hc with e | ⟨r, e, _⟩
    · have := congrArg List.length e
      simp [lower_len] at this
      omega
    · apply h42
      cases s with
      | nil => simp at h0
      | cons c r2 =>
        have e2 : low c = 42 := by
          have := congrArg (fun l : Bs => l.getD 0 0) e
          simpa [lower] using this
        exact (low_small (by decide)).1 e2
end Go.Proofs.YtdjpcdimcjjemaaDoor
