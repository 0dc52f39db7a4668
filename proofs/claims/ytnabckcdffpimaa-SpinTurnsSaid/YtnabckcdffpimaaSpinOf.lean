/-
  New, by its answer; a cluster's spin. Conditions: the slices can be read.
-/
import Derived.Test.YtnabckcdffpimaaFairMath
import Derived.Test.YtnabckcdffpimaaRefNext
namespace Go.Proofs.Ytnabckcdffpimaa
open Go.RowKit Ieee

/-- What New answers of weights: the list, the error. -/
def NewR (n : Nat) (ws : List Int) (l : List PN) (err : Int) : Prop :=
  (8 < n ∧ l = [] ∧ err = 6) ∨ (n ≤ 8 ∧ (∃ k, k < n ∧ ¬ okW (ws.getD k 0)) ∧ l = [] ∧ err = 7) ∨ (n ≤ 8 ∧ (∀ k, k < n → okW (ws.getD k 0)) ∧ l = fresh ws ∧ err = 0)
theorem newR_ex (n : Nat) (ws : List Int) : ∃ l err, NewR n ws l err := by
  by_cases hn : 8 < n
  · exact ⟨_, _, .inl ⟨hn, rfl, rfl⟩⟩
  by_cases hg : ∀ k, k < n → okW (ws.getD k 0)
  · exact ⟨_, _, .inr (.inr ⟨by omega, hg, rfl, rfl⟩)⟩
  · exact ⟨_, _, .inr (.inl ⟨by omega, Classical.byContradiction fun h => hg fun k hk => Classical.byContradiction fun h2 => h ⟨k, hk, h2⟩, rfl, rfl⟩)⟩
theorem NewR.SP {n : Nat} {ws : List Int} {l : List PN} {err : Int} (h : NewR n ws l err) (hl : ws.length = n) : SP l 0 := by
  rcases h with ⟨_, rfl, _⟩ | ⟨_, _, rfl, _⟩ | ⟨hn, hg, rfl, _⟩
  · exact SP.nil 0
  · exact SP.nil 0
  · subst hl
    exact fresh_SP ws hn hg

theorem newS {n : Nat} {ws : List Int} {l : List PN} {err : Int} (h : NewR n ws l err) (A : Option Addr) (c : Nat) (w : World) (hr : Rd w 1 A n c (i64s ws)) :
    Calls Try.prog 18 #[.slice A n c] w fun e w' => ∃ A' c', e = .returned (.tuple #[sv A' l.length c', .int .i64 err]) ∧ Rd w' 1 A' l.length c' (pvs l) ∧ (∀ ad, A' = some ad → w.heap.size ≤ ad.block) ∧ Below w.heap.size w w' := by
  have hl := hr.intLen
  rcases h with ⟨hn, rfl, rfl⟩ | ⟨hn, hg, rfl, rfl⟩ | ⟨hn, hg, rfl, rfl⟩
  · refine (new_many A n c w hn).mono ?_
    rintro e w' ⟨rfl, hb⟩
    exact ⟨none, 0, rfl, Rd.nil_ _ _, (fun _ h => by cases h), hb⟩
  · refine (new_bad A n c ws w hr hn hg).mono ?_
    rintro e w' ⟨rfl, hb⟩
    exact ⟨none, 0, rfl, Rd.nil_ _ _, (fun _ h => by cases h), hb⟩
  · rw [show (fresh ws).length = n by simp [hl]]
    exact new_good A n c ws w hr hn hg

theorem newD {n : Nat} {ws : List Int} {l : List PN} {err : Int} (h : NewR n ws l err) (A : Option Addr) (c : Nat) (w : World) (hr : Rd w 1 A n c (i64s ws)) :
    Calls Try.prog 25 #[.slice A n c] w fun e w' => ∃ H hc W wc, e = .returned (.tuple #[rv H l.length hc W l.length wc, .int .i64 err]) ∧ Rd w' 1 H l.length hc (i64s (l.map Prod.fst)) ∧ Rd w' 1 W l.length wc (i64s (l.map Prod.snd)) ∧
      (∀ ad, H = some ad → w.heap.size ≤ ad.block) ∧ (∀ ad, W = some ad → w.heap.size ≤ ad.block) ∧ Below w.heap.size w w' := by
  have hl := hr.intLen
  rcases h with ⟨hn, rfl, rfl⟩ | ⟨hn, ⟨k, hk, hbad⟩, rfl, rfl⟩ | ⟨hn, hg, rfl, rfl⟩
  · refine (refNew_many A n c w hn).mono ?_
    rintro e w' ⟨rfl, hb⟩
    exact ⟨none, 0, none, 0, rfl, Rd.nil_ _ _, Rd.nil_ _ _, (fun _ h => by cases h), (fun _ h => by cases h), hb⟩
  · refine (refNew_few A n c ws w hr hn).mono ?_
    rintro e w' ⟨hb, ⟨_, rfl⟩ | ⟨h, _⟩⟩
    · exact ⟨none, 0, none, 0, rfl, Rd.nil_ _ _, Rd.nil_ _ _, (fun _ h => by cases h), (fun _ h => by cases h), hb⟩
    · exact absurd (h k hk) hbad
  · rw [show (fresh ws).length = n by simp [hl]]
    refine (refNew_few A n c ws w hr hn).mono ?_
    rintro e w' ⟨hb, ⟨h, _⟩ | ⟨_, v, rfl, H, hc, W, wc, rfl, h1, h2, h3, h4⟩⟩
    · exact absurd hg h
    · exact ⟨H, hc, W, wc, rfl, h1, h2, h3, h4, hb⟩

/-- The endpoints of weights. -/
def epCells (ws : List Int) : List Value := ws.flatMap fun x => [.int .u8 0, .int .u8 0, .int .u8 0, .int .u8 0, .int .u16 0, .int .i64 x]
theorem ep_len (ws : List Int) : (epCells ws).length = ws.length * 6 := by
  induction ws with
  | nil => rfl
  | cons x r ih => simp [epCells] at ih ⊢; omega
theorem ep_at : ∀ (ws : List Int) (k : Nat), k < ws.length → (epCells ws)[k * 6]? = some (.int .u8 0) ∧ (epCells ws)[k * 6 + 1]? = some (.int .u8 0) ∧ (epCells ws)[k * 6 + 2]? = some (.int .u8 0) ∧
    (epCells ws)[k * 6 + 3]? = some (.int .u8 0) ∧ (epCells ws)[k * 6 + 4]? = some (.int .u16 0) ∧ (epCells ws)[k * 6 + 5]? = some (.int .i64 (ws.getD k 0))
  | [], k, h => by simp at h
  | x :: r, 0, _ => by simp [epCells]
  | x :: r, k + 1, h => by
    have ih := ep_at r k (by simpa using h)
    have e : epCells (x :: r) = [.int .u8 0, .int .u8 0, .int .u8 0, .int .u8 0, .int .u16 0, .int .i64 x] ++ epCells r := by simp [epCells]
    have key : ∀ j, (epCells (x :: r))[(k + 1) * 6 + j]? = (epCells r)[k * 6 + j]? := fun j => by
      rw [e, List.getElem?_append_right (by simp; omega)]
      congr 1
      simp
      omega
    refine ⟨?_, ?_, ?_, ?_, ?_, ?_⟩
    · rw [show (k + 1) * 6 = (k + 1) * 6 + 0 by omega, key]; exact ih.1
    · rw [key]; exact ih.2.1
    · rw [key]; exact ih.2.2.1
    · rw [key]; exact ih.2.2.2.1
    · rw [key]; exact ih.2.2.2.2.1
    · rw [key]; simpa using ih.2.2.2.2.2
theorem ep_append (a b : List Int) : epCells (a ++ b) = epCells a ++ epCells b := by simp [epCells]

theorem take_snoc (ws : List Int) (k : Nat) (hk : k < ws.length) : ws.take (k + 1) = ws.take k ++ [ws.getD k 0] := by
  rw [List.take_succ_eq_append_getElem hk]
  simp [List.getD, hk]

set_option maxRecDepth 100000 in
set_option maxHeartbeats 4000000 in
theorem ofC {n : Nat} {ws : List Int} {l : List PN} {err : Int} (h : NewR n ws l err) (A : Option Addr) (c : Nat) (s : ByteArray) (w : World) (hr : Rd w 6 A n c (epCells ws)) (hl : ws.length = n) (hn : n ≤ 20) :
    Calls Try.prog 26 #[.agg #[.string s, .slice A n c]] w fun e w' => ∃ A' c', e = .returned (.tuple #[sv A' l.length c', .int .i64 err]) ∧ Rd w' 1 A' l.length c' (pvs l) ∧ Below w.heap.size w w' := by
  obtain ⟨i0, hi0, hz0, hz1, hz2⟩ := info_parts Try.info3
  have Hr := hide hr
  have Hl := hide hl
  have H := hide h
  have HB := hide (((Below.refl w.heap.size w).alloc (Nat.le_refl _) (.cells #[.string s, .slice A n c] 60)).alloc (by simp) (.cells #[.slice none 0 0] 41))
  clear hr hl h
  go_enter Try.func26, Try.ntmps26
  go_wp2_with fail
  have r0 : ((w.alloc (.cells #[.string s, .slice A n c] 60)).alloc (.cells #[.slice none 0 0] 41)).cell? ⟨w.heap.size + 1, 0, none⟩ = some (.slice none 0 0) := by go_simp
  have rf0 : ((w.alloc (.cells #[.string s, .slice A n c] 60)).alloc (.cells #[.slice none 0 0] 41)).frozen? ⟨w.heap.size + 1, 0, none⟩ = false := by go_simp
  have hsz : w.heap.size + 1 + 1 ≤ ((w.alloc (.cells #[.string s, .slice A n c] 60)).alloc (.cells #[.slice none 0 0] 41)).heap.size := by simp
  have H0 := hide (And.intro r0 (And.intro rf0 hsz))
  clear r0 rf0 hsz
  generalize hW : (w.alloc (.cells #[.string s, .slice A n c] 60)).alloc (.cells #[.slice none 0 0] 41) = W at *
  clear hW
  go_loopw [4, 10] (fun v i wr => ∃ (k : Nat) (V : Option Addr) (vc : Nat), k ≤ n ∧ i = .int .i64 k ∧ v = .slice V k vc ∧ wr.ownsRow (w.heap.size + 1 + 1) 3 1 (.slice V k vc) k (i64s (ws.take k)) ∧
    wr.cell? ⟨w.heap.size + 1, 0, none⟩ = some (.slice none 0 0) ∧ wr.frozen? ⟨w.heap.size + 1, 0, none⟩ = false ∧ w.heap.size + 1 + 1 ≤ wr.heap.size ∧ Below w.heap.size w wr) (fun _ i _ => n - (intOf i).toNat)
  case atStart => exact ⟨0, none, 0, Nat.zero_le _, rfl, rfl, World.ownsRow_nil _ _ _ _, H0.out.1, H0.out.2.1, H0.out.2.2, HB.out⟩
  case round =>
    clear H0 HB
    obtain ⟨k, V, vc, hk, rfl, rfl, ho, r0, rf0, hsz, hb⟩ := hrel
    have Ho := hide ho
    have HB := hide hb
    clear ho hb
    by_cases hlt : k < n
    · obtain ⟨⟨eb, eo, esp⟩, rfl⟩ := Hr.out.isSome (by omega)
      obtain rfl : esp = none := Hr.out.spot (by intro e; have := congrArg List.length e; rw [ep_len, Hl.out] at this; simp at this; omega)
      have hr := Hr.out.below HB.out
      obtain ⟨g0, g1, g2, g3, g4, g5⟩ := ep_at ws k (by rw [Hl.out]; exact hlt)
      obtain ⟨x, hx⟩ : ∃ x, ws.getD k 0 = x := ⟨_, rfl⟩
      rw [hx] at g5
      have e0 := hr.cell _ rfl (k * 6) _ g0
      have e1 := hr.cell _ rfl (k * 6 + 1) _ g1
      have e2 := hr.cell _ rfl (k * 6 + 2) _ g2
      have e3 := hr.cell _ rfl (k * 6 + 3) _ g3
      have e4 := hr.cell _ rfl (k * 6 + 4) _ g4
      have e5 := hr.cell _ rfl (k * 6 + 5) _ g5
      simp only [Addr.add_lit, ← Nat.add_assoc] at e0 e1 e2 e3 e4 e5
      have Hx := hide hx
      clear hr g0 g1 g2 g3 g4 g5 hx
      have Hrow := hide (fun q e => (Ho.out.lt q e).1)
      have hal : Below wr.heap.size wr ((wr.alloc (.cells #[.int .u8 0, .int .u8 0, .int .u8 0, .int .u8 0, .int .u16 0, .int .i64 x] 66)).alloc (.cells #[.int .i64 x] 3)) := ((Below.refl _ _).alloc (Nat.le_refl _) _).alloc (by simp) _
      have Hal := hide hal
      have HB3 := hide (HB.out.trans (hal.mono HB.out.size))
      have r1 := cell_later hal r0
      have rf1 : ((wr.alloc (.cells #[.int .u8 0, .int .u8 0, .int .u8 0, .int .u8 0, .int .u16 0, .int .i64 x] 66)).alloc (.cells #[.int .i64 x] 3)).frozen? ⟨w.heap.size + 1, 0, none⟩ = false := by rw [hal.frozen (p := ⟨w.heap.size + 1, 0, none⟩) (by simp only; omega)]; exact rf0
      have R1 := hide (And.intro r1 rf1)
      have hw2 : k < ws.length := by rw [Hl.out]; exact hlt
      have Hw2 := hide hw2
      clear hal r0 rf0 r1 rf1 hw2
      go_wp2_with ((at_builtin
                    refine wpList_append_rd _ rfl (.tmp 14) (.tmp 17) 39 rfl (w.heap.size + 1 + 1) 3 i0 _ 1 8 Try.underlying39 hi0 hz0 hz1 hz2 rfl (by omega) (.slice V k vc) k (i64s (ws.take k)) rfl ((Ho.out.alloc _).alloc _) _ 1 1 [.int .i64 x] rfl (rd_new' _ _ _ _ (by simp)) (i64s_one [x]) (by simp only [maxLen]; omega) (by omega) (by simp; omega) ?_
                    intro v2 w2 hown2 hg2 hat2
                    have hne : ∀ q : Nat, q < w.heap.size + 1 + 1 → some q ≠ (Value.slice V k vc).ownBlock := fun q hq e => by have := Hrow.out q e.symm; omega
                    have r0 := hg2.cell R1.out.1 (hne _ (by simp only; omega))
                    have rf0 : w2.frozen? ⟨w.heap.size + 1, 0, none⟩ = false := by
                      rw [World.frozen?_of_block (hg2.block (w.heap.size + 1) (by simp; omega) (hne _ (by omega)))]
                      exact R1.out.2
                    have HB4 := hide (HB3.out.grown hg2 (by have := HB3.out.size; simpa using this) (fun q e => by have := Hrow.out q e; omega))
                    have hsz2 : w.heap.size + 1 + 1 ≤ w2.heap.size := by have := hg2.size; simp at this; omega
                    obtain ⟨V2, c2, rfl, hv2⟩ := own_slice hown2
                    rw [show i64s (ws.take k) ++ [.int .i64 x] = i64s (ws.take (k + 1)) by rw [take_snoc ws k Hw2.out, Hx.out]; simp [i64s]] at hown2
                    have Ho2 := hide hown2
                    clear hown2 hg2 hat2 hne hv2))
      go_roundw
      case rel => exact ⟨k + 1, V2, c2, by omega, by go_num, rfl, Ho2.out, r0, rf0, hsz2, HB4.out⟩
      case measure => simp [intOf]; omega
    · obtain rfl : k = n := by omega
      clear hlt hk
      obtain ⟨V', c', hv, hrd⟩ := own_slice Ho.out
      injection hv with hv1 hv2 hv3
      subst hv1 hv3
      rw [← Hl.out, List.take_length, Hl.out] at hrd
      have Hrd := hide hrd
      clear hrd hv2
      go_wp2_with fail
      refine (newS H.out V vc _ Hrd.out).mono ?_
      rintro e w2 ⟨A', c', rfl, hr2, hf2, hb2⟩
      have r0 := cell_later hb2 r0
      have rf0 : w2.frozen? ⟨w.heap.size + 1, 0, none⟩ = false := by rw [hb2.frozen (p := ⟨w.heap.size + 1, 0, none⟩) (by simp only; omega)]; exact rf0
      have HB2 := hide (HB.out.trans (hb2.mono HB.out.size))
      have Hr2 := hide hr2
      have Hf2 := hide hf2
      clear hr2 hb2 hf2 HB
      go_wp2_with fail
      refine bodyPost_ret (v := .tuple #[sv A' l.length c', .int .i64 err]) (by simp [results, Try.results26, go_sem, r0]) rfl ⟨A', c', rfl, ?_, ?_⟩
      · exact Hr2.out.setCell (p := ⟨w.heap.size + 1, 0, none⟩) _ (fun _ ad e => by have := Hf2.out ad e; simp only; omega)
      · exact HB2.out.setCell (p := ⟨w.heap.size + 1, 0, none⟩) (by simp) _
end Go.Proofs.Ytnabckcdffpimaa
