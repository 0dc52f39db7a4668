/-
  QueueTurns: the walk: behind any turns, of any room, each is answered as the document says. Conditions: the turns can be read.
-/
import Derived.Test.YtghmjfinmbgjiaaOf
namespace Go.Proofs.Ytghmjfinmbgjiaa
open Go.RowKit

set_option maxHeartbeats 1000000 in
theorem turns_any (room : Int) (S : Option Addr) (m sc : Nat) (acts : List (Int × Int)) (w : World) (hs : Rd w 2 S m sc (actCells acts)) (hd : ∀ k, 0 ≤ (acts.getD k (0, 0)).1 ∧ (acts.getD k (0, 0)).1 ≤ 255) :
    Calls Try.prog 4 #[.int .i64 room, .slice S m sc] w fun e w' => e = .returned (.bool true) ∧ Below w.heap.size w w' := by
  have Hs := hide hs; clear hs
  have Hd := hide hd; clear hd
  by_cases hm : 100 < m
  · go_enter Try.func4, Try.ntmps4
    go_wp2_with fail
    refine (awake_any _).mono ?_
    rintro e w1 ⟨rfl, hb1⟩
    have Hb1 := hide hb1; clear hb1
    go_wp2_with fail
    go_ret
    exact ⟨rfl, Hb1.out⟩
  · by_cases hr : 0 ≤ room ∧ room ≤ 64
    · obtain ⟨h0, h1⟩ := hr
      go_enter Try.func4, Try.ntmps4
      go_wp2_with fail
      refine (awake_any _).mono ?_
      rintro e w1 ⟨rfl, hb1⟩
      have Hb1 := hide hb1; clear hb1
      go_wp2_with fail
      refine (of_ok room S m sc acts _ h0 h1 (Hs.out.below Hb1.out) (by omega) Hd.out).mono ?_
      rintro e w2 ⟨A, n, c, V, vc, zs, rfl, _, _, _, hb2⟩
      have Hb2 := hide (Hb1.out.trans (hb2.mono Hb1.out.size)); clear hb2
      go_wp2_with fail
      go_ret
      exact ⟨rfl, Hb2.out.alloc Hb2.out.size _⟩
    · have hbad := hide (show room < 0 ∨ 64 < room by omega)
      clear hr
      go_enter Try.func4, Try.ntmps4
      go_wp2_with fail
      refine (awake_any _).mono ?_
      rintro e w1 ⟨rfl, hb1⟩
      have Hb1 := hide hb1; clear hb1
      go_wp2_with fail
      refine (of_bad room S m sc _ hbad.out).mono ?_
      rintro e w2 ⟨rfl, hb2⟩
      have Hb2 := hide (Hb1.out.trans (hb2.mono Hb1.out.size)); clear hb2
      go_wp2_with fail
      go_ret
      exact ⟨rfl, Hb2.out.alloc Hb2.out.size _⟩
end Go.Proofs.Ytghmjfinmbgjiaa
