/-
  PipeTurns: any script. Conditions: the turns can be read.
-/
import Derived.Test.YtoocklaoedcbjaaTurns
namespace Go.Proofs.Ytoocklaoedcbjaa
open Go.RowKit

theorem turns_any (S : Option Addr) (m sc : Nat) (acts : List ActT) (w : World) (hs : Rd w 4 S m sc (actCells acts)) (hd : ∀ (k : Nat) (a : ActT), acts[k]? = some a → 0 ≤ a.1 ∧ a.1 ≤ 255) :
    Calls Try.prog 4 #[.slice S m sc] w fun e w' => e = .returned (.bool true) ∧ Below w.heap.size w w' := by
  by_cases hm : m ≤ 120
  · exact turns_short S m sc acts w hs hm hd
  · obtain ⟨k, rfl⟩ : ∃ k, m = k + 121 := ⟨m - 121, by omega⟩
    have hlt : (120 : Int) < (k : Int) + 121 := by omega
    clear hs hd hm
    go_enter Try.func4, Try.ntmps4
    go_wp2_with fail
    refine (awake_any _).mono ?_
    rintro e w1 ⟨rfl, hb1⟩
    go_wp2_with fail
    go_ret
    exact ⟨rfl, hb1⟩

end Go.Proofs.Ytoocklaoedcbjaa
