/- Package wire: what a writer's step and a reader's step leave alone, as one fact of the world. -/
import Derived.Test.YtajdkcpcgfipbaaWireD
import Derived.Test.YtajdkcpcgfipbaaMemE
namespace Go.Proofs.Ytajdkcpcgfipbaa
open Go.RowKit Go.Wm
theorem Wr.step {base g : Nat} {w w' : World} {r : Option Nat} {xs : List Int} (h : Wr base w g r xs) (k : Kp (fun k => k = g ∨ some k = r) w w') : Below base w w' := by
  obtain ⟨h1, h2, v, hv, hrow, rfl⟩ := h
  refine k.below (by omega) (fun b e => ?_)
  rcases e with e | e
  · omega
  · exact (hrow.lt b e.symm).1
theorem Rdr.step {B g : Nat} {w w' : World} {xs : List Int} {e : Int} (h : Rdr B w g xs e) (k : Kp (fun k => k = g) w w') (n : Nat) (hn : n ≤ g) : Below n w w' :=
  k.below (by have := h.lt; omega) (fun b e => by omega)
end Go.Proofs.Ytajdkcpcgfipbaa
