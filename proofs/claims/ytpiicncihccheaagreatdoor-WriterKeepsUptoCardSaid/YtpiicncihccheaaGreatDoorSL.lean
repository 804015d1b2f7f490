/- Contracts of the library, taken over into views: the general part. -/
import Derived.Test.YtpiicncihccheaaGreatDoorXH
import Derived.Test.YtpiicncihccheaaGreatDoorXI
import Derived.Test.YtpiicncihccheaaGreatDoorProg
namespace Go.Proofs.YtpiicncihccheaaGreatDoor
open Go.XW Go.RowKit
theorem RepL.lit {F : Fro} : ∀ {us vs : List Value}, RepL F (us.map .v) vs → vs = us
  | [], _, h => by cases h; rfl
  | u :: us, _, h => by
    cases h with
    | cons _ v _ vs h1 h2 => rw [h1.lit, RepL.lit h2]
/-- A library's contract as one over views. -/
theorem VCalls.shelf {P : Program} {f : FuncId} {us : List Value} {h : Hp} {r : Value} {RP : List PanicEntry → Hp → Prop} (hok : okFn P f = true)
    (hc : ∀ base F w, Sim base F h w → Calls P f us.toArray w fun e w' => e = .returned r ∧ Below w.heap.size w w') : VCalls P f (us.map .v) h (fun v h' => v = .v r ∧ h' = h) RP := by
  refine ⟨hok, fun base F args' w hs ha => ?_⟩
  have he : args' = us.toArray := by
    have := RepL.lit ha
    cases args'; simp_all
  subst he
  refine (hc base F w hs).mono ?_
  rintro e w' ⟨rfl, hb⟩
  exact ⟨F, h, FLe.refl F, simBeneath hs hb, .v r, .v r, rfl, rfl⟩
end Go.Proofs.YtpiicncihccheaaGreatDoor
