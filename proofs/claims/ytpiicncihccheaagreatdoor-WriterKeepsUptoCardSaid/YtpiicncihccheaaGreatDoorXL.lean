/- From a contract over views to what the given statement asks of a call. -/
import Derived.Test.YtpiicncihccheaaGreatDoorXF
namespace Go.XW
open Go.RowKit

/-- The blocks that a call finds. -/
def froOf (W : World) : Fro := ⟨fun g => W.heap[g]?, fun _ => none⟩
theorem Sim.all (W : World) : Sim W (froOf W) [] W where
  below := Below.refl _ _
  fro := fun _ _ h => h
  adr := fun _ _ _ h => by cases h
  inj := fun _ _ _ _ _ h => by cases h
  fresh := ⟨0, fun _ _ => rfl⟩
  nodup := by simp
  own := fun _ _ h => by cases h
  typ := fun _ _ _ _ h => by cases h
/-- A law's contract: it answers true, and lays nothing on what it found. -/
theorem VCalls.law {P : Program} {f : FuncId} {args : List V} {args' : Array Value} {W : World} (hc : VCalls P f args [] fun v _ => v = .v (.bool true)) (hr : RepL (froOf W) args args'.toList) :
    Calls P f args' W fun e W' => e = .returned (.bool true) ∧ Below W.heap.size W W' := by
  refine (hc.run W _ args' W (Sim.all W) hr).mono fun e W' hb => ?_
  cases e with
  | returned u =>
    obtain ⟨F', h', _, hs, v, hv, rfl⟩ := hb
    refine ⟨?_, hs.below⟩
    cases hv; rfl
  | panicked c => obtain ⟨F', h', _, _, hf⟩ := hb; exact hf.elim
  | outgrown => exact hb.elim
end Go.XW
