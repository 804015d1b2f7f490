/- Walks of strings.Builder. -/
import Derived.Test.YtpiicncihccheaaGreatDoorXH
import Derived.Test.YtpiicncihccheaaGreatDoorProg
import Derived.Test.YtpiicncihccheaaGreatDoorXH
import Derived.Test.YtpiicncihccheaaGreatDoorM1
import Derived.Laws.Externs
namespace Go.Proofs.YtpiicncihccheaaGreatDoor
open Go.XW Go.XW.DU

theorem noEscape_calls (v : V) (h : Hp) : XCalls Tryz.prog 104 [v] h (fun v' h' => v' = v ∧ h' = h) := by
  refine ⟨fun base F args' w hs ha => ?_⟩
  cases hl : args'.toList with
  | nil => rw [hl] at ha; cases ha
  | cons u us =>
    rw [hl] at ha
    cases ha with
    | cons _ _ _ _ h1 h2 =>
      cases h2
      obtain rfl : args' = #[u] := by cases args'; simp_all
      have hrun : (callFunc 104 #[u]).run Tryz.prog w = .ok (.value u) w := by
        rw [run_callFunc_extern Tryz.func104 (by kernel_rfl) (by kernel_rfl) (by kernel_rfl) (e := Extern.AbiNoEscape.same) (by kernel_rfl)]
        rfl
      rw [hrun]
      exact ⟨F, h, FLe.refl F, hs, v, h1, rfl, rfl⟩

theorem XCalls.use {P : Program} {f : FuncId} {args : List V} {h : Hp} {R K : V → Hp → Prop} {KP : List PanicEntry → Hp → Prop} (hc : XCalls P f args h R) (hk : ∀ v h', R v h' → K v h') : XCalls P f args h K KP :=
  ⟨fun base F args' w hs ha => (hc.run base F args' w hs ha).mono hk fun _ _ h => h.elim⟩
/-- A builder: what it holds of itself, its bytes' block, and what lies beside it. -/
def bH (sz kp kb : Nat) (A : V) (l : List UInt8) (rest : List V) (h : Hp) : Hp := (kb, .blk 1 (rInts .u8 (nums l))) :: (kp, .blk sz [A :: .osl 1 kb 0 l.length :: rest]) :: h

end Go.Proofs.YtpiicncihccheaaGreatDoor
