/- A function out of the program, compiled in one step. -/
import Derived.Test.YtpiicncihccheaaGreatDoorXF
namespace Go.XW
open Go.RowKit

/-- Function f, compiled: its small text, its results, how many slots its frame has. -/
def compF (P : Program) (f : FuncId) : Option (S × List RV × Nat) :=
  match P.funcs[f]? with
  | some fn => if fn.name == "runtime.NumGoroutine" then none else match fn.body with
    | some c => match comp P fn.ntmps true c .done, resC P fn.results.toList with
      | some s, some rs => some (s, rs, fn.ntmps)
      | _, _ => none
    | none => none
  | none => none

theorem xc {P : Program} {f : FuncId} {s : S} {rs : List RV} {N : Nat} {args : List V} {h : Hp} {R : V → Hp → Prop} {RP : List PanicEntry → Hp → Prop} (hc : compF P f = some (s, rs, N)) (hl : Nat.ble args.length N = true) (hw : wp P RP s (bodyQ rs R) (argFr 0 args) h) : VCalls P f args h R RP := by
  unfold compF at hc
  split at hc
  · rename_i fn hf
    split at hc
    · cases hc
    · rename_i hname
      split at hc
      · rename_i c hb
        split at hc
        · rename_i s' rs' hs hr
          cases hc
          refine xcalls ?_ hf hb rfl hs hr hl hw
          unfold okFn
          rw [hf]
          simp [hb]
          simpa using hname
        · cases hc
      · cases hc
  · cases hc

end Go.XW
