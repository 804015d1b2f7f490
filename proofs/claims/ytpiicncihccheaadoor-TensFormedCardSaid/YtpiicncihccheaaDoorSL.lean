/- Contracts of the library, taken over into views: the general part. -/
import Derived.Test.YtpiicncihccheaaDoorXH
import Derived.Test.YtpiicncihccheaaDoorProg
namespace Go.Proofs.YtpiicncihccheaaDoor
open Go.XW Go.RowKit
/-- What lies is left by a call that lays on nothing. -/
theorem simBeneath {base : World} {F : Fro} {h : Hp} {w w' : World} (hs : Sim base F h w) (hb : Below w.heap.size w w') : Sim base F h w' := by
  have hle : base.heap.size ≤ w.heap.size := hs.below.size
  refine ⟨hs.below.trans (hb.mono hle), ?_, ?_, hs.inj, hs.fresh, hs.nodup, ?_, ?_⟩
  · intro g o hf
    have hh := hs.fro g o hf
    rw [hb.block g (Array.getElem?_eq_some_iff.1 hh).1]
    exact hh
  · intro k g tot hr
    obtain ⟨h1, h2⟩ := hs.adr k g tot hr
    exact ⟨h1, Nat.lt_of_lt_of_le h2 hb.size⟩
  · intro k c hc
    have h3 := hs.own k c hc
    cases c with
    | blk sz es =>
      rcases h3 with h3 | ⟨g, tot, us, t, fr, a, b⟩
      · exact .inl h3
      · refine .inr ⟨g, tot, us, t, fr, a, b.1, ?_, b.2.2⟩
        rw [hb.block g (hs.adr _ _ _ a).2]
        exact b.2.1
    | obj o =>
      obtain ⟨g, tot, a, b, d⟩ := h3
      refine ⟨g, tot, a, b, ?_⟩
      rw [hb.block g (hs.adr _ _ _ a).2]
      exact d
    | lp N f r =>
      obtain ⟨g, tot, tmps, a, b, d⟩ := h3
      refine ⟨g, tot, tmps, a, b, ?_⟩
      rw [hb.block g (hs.adr _ _ _ a).2]
      exact d
    | tab g vs => exact h3
  · intro k g tot T hr hT
    rw [shape_of_heap (hb.block g (hs.adr _ _ _ hr).2)]
    exact hs.typ k g tot T hr hT
theorem RepL.lit {F : Fro} : ∀ {us vs : List Value}, RepL F (us.map .v) vs → vs = us
  | [], _, h => by cases h; rfl
  | u :: us, _, h => by
    cases h with
    | cons _ v _ vs h1 h2 => rw [h1.lit, RepL.lit h2]
/-- A library's contract as one over views. -/
theorem VCalls.shelf {P : Program} {f : FuncId} {us : List Value} {h : Hp} {r : Value} {RP : List PanicEntry → Hp → Prop} (hok : okFn P f = true)
    (hc : ∀ base F w, Sim base F h w → Calls P f us.toArray w fun e w' => e = .returned r ∧ Below w.heap.size w w') : VCalls P f (us.map .v) h (fun v h' => v = .v r ∧ h' = h) RP := by
  refine ⟨hok, fun base F args' w hs ha => ?_⟩
  have he : args' = us.toArray := by
    have := RepL.lit ha
    cases args'; simp_all
  subst he
  refine (hc base F w hs).mono ?_
  rintro e w' ⟨rfl, hb⟩
  exact ⟨F, h, FLe.refl F, simBeneath hs hb, .v r, .v r, rfl, rfl⟩
end Go.Proofs.YtpiicncihccheaaDoor
