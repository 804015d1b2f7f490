/- From readings as data to views: texts, numbers, rows. -/
import Derived.Test.YtpiicncihccheaaGreatDoorXL
import Derived.Deep.Slices
import Derived.DataReads
import Derived.ChangeArms
import Derived.ChangeSame
namespace Go.XW
open Go.RowKit Go.ChangeShapes
theorem RepP.ofTake {F : Fro} : ∀ {xs : List V} {us : List Value} {n : Nat}, RepL F xs (us.take n) → RepP F xs us
  | [], us, n, _ => .nil us
  | x :: xs, us, n, h => by
    cases n with
    | zero => simp at h; cases h
    | succ n => cases us with
      | nil => simp at h; cases h
      | cons u us =>
        simp at h
        cases h with
        | cons _ _ _ _ h1 h2 => exact .cons _ _ _ _ h1 (RepP.ofTake h2)
/-- Elements that stand one behind the other in a list of cells. -/
theorem RepR.ofEach {F : Fro} {sz : Nat} : ∀ {es : List (List V)} {us : List Value}, (∀ i (hi : i < es.length), es[i].length = sz ∧ RepL F es[i] ((us.drop (i * sz)).take sz)) → RepR F sz es us
  | [], us, _ => .nil sz us
  | e :: es, us, h => by
    have h0 := h 0 (by simp)
    simp only [Nat.zero_mul, List.drop_zero, List.getElem_cons_zero] at h0
    refine .cons sz e es us h0.1 (RepP.ofTake h0.2) (RepR.ofEach fun i hi => ?_)
    have := h (i + 1) (by simp; omega)
    simp only [List.getElem_cons_succ] at this
    rw [List.drop_drop, show sz + i * sz = (i + 1) * sz by rw [Nat.add_mul, Nat.one_mul, Nat.add_comm]]
    exact this
theorem add_block (a : Addr) (i : Nat) : (a.add i).block = a.block := by unfold Addr.add; split <;> rfl
theorem add_off (a : Addr) (i : Nat) : (a.add i).off = a.off + i := by unfold Addr.add; split <;> simp_all
/-- A slice whose elements are all read. -/
theorem rep_slice {W : World} {a : Addr} {len cap sz : Nat} {es : List (List V)} (hl : es.length = len) (hc : len ≤ cap) (hsz : 0 < sz)
    (h : ∀ i (hi : i < es.length), ∃ cs, W.cells? 0 (a.add (i * sz)) sz = some cs ∧ RepL (froOf W) es[i] cs) : Rep (froOf W) (.row sz es) (.slice (some a) len cap) := by
  cases hes : es with
  | nil => subst hl; rw [hes]; exact .row0 sz _ _
  | cons e r =>
    rw [← hes]
    have hpos : 0 < es.length := by rw [hes]; simp
    obtain ⟨cs, h1, h2⟩ := h 0 hpos
    obtain ⟨_, hcl, hcc⟩ := World.cells?_some h1
    have hc0 := hcc 0 hsz
    have hcs0 : cs[0]? = some cs[0] := List.getElem?_eq_getElem (by omega)
    rw [hcs0] at hc0
    have e0 : (a.add (0 * sz)).add 0 = a := by simp [Addr.add]
    rw [e0] at hc0
    obtain ⟨b, off, spot⟩ := a
    unfold World.cell? at hc0
    dsimp only at hc0
    split at hc0
    · rename_i us t fr hb
      split at hc0
      · cases hc0
      · rename_i hsp
        have : spot = none := by cases spot with
          | none => rfl
          | some x => simp at hsp
        subst this
        refine .row sz es b off len cap us t fr hb hl.symm hc (RepR.ofEach fun i hi => ?_)
        obtain ⟨cs2, g1, g2⟩ := h i hi
        obtain ⟨_, gl, gc⟩ := World.cells?_some g1
        have hcs2 : cs2 = ((us.toList.drop off).drop (i * sz)).take sz := by
          apply List.ext_getElem?
          intro j
          by_cases hj : j < sz
          · rw [← gc j hj]
            unfold World.cell?
            rw [add_block, add_block]
            simp only [hb]
            have : ((Addr.mk b off none).add (i * sz)).add j = ⟨b, off + i * sz + j, none⟩ := by
              unfold Addr.add
              split <;> split <;> simp_all
            rw [this]
            simp [List.getElem?_take, hj, Nat.add_assoc]
          · rw [List.getElem?_eq_none (by omega), List.getElem?_take]; simp [hj]
        exact ⟨by have := g2.length; omega, by rw [← hcs2]; exact g2⟩
    · cases hc0
theorem list_of_each {α : Type} {p : Nat → α → Prop} : ∀ (n : Nat), (∀ i, i < n → ∃ x, p i x) → ∃ l : List α, l.length = n ∧ ∀ i (hi : i < l.length), p i l[i]
  | 0, _ => ⟨[], rfl, fun i hi => by simp at hi⟩
  | n + 1, h => by
    obtain ⟨l, h1, h2⟩ := list_of_each n fun i hi => h i (by omega)
    obtain ⟨x, hx⟩ := h n (by omega)
    refine ⟨l ++ [x], by simp [h1], fun i hi => ?_⟩
    by_cases hin : i < l.length
    · rw [List.getElem_append_left hin]; exact h2 i hin
    · have : i = n := by simp at hi; omega
      subst this
      rw [List.getElem_append_right (by omega)]
      simpa [h1] using hx
section
variable {H : Type} {enc : TypeId × Value → H} {P : Program} {w : World} {base : Nat} {spare : Nat → Bool} {held : Bool}
theorem trod_struct5 {t : TypeId} {f0 f1 f2 f3 f4 : Field} {fuel : Nat} {cs : List Value} {x : DataW H × List MemPlace} (ht : P.underlying t = some (.struct #[f0, f1, f2, f3, f4])) (h : DataW.trod enc P w base spare held fuel t cs = some x) :
    ∃ y0 y1 y2 y3 y4 n, x.1 = .agg [y0.1, y1.1, y2.1, y3.1, y4.1] ∧ cs.length = P.cellsOf t ∧ DataW.trod enc P w base spare held n f0.type ((cs.drop f0.offset).take (P.cellsOf f0.type)) = some y0 ∧ DataW.trod enc P w base spare held n f1.type ((cs.drop f1.offset).take (P.cellsOf f1.type)) = some y1 ∧
      DataW.trod enc P w base spare held n f2.type ((cs.drop f2.offset).take (P.cellsOf f2.type)) = some y2 ∧ DataW.trod enc P w base spare held n f3.type ((cs.drop f3.offset).take (P.cellsOf f3.type)) = some y3 ∧ DataW.trod enc P w base spare held n f4.type ((cs.drop f4.offset).take (P.cellsOf f4.type)) = some y4 := by
  obtain ⟨xs, n, _, rfl, hl, hlen, hf⟩ := DataW.trod_struct ht h
  match xs, hlen with
  | [y0, y1, y2, y3, y4], _ => exact ⟨y0, y1, y2, y3, y4, n, by simp, hl, by simpa using hf 0 f0 rfl, by simpa using hf 1 f1 rfl, by simpa using hf 2 f2 rfl, by simpa using hf 3 f3 rfl, by simpa using hf 4 f4 rfl⟩
end
end Go.XW
