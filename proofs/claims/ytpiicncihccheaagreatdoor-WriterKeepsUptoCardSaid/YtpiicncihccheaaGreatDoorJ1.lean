/- Which values are well shaped: plain laws, no program. -/
import Derived.Test.YtpiicncihccheaaGreatDoorJ0
namespace Go.Proofs.YtpiicncihccheaaGreatDoor
open Go.XW Go.XW.DU Go.Lib Go.XW.U
/-- What a kind doesn't use is empty. -/
def emp (b1 b2 b3 b4 : Bool) (v : JV) : Bool := (b1 || decide (v.num = [])) && (b2 || decide (v.text = [])) && (b3 || decide (v.items.length = 0)) && (b4 || decide (v.keys.length = 0))
/-- Keys are UTF-8 and rise. -/
def Rise (ks : List (List UInt8)) (m : Nat) : Prop := ∀ j, j < m → validD (ks.getD j []) = true ∧ (0 < j → Op.bytesLess (ks.getD (j - 1) []) (ks.getD j []) = true)
instance (ks : List (List UInt8)) (m : Nat) : Decidable (Rise ks m) := by unfold Rise; infer_instance
def rise (ks : List (List UInt8)) : Bool := decide (Rise ks ks.length)
theorem Rise.zero (ks : List (List UInt8)) : Rise ks 0 := fun j h => by omega
theorem Rise.succ {ks : List (List UInt8)} {m : Nat} (h : Rise ks m) (h1 : validD (ks.getD m []) = true) (h2 : 0 < m → Op.bytesLess (ks.getD (m - 1) []) (ks.getD m []) = true) : Rise ks (m + 1) := fun j hj => by
  by_cases hm : j = m
  · subst hm; exact ⟨h1, h2⟩
  · exact h j (by omega)
theorem rise_not {ks : List (List UInt8)} {m : Nat} (hm : m < ks.length) (h : validD (ks.getD m []) = true → (0 < m ∧ Op.bytesLess (ks.getD (m - 1) []) (ks.getD m []) = false)) : rise ks = false := by
  unfold rise
  rw [decide_eq_false_iff_not]
  intro hr
  obtain ⟨h1, h2⟩ := hr m hm
  obtain ⟨h3, h4⟩ := h h1
  rw [h2 h3] at h4
  cases h4
mutual
/-- A value is well shaped. -/
def fmd : JV → Bool
  | .mk k n t is ks => decide (0 ≤ k ∧ k ≤ 6) && (if k = 3 then fm n else decide (n = [])) && (if k = 4 then validD t else decide (t = [])) && (decide (5 ≤ k) || decide (is.length = 0)) && (decide (k = 6) || decide (ks.length = 0)) && (decide (k ≠ 6) || (decide (ks.length = is.length) && rise ks)) && fmdL is
def fmdL : List JV → Bool
  | [] => true
  | x :: r => fmd x && fmdL r
end
theorem fmd_eq : ∀ v : JV, fmd v = (decide (0 ≤ v.kind ∧ v.kind ≤ 6) && (if v.kind = 3 then fm v.num else decide (v.num = [])) && (if v.kind = 4 then validD v.text else decide (v.text = [])) && (decide (5 ≤ v.kind) || decide (v.items.length = 0)) && (decide (v.kind = 6) || decide (v.keys.length = 0)) && (decide (v.kind ≠ 6) || (decide (v.keys.length = v.items.length) && rise v.keys)) && fmdL v.items)
  | .mk _ _ _ _ _ => rfl
theorem fmdL_all : ∀ l : List JV, fmdL l = l.all fmd
  | [] => rfl
  | x :: r => by rw [fmdL, fmdL_all r]; rfl
theorem fmdL_not {l : List JV} {i : Nat} (hi : i < l.length) (h : fmd l[i] = false) : fmdL l = false := by
  rw [fmdL_all, List.all_eq_false]
  exact ⟨l[i], List.getElem_mem hi, by simp [h]⟩
theorem fmdL_yes {l : List JV} (h : ∀ i (hi : i < l.length), fmd l[i] = true) : fmdL l = true := by
  rw [fmdL_all, List.all_eq_true]
  intro x hx
  obtain ⟨i, hi, rfl⟩ := List.mem_iff_getElem.1 hx
  exact h i hi
theorem fmdL_nil {l : List JV} (h : l.length = 0) : fmdL l = true := by
  cases l with
  | nil => rfl
  | cons x r => simp at h
structure Fmd (v : JV) : Prop where
  k0 : 0 ≤ v.kind
  k6 : v.kind ≤ 6
  txt : v.kind = 4 → validD v.text = true
  keys : v.kind = 6 → v.keys.length = v.items.length
  key : v.kind = 6 → ∀ i, i < v.keys.length → validD (v.keys.getD i []) = true
  item : ∀ x ∈ v.items, fmd x = true
theorem fmd_get {v : JV} (h : fmd v = true) : Fmd v := by
  rw [fmd_eq] at h
  simp only [Bool.and_eq_true, Bool.or_eq_true, decide_eq_true_eq] at h
  obtain ⟨⟨⟨⟨⟨⟨h1, h2⟩, h3⟩, h4⟩, h5⟩, h6⟩, h7⟩ := h
  refine ⟨h1.1, h1.2, fun hk => by rw [if_pos hk] at h3; exact h3, fun hk => ?_, fun hk i hi => ?_, fun x hx => ?_⟩
  · rcases h6 with h6 | h6
    · exact absurd hk h6
    · exact h6.1
  · rcases h6 with h6 | h6
    · exact absurd hk h6
    · have := h6.2
      rw [rise, decide_eq_true_eq] at this
      exact (this i hi).1
  · rw [fmdL_all, List.all_eq_true] at h7
    exact h7 x hx
end Go.Proofs.YtpiicncihccheaaGreatDoor
