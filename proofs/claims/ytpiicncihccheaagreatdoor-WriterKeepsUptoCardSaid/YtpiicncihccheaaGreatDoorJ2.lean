/- The texts of values: item by item. -/
import Derived.Test.YtpiicncihccheaaGreatDoorJ1
namespace Go.Proofs.YtpiicncihccheaaGreatDoor
open Go.XW Go.XW.DU Go.Lib Go.XW.U
theorem headD_drop (ks : List (List UInt8)) (i : Nat) : (ks.drop i).headD [] = ks.getD i [] := by
  rw [List.headD_eq_head?_getD, List.head?_drop]; rfl
theorem writeL_app (k : Int) (d st : Int) : ∀ (a b : List JV) (ks : List (List UInt8)) (fst : Bool), writeL k (a ++ b) ks d st fst = writeL k a ks d st fst ++ writeL k b (ks.drop a.length) d st (fst && a.isEmpty)
  | [], b, ks, fst => by simp [writeL]
  | x :: a, b, ks, fst => by
    have := writeL_app k d st a b ks.tail false
    simp [writeL, this]
theorem writeL_take (k d st : Int) (is : List JV) (ks : List (List UInt8)) (i : Nat) (hi : i < is.length) :
    writeL k (is.take (i + 1)) ks d st true = writeL k (is.take i) ks d st true ++ ((if i = 0 then [] else [44]) ++ (lineL d st ++ ((if k = 6 then quote (ks.getD i []) ++ ([58] ++ (if st ≥ 0 then [32] else [])) else []) ++ write is[i] d st))) := by
  rw [List.take_succ_eq_append_getElem hi, writeL_app]
  have e : (true && (is.take i).isEmpty) = decide (i = 0) := by
    cases i with
    | zero => simp
    | succ i => cases is with
      | nil => simp at hi
      | cons x r => simp
  have e2 : (is.take i).length = i := by rw [List.length_take]; omega
  rw [e, e2]
  simp only [writeL, keyL, headD_drop, List.append_nil]
  congr 2
  by_cases h : i = 0 <;> simp [h]
theorem writeL_len_take (k d st : Int) (is : List JV) (ks : List (List UInt8)) (i : Nat) : (writeL k (is.take i) ks d st true).length ≤ (writeL k is ks d st true).length := by
  have := writeL_app k d st (is.take i) (is.drop i) ks true
  rw [List.take_append_drop] at this
  rw [this, List.length_append]; omega
theorem write_eq (v : JV) (d st : Int) : write v d st = if v.kind < 5 then wordL v.kind v.num v.text else (if v.kind = 6 then [123] else [91]) ++ writeL v.kind v.items v.keys (d + 1) st true ++ ((if v.items = [] then [] else lineL d st) ++ (if v.kind = 6 then [125] else [93])) := by
  cases v; rfl
theorem write_bound {st : Int} (hs : st ≤ 8) (v : JV) {d : Int} (h0 : 0 ≤ d) (hb : d + v.bk ≤ 2 ^ 21) : (write v d st).length < 2 ^ 46 + 2 ^ 26 := by
  have h1 := write_len st hs (2 ^ 21) v d h0 (by omega)
  have h2 : (16 + 16 * 2 ^ 21) * v.bk ≤ (16 + 16 * 2 ^ 21) * 2 ^ 21 := Nat.mul_le_mul_left _ (by omega)
  have h3 : (16 + 16 * 2 ^ 21) * 2 ^ 21 = 70368777732096 := by decide
  have h4 : (2 : Nat) ^ 46 = 70368744177664 := by decide
  have h5 : (8 : Nat) * 2 ^ 21 = 16777216 := by decide
  omega
end Go.Proofs.YtpiicncihccheaaGreatDoor
