/- Values of JSON as trees, and their texts: plain laws, no program. -/
import Derived.Test.YtpiicncihccheaaGreatDoorD2
namespace Go.Proofs.YtpiicncihccheaaGreatDoor
open Go.XW Go.XW.DU Go.Lib Go.XW.U
/-- A value: its kind, number, text, items, keys. -/
inductive JV where
  | mk (kind : Int) (num text : List UInt8) (items : List JV) (keys : List (List UInt8))
instance : Inhabited JV := ⟨.mk 0 [] [] [] []⟩
def keyC (k : List UInt8) : List V := [vstr k]
mutual
/-- A value's cells. -/
def JV.cells : JV → List V
  | .mk k n t is ks => [int k, vstr n, vstr t, .row 5 (cellsL is), .row 1 (ks.map keyC)]
def cellsL : List JV → List (List V)
  | [] => []
  | x :: r => x.cells :: cellsL r
end
theorem cellsL_map : ∀ l : List JV, cellsL l = l.map JV.cells
  | [] => by simp [cellsL]
  | x :: r => by simp [cellsL, cellsL_map r]
theorem cells_mk (k : Int) (n t : List UInt8) (is : List JV) (ks : List (List UInt8)) : (JV.mk k n t is ks).cells = [int k, vstr n, vstr t, .row 5 (is.map JV.cells), .row 1 (ks.map keyC)] := by simp [JV.cells, cellsL_map]
def JV.kind : JV → Int
  | .mk k _ _ _ _ => k
def JV.num : JV → List UInt8
  | .mk _ n _ _ _ => n
def JV.text : JV → List UInt8
  | .mk _ _ t _ _ => t
def JV.items : JV → List JV
  | .mk _ _ _ is _ => is
def JV.keys : JV → List (List UInt8)
  | .mk _ _ _ _ ks => ks
/-- A value's cells, one by one. -/
def JV.c5 (v : JV) : List V := [int v.kind, vstr v.num, vstr v.text, .row 5 (v.items.map JV.cells), .row 1 (v.keys.map keyC)]
theorem JV.cells_c5 : ∀ v : JV, v.cells = v.c5
  | .mk k n t is ks => cells_mk k n t is ks
theorem JV.eq_mk : ∀ v : JV, v = .mk v.kind v.num v.text v.items v.keys
  | .mk _ _ _ _ _ => rfl
theorem at_jv {l : List JV} {i : Nat} {K : List V → Prop} (hi : i < l.length) (h : K (l[i]).c5) : At (l.map JV.cells) i K :=
  ⟨(l[i]).c5, by simp [hi, JV.cells_c5], h⟩
theorem at_key {l : List (List UInt8)} {i : Nat} {K : List V → Prop} (hi : i < l.length) (h : K [vstr (l.getD i [])]) : At (l.map keyC) i K :=
  ⟨_, by simp [hi, keyC, List.getD], h⟩
def keysB : List (List UInt8) → Nat
  | [] => 0
  | k :: r => k.length + 1 + keysB r
mutual
/-- How much a value has. -/
def JV.bk : JV → Nat
  | .mk _ n t is ks => 1 + n.length + t.length + bkL is + keysB ks
def bkL : List JV → Nat
  | [] => 0
  | x :: r => x.bk + bkL r
end
theorem bk_eq : ∀ v : JV, v.bk = 1 + v.num.length + v.text.length + bkL v.items + keysB v.keys
  | .mk _ _ _ _ _ => by simp [JV.bk, JV.num, JV.text, JV.items, JV.keys]
theorem bk_pos : ∀ v : JV, 1 ≤ v.bk
  | .mk _ _ _ _ _ => by simp [JV.bk]; omega
theorem bk_mem {x : JV} : ∀ {l : List JV}, x ∈ l → x.bk ≤ bkL l
  | y :: r, h => by
    rcases List.mem_cons.1 h with rfl | h
    · simp [bkL]
    · have := bk_mem h; simp [bkL]; omega
theorem bkL_len : ∀ l : List JV, l.length ≤ bkL l
  | [] => by simp
  | x :: r => by have := bkL_len r; have := bk_pos x; simp [bkL]; omega
theorem keysB_len : ∀ l : List (List UInt8), l.length ≤ keysB l
  | [] => by simp
  | x :: r => by have := keysB_len r; simp [keysB]; omega
theorem keysB_mem {x : List UInt8} : ∀ {l : List (List UInt8)}, x ∈ l → x.length + 1 ≤ keysB l
  | y :: r, h => by
    rcases List.mem_cons.1 h with rfl | h
    · simp [keysB]
    · have := keysB_mem h; simp [keysB]; omega
/-- The text of a value without items. -/
def wordL (k : Int) (n t : List UInt8) : List UInt8 := if k = 0 then [110, 117, 108, 108] else if k = 1 then [102, 97, 108, 115, 101] else if k = 2 then [116, 114, 117, 101] else if k = 3 then n else quote t
/-- A line's end and blanks; nothing in a plain text. -/
def lineL (d st : Int) : List UInt8 := if st < 0 then [] else 10 :: List.replicate (d * st).toNat 32
def keyL (k : Int) (ks : List (List UInt8)) (st : Int) : List UInt8 := if k = 6 then quote (ks.headD []) ++ ([58] ++ (if st ≥ 0 then [32] else [])) else []
mutual
/-- A value's text, so deep, with a step. -/
def write : JV → Int → Int → List UInt8
  | .mk k n t is ks, d, st => if k < 5 then wordL k n t else (if k = 6 then [123] else [91]) ++ writeL k is ks (d + 1) st true ++ ((if is = [] then [] else lineL d st) ++ (if k = 6 then [125] else [93]))
def writeL (k : Int) : List JV → List (List UInt8) → Int → Int → Bool → List UInt8
  | [], _, _, _, _ => []
  | x :: r, ks, d, st, fst => ((if fst then [] else [44]) ++ (lineL d st ++ (keyL k ks st ++ write x d st))) ++ writeL k r ks.tail d st false
end
theorem line_len {d st : Int} (hd : 0 ≤ d) (hs : st ≤ 8) {B : Nat} (hB : d ≤ B) : (lineL d st).length ≤ 1 + 8 * B := by
  unfold lineL
  split
  · simp
  · rename_i h
    simp only [List.length_cons, List.length_replicate]
    have h1 : d * st ≤ B * 8 := Int.mul_le_mul hB hs (by omega) (by omega)
    omega
theorem word_len (k : Int) (n t : List UInt8) : (wordL k n t).length ≤ 5 + n.length + 6 * t.length := by
  have := quote_len t
  unfold wordL
  repeat' split
  all_goals simp <;> omega
theorem key_len (k : Int) (ks : List (List UInt8)) (st : Int) : (keyL k ks st).length ≤ 6 * (ks.headD []).length + 4 := by
  have := quote_len (ks.headD [])
  unfold keyL
  split
  · simp only [List.length_append, List.length_cons, List.length_nil]
    split <;> simp only [List.length_cons, List.length_nil] <;> omega
  · simp
theorem keysB_split (ks : List (List UInt8)) : keysB ks ≥ (ks.headD []).length + keysB ks.tail := by
  cases ks <;> simp [keysB] <;> omega
mutual
theorem write_len (st : Int) (hs : st ≤ 8) (B : Nat) : ∀ (v : JV) (d : Int), 0 ≤ d → d + v.bk ≤ B → (write v d st).length + 8 + 8 * B ≤ (16 + 16 * B) * v.bk
  | .mk k n t is ks, d, h0, hb => by
    simp only [JV.bk] at hb ⊢
    simp only [write]
    have hmul : (16 + 16 * B) * (1 + n.length + t.length + bkL is + keysB ks) = (16 + 16 * B) + (16 + 16 * B) * (n.length + t.length) + ((16 + 16 * B) * bkL is + (16 + 16 * B) * keysB ks) := by
      rw [show 1 + n.length + t.length + bkL is + keysB ks = 1 + (n.length + t.length) + (bkL is + keysB ks) by omega, Nat.mul_add, Nat.mul_add, Nat.mul_one, Nat.mul_add (16 + 16 * B) (bkL is)]
    have hnt : 16 * (n.length + t.length) ≤ (16 + 16 * B) * (n.length + t.length) := Nat.mul_le_mul_right _ (by omega)
    rw [hmul]
    split
    · have := word_len k n t
      omega
    · have hl := writeL_len st hs B k is ks (d + 1) true (by omega) (by omega)
      have hn := line_len (d := d) (st := st) h0 hs (B := B) (by omega)
      have e1 : (if k = 6 then ([123] : List UInt8) else [91]).length = 1 := by split <;> rfl
      have e2 : (if k = 6 then ([125] : List UInt8) else [93]).length = 1 := by split <;> rfl
      have e3 : (if is = [] then [] else lineL d st).length ≤ 1 + 8 * B := by split; simp; exact hn
      simp only [List.length_append, e1, e2]
      omega
theorem writeL_len (st : Int) (hs : st ≤ 8) (B : Nat) (k : Int) : ∀ (l : List JV) (ks : List (List UInt8)) (d : Int) (fst : Bool), 0 ≤ d → d + bkL l ≤ B → (writeL k l ks d st fst).length ≤ (16 + 16 * B) * bkL l + (16 + 16 * B) * keysB ks
  | [], ks, d, fst, h0, hb => by simp [writeL]
  | x :: r, ks, d, fst, h0, hb => by
    simp only [bkL] at hb ⊢
    have hx1 := bk_pos x
    have h1 := write_len st hs B x d h0 (by omega)
    have h2 := writeL_len st hs B k r ks.tail d false h0 (by omega)
    have hn := line_len (d := d) (st := st) h0 hs (B := B) (by omega)
    have hk := key_len k ks st
    have hsp := keysB_split ks
    have e1 : (if fst = true then ([] : List UInt8) else [44]).length ≤ 1 := by split <;> simp
    have hm1 : (16 + 16 * B) * (x.bk + bkL r) = (16 + 16 * B) * x.bk + (16 + 16 * B) * bkL r := Nat.mul_add _ _ _
    have hm2 : (16 + 16 * B) * ((ks.headD []).length + keysB ks.tail) ≤ (16 + 16 * B) * keysB ks := Nat.mul_le_mul_left _ hsp
    rw [Nat.mul_add] at hm2
    have hm3 : 16 * (ks.headD []).length ≤ (16 + 16 * B) * (ks.headD []).length := Nat.mul_le_mul_right _ (by omega)
    simp only [writeL, List.length_append]
    omega
end
end Go.Proofs.YtpiicncihccheaaGreatDoor
