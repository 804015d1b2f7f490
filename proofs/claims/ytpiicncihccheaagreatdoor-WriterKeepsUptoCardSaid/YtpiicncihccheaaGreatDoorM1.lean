/- Texts of numbers, by their bytes: plain laws, no program. -/
import Derived.Test.YtpiicncihccheaaGreatDoorM0
namespace Go.XW.DU
open Go.RowKit Go.XW Go.XW.DI

theorem nums_length (l : List UInt8) : (nums l).length = l.length := by simp [nums]
theorem ofNums_length (ns : List Int) : (ofNums ns).length = ns.length := by simp [ofNums]
theorem ofNums_nums (l : List UInt8) : ofNums (nums l) = l := by
  unfold ofNums nums
  rw [List.map_map]
  conv => rhs; rw [← List.map_id l]
  congr 1
  funext b
  simp
theorem u8_back {n : Int} (h : 0 ≤ n ∧ n ≤ 255) : ((UInt8.ofNat n.toNat).toNat : Int) = n := by
  simp; omega
theorem nums_ofNums : ∀ {ns : List Int}, Bytes ns → nums (ofNums ns) = ns
  | [], _ => rfl
  | n :: ns, h => by
    have h1 := h n (by simp)
    have h2 := nums_ofNums (ns := ns) fun x hx => h x (List.mem_cons_of_mem _ hx)
    unfold nums ofNums at *
    simp only [List.map_cons]
    rw [h2, u8_back h1]
theorem nums_bytes (l : List UInt8) : Bytes (nums l) := fun n hn => by
  obtain ⟨b, _, rfl⟩ := List.mem_map.1 hn
  have := b.toNat_lt; omega
theorem nums_inj {a b : List UInt8} (h : nums a = nums b) : a = b := by rw [← ofNums_nums a, h, ofNums_nums]
theorem ofNums_inj {a b : List Int} (ha : Bytes a) (hb : Bytes b) (h : ofNums a = ofNums b) : a = b := by rw [← nums_ofNums ha, h, nums_ofNums hb]
theorem nums_getD (l : List UInt8) (k : Nat) : (nums l).getD k 0 = ((l.getD k 0).toNat : Int) := by
  simp only [nums, List.getD, List.getElem?_map]
  cases l[k]? <;> rfl
theorem nums_drop (l : List UInt8) (k : Nat) : nums (l.drop k) = (nums l).drop k := by simp [nums, List.map_drop]
theorem nums_take (l : List UInt8) (k : Nat) : nums (l.take k) = (nums l).take k := by simp [nums, List.map_take]
theorem nums_append (a b : List UInt8) : nums (a ++ b) = nums a ++ nums b := by simp [nums]
theorem nums_head (l : List UInt8) : (nums l).head? = l.head?.map fun b => (b.toNat : Int) := by cases l <;> rfl
theorem nums_head_eq (l : List UInt8) (c : UInt8) : (nums l).head? = some (c.toNat : Int) ↔ l.head? = some c := by
  rw [nums_head]
  cases l.head? with
  | none => simp
  | some b =>
    simp only [Option.map_some, Option.some.injEq]
    constructor
    · intro h; exact UInt8.toNat_inj.1 (by omega)
    · rintro rfl; rfl
theorem bytesLess_nums : ∀ (a b : List UInt8), Op.bytesLess a b = lexLess (nums a) (nums b)
  | [], [] => rfl
  | [], _ :: _ => rfl
  | _ :: _, [] => rfl
  | x :: a, y :: b => by
    have ih := bytesLess_nums a b
    unfold nums at *
    simp only [List.map_cons, Op.bytesLess, lexLess]
    rw [ih]
    have l1 : decide (x < y) = decide ((x.toNat : Int) < (y.toNat : Int)) := by
      rw [Bool.eq_iff_iff, decide_eq_true_iff, decide_eq_true_iff, UInt8.lt_iff_toNat_lt]; omega
    have l2 : (x == y) = decide ((x.toNat : Int) = (y.toNat : Int)) := by
      rw [Bool.eq_iff_iff, beq_iff_eq, decide_eq_true_iff]
      constructor
      · rintro rfl; rfl
      · intro h; exact UInt8.toNat_inj.1 (by omega)
    rw [l1, l2]

def digB (c : UInt8) : Bool := decide (48 ≤ c.toNat) && decide (c.toNat ≤ 57)
def digs (l : List UInt8) : Bool := l.all digB
/-- Without the sign. -/
def body (l : List UInt8) : List UInt8 := if l.head? = some 45 then l.drop 1 else l
/-- A whole number in tens. -/
def fm (l : List UInt8) : Bool := decide (l = [48]) || (decide (body l ≠ [] ∧ (body l).head? ≠ some 48) && digs (body l))
/-- The order of digits without noughts ahead. -/
def sizeI (a b : List UInt8) : Int :=
  if a.length ≠ b.length then (if a.length < b.length then -1 else 1) else if Op.bytesLess a b then -1 else if Op.bytesLess b a then 1 else 0
/-- Digits with a sign; 0 has none. -/
def sgn (b : Bool) (l : List UInt8) : List UInt8 := if b = true ∧ l ≠ [48] then 45 :: l else l

theorem nums_eq48 (l : List UInt8) : nums l = [48] ↔ l = [48] := ⟨fun h => nums_inj h, fun h => by rw [h]; rfl⟩
theorem nums_body (l : List UInt8) : nums (body l) = DI.body (nums l) := by
  unfold body DI.body
  have this : (nums l).head? = some 45 ↔ l.head? = some 45 := nums_head_eq l 45
  by_cases h : l.head? = some 45
  · rw [if_pos h, if_pos (this.2 h), nums_drop]
  · rw [if_neg h, if_neg (fun hc => h (this.1 hc))]
theorem nums_digs (l : List UInt8) : DI.digs (nums l) = digs l := by
  unfold DI.digs digs nums digB
  rw [List.all_map]
  congr 1
  funext c
  simp only [Function.comp]
  congr 1 <;> (rw [Bool.eq_iff_iff, decide_eq_true_iff, decide_eq_true_iff]; omega)
theorem nums_fm (l : List UInt8) : DI.fm (nums l) = fm l := by
  unfold DI.fm fm
  rw [← nums_body, nums_digs]
  have h1 : decide (nums l = [48]) = decide (l = [48]) := by rw [Bool.eq_iff_iff]; simp [nums_eq48]
  have h2 : (nums (body l)).head? = some 48 ↔ (body l).head? = some 48 := nums_head_eq (body l) 48
  have h3 : nums (body l) = [] ↔ body l = [] := ⟨fun h => nums_inj h, fun h => by rw [h]; rfl⟩
  have h4 : decide (nums (body l) ≠ [] ∧ (nums (body l)).head? ≠ some 48) = decide (body l ≠ [] ∧ (body l).head? ≠ some 48) := by
    rw [Bool.eq_iff_iff, decide_eq_true_iff, decide_eq_true_iff, ne_eq, h3, ne_eq, ne_eq, ne_eq]
    exact ⟨fun ⟨a, b⟩ => ⟨a, fun hc => b (h2.2 hc)⟩, fun ⟨a, b⟩ => ⟨a, fun hc => b (h2.1 hc)⟩⟩
  rw [h1, h4]
theorem nums_sgn (b : Bool) (l : List UInt8) : nums (sgn b l) = DI.sgn b (nums l) := by
  unfold sgn DI.sgn
  by_cases h : b = true ∧ l ≠ [48]
  · rw [if_pos h, if_pos ⟨h.1, fun hc => h.2 ((nums_eq48 l).1 hc)⟩]; rfl
  · rw [if_neg h, if_neg (fun hc => h ⟨hc.1, fun h2 => hc.2 ((nums_eq48 l).2 h2)⟩)]

/-- The text of a number without a sign; of any. -/
def dc (n : Nat) : List UInt8 := ofNums (decs n)
def en (z : Int) : List UInt8 := ofNums (enc z)
/-- The number of a text. -/
def zv (l : List UInt8) : Int := zval (nums l)
theorem nums_dc (n : Nat) : nums (dc n) = decs n := nums_ofNums (decs_dig n).bytes
theorem nums_en (z : Int) : nums (en z) = enc z := nums_ofNums (enc_bytes z)
theorem dc_length (n : Nat) : (dc n).length = (decs n).length := ofNums_length _
theorem en_length (z : Int) : (en z).length = (enc z).length := ofNums_length _
theorem fm_en (z : Int) : fm (en z) = true := by rw [← nums_fm, nums_en]; exact DI.fm_enc z
theorem en_of_fm {l : List UInt8} (h : fm l = true) : l = en (zv l) := by
  rw [← nums_fm] at h
  have := enc_of_fm h
  exact nums_inj (by rw [nums_en]; exact this)
theorem body_en (z : Int) : body (en z) = dc z.natAbs := nums_inj (by rw [nums_body, nums_en, nums_dc]; exact enc_body z)
theorem head_en (z : Int) : (en z).head? = some 45 ↔ z < 0 := by
  have h : (nums (en z)).head? = some 45 ↔ (en z).head? = some 45 := nums_head_eq (en z) 45
  rw [← h, nums_en]; exact enc_head z
theorem sgn_dc (b : Bool) (n : Nat) : sgn b (dc n) = en (if b then -(n : Int) else n) := nums_inj (by rw [nums_sgn, nums_dc, nums_en]; exact sgn_enc b n)
theorem sizeI_nums (a b : List UInt8) : sizeI a b = DI.sizeI (nums a) (nums b) := by
  unfold sizeI DI.sizeI
  rw [nums_length, nums_length, bytesLess_nums, bytesLess_nums]
theorem sizeI_dc (m n : Nat) : sizeI (dc m) (dc n) = cmpI m n := by rw [sizeI_nums, nums_dc, nums_dc]; exact sizeI_decs m n
theorem en_inj {y z : Int} (h : en y = en z) : y = z := enc_inj (by rw [← nums_en, h, nums_en])
theorem en_ne (z : Int) : en z ≠ [] := fun h => by
  have := congrArg List.length h
  rw [en_length] at this
  exact enc_ne z (List.length_eq_zero_iff.1 this)
theorem dc_ne (n : Nat) : dc n ≠ [] := fun h => by
  have := congrArg List.length h
  rw [dc_length] at this
  exact decs_ne n (List.length_eq_zero_iff.1 this)
theorem en_zero : en 0 = [48] := rfl
theorem en_eq0 (z : Int) : en z = [48] ↔ z = 0 := ⟨fun h => en_inj (h.trans en_zero.symm), fun h => by rw [h]; rfl⟩
theorem dc_le_en (z : Int) : (dc z.natAbs).length ≤ (en z).length := by
  rw [← body_en]; unfold body; split <;> simp
theorem en_le_dc (z : Int) : (en z).length ≤ (dc z.natAbs).length + 1 := by
  have := body_en z
  rw [← this]; unfold body; split <;> simp; omega
theorem en_nonneg {z : Int} (h : ¬ z < 0) : en z = dc z.natAbs := by unfold en dc; rw [enc_nonneg h]
theorem en_nat (n : Nat) : en n = dc n := by rw [en_nonneg (by omega)]; rfl
end Go.XW.DU
