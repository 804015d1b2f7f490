/- What strconv.Itoa and strconv.Atoi come to: plain laws, no program. -/
import Derived.Test.YtpiicncihccheaaDoorM1
import Derived.Lib.ItoaNum
import Derived.Lib.AtoiAll
import Derived.Lib.AtoiAllCases
namespace Go.XW.DU
open Go.RowKit Go.XW Go.XW.DI
theorem decD_eq (u : Nat) : Lib.decDigits u = dc u := by
  induction u using Nat.strongRecOn with
  | _ u ih =>
    rw [Lib.decDigits]
    unfold dc decs
    split
    · rename_i h
      by_cases h0 : u = 0
      · subst h0; rfl
      · rw [if_neg h0, lod_succ h0, show u / 10 = 0 by omega, lod_zero, show u % 10 = u by omega]
        simp only [List.map_cons, List.map_nil, List.reverse_cons, List.reverse_nil, List.nil_append, ofNums]
        congr 2; omega
    · rename_i h
      have h0 : u ≠ 0 := by omega
      have h1 : u / 10 ≠ 0 := by omega
      rw [if_neg h0, lod_succ h0, ih (u / 10) (by omega)]
      unfold dc decs
      rw [if_neg h1]
      simp only [List.map_cons, List.reverse_cons, ofNums, List.map_append, List.map_nil]
      congr 3; omega
theorem itoa_en (z : Int) : Lib.itoa z = en z := by
  unfold Lib.itoa
  split
  · rename_i h
    rw [decD_eq]
    unfold en
    rw [enc_neg h]; rfl
  · rename_i h
    rw [decD_eq, en_nonneg h]
    congr 1; omega
theorem parse_eq : ∀ (l : List UInt8) (acc : Nat), digs l = true → acc < 18446744073709551616 →
    ((acc : Int) * 10 ^ l.length + dval (nums l) < 18446744073709551616 → ∃ u : Nat, Lib.parseUint10 acc l = .ok u ∧ (u : Int) = acc * 10 ^ l.length + dval (nums l)) ∧
    (18446744073709551616 ≤ (acc : Int) * 10 ^ l.length + dval (nums l) → Lib.parseUint10 acc l = .range)
  | [], acc, _, ha => by
    refine ⟨fun h => ⟨acc, rfl, ?_⟩, fun h => ?_⟩
    · show (acc : Int) = acc * 10 ^ 0 + dval []
      rw [dval_nil]; omega
    · exfalso
      have : (acc : Int) * 10 ^ ([] : List UInt8).length + dval (nums []) = acc := by show (acc : Int) * 10 ^ 0 + dval [] = acc; rw [dval_nil]; omega
      omega
  | c :: r, acc, hd, ha => by
    simp only [digs, List.all_cons, Bool.and_eq_true] at hd
    obtain ⟨hc, hr⟩ := hd
    simp only [digB, Bool.and_eq_true, decide_eq_true_eq] at hc
    have hp : (0 : Int) < 10 ^ r.length := Int.pow_pos (by omega)
    have hdr : Dig (nums r) := by
      intro n hn
      obtain ⟨b, hb, rfl⟩ := List.mem_map.1 hn
      have := List.all_eq_true.1 hr b hb
      simp only [digB, Bool.and_eq_true, decide_eq_true_eq] at this
      omega
    have hv0 := dval_nonneg hdr
    have hvl := dval_lt hdr
    have e1 : dval (nums (c :: r)) = dval (nums r) + 10 ^ r.length * ((c.toNat : Int) - 48) := by
      show dval ((c.toNat : Int) :: nums r) = _
      rw [dval_cons, nums_length]
    have e2 : (acc : Int) * 10 ^ (c :: r).length + dval (nums (c :: r)) = ((acc * 10 + (c.toNat - 48) : Nat) : Int) * 10 ^ r.length + dval (nums r) := by
      rw [e1, List.length_cons, Int.pow_succ]
      have : ((acc * 10 + (c.toNat - 48) : Nat) : Int) = (acc : Int) * 10 + ((c.toNat : Int) - 48) := by omega
      rw [this, Int.add_mul, Int.mul_comm (10 ^ r.length) ((c.toNat : Int) - 48), Int.mul_comm (10 ^ r.length) 10, ← Int.mul_assoc]
      omega
    rw [e2]
    have hstep : Lib.parseUint10 acc (c :: r) = if 1844674407370955162 ≤ acc then .range else if 18446744073709551616 ≤ acc * 10 + (c.toNat - 48) then .range else Lib.parseUint10 (acc * 10 + (c.toNat - 48)) r := by
      rw [Lib.parseUint10, if_pos hc]
    rw [hstep]
    generalize hA : acc * 10 + (c.toNat - 48) = A
    have hge : 18446744073709551616 ≤ A → (18446744073709551616 : Int) ≤ (A : Int) * 10 ^ r.length + dval (nums r) := fun h => by
      have : (A : Int) * 1 ≤ (A : Int) * 10 ^ r.length := Int.mul_le_mul_of_nonneg_left (by omega) (by omega)
      omega
    by_cases h1 : 1844674407370955162 ≤ acc
    · rw [if_pos h1]
      exact ⟨fun h => by have := hge (by omega); omega, fun _ => rfl⟩
    · rw [if_neg h1]
      by_cases h2 : 18446744073709551616 ≤ A
      · rw [if_pos h2]
        exact ⟨fun h => by have := hge h2; omega, fun _ => rfl⟩
      · rw [if_neg h2]
        exact parse_eq r A hr (by omega)
theorem dc_parse (n : Nat) : (n < 18446744073709551616 → Lib.parseMag (dc n) = .ok n) ∧ (18446744073709551616 ≤ n → Lib.parseMag (dc n) = .range) := by
  have hne : dc n ≠ [] := by
    intro h
    have := congrArg List.length h
    unfold dc at this
    rw [ofNums_length] at this
    exact decs_ne n (List.length_eq_zero_iff.1 this)
  have hnd : nums (dc n) = decs n := nums_ofNums (decs_dig n).bytes
  have hdg : digs (dc n) = true := by
    unfold digs
    rw [List.all_eq_true]
    intro c hc
    have h1 : (c.toNat : Int) ∈ decs n := by rw [← hnd]; exact List.mem_map.2 ⟨c, hc, rfl⟩
    have := decs_dig n _ h1
    simp only [digB, Bool.and_eq_true, decide_eq_true_eq]; omega
  obtain ⟨h1, h2⟩ := parse_eq (dc n) 0 hdg (by omega)
  have hv : ((0 : Nat) : Int) * 10 ^ (dc n).length + dval (nums (dc n)) = n := by rw [hnd, decs_val]; omega
  rw [hv] at h1 h2
  unfold Lib.parseMag
  rw [if_neg hne]
  refine ⟨fun h => ?_, fun h => h2 (by omega)⟩
  obtain ⟨u, g1, g2⟩ := h1 (by omega)
  rw [g1, show u = n by omega]
theorem dc_cons (n : Nat) : ∃ c r, dc n = c :: r ∧ c.toNat ≠ 43 ∧ c.toNat ≠ 45 := by
  have hnd : nums (dc n) = decs n := nums_ofNums (decs_dig n).bytes
  cases h : dc n with
  | nil => rw [h] at hnd; exact absurd hnd.symm (decs_ne n)
  | cons c r =>
    have : (c.toNat : Int) ∈ decs n := by rw [← hnd, h]; exact List.mem_cons_self ..
    have := decs_dig n _ this
    exact ⟨c, r, rfl, by omega, by omega⟩
theorem atoi_en (z : Int) : Lib.atoiAll (en z) = if -9223372036854775808 ≤ z ∧ z ≤ 9223372036854775807 then .ok z else .range := by
  by_cases hz : z < 0
  · have he : en z = 45 :: dc z.natAbs := by unfold en; rw [enc_neg hz]; rfl
    rw [he]
    obtain ⟨h1, h2⟩ := dc_parse z.natAbs
    by_cases hb : z.natAbs < 18446744073709551616
    · simp only [Lib.atoiAll, h1 hb]
      have e : (45 : UInt8).toNat = 45 := rfl
      rw [e]
      simp only [or_true, if_true, h1 hb]
      by_cases hr : 9223372036854775808 < z.natAbs
      · have hz2 : ¬ (-9223372036854775808 ≤ z ∧ z ≤ 9223372036854775807) := by omega
        simp [hr, hz2]
      · have hz2 : -9223372036854775808 ≤ z ∧ z ≤ 9223372036854775807 := by omega
        simp [hr, hz2]; omega
    · have e : (45 : UInt8).toNat = 45 := rfl
      simp only [Lib.atoiAll, e, or_true, if_true, h2 (by omega)]
      rw [if_neg (by omega)]
  · rw [en_nonneg hz]
    obtain ⟨h1, h2⟩ := dc_parse z.natAbs
    obtain ⟨c, r, hc, k1, k2⟩ := dc_cons z.natAbs
    rw [hc] at h1 h2 ⊢
    by_cases hb : z.natAbs < 18446744073709551616
    · simp only [Lib.atoiAll, k1, k2, or_self, if_false, h1 hb]
      by_cases hr : 9223372036854775808 ≤ z.natAbs
      · have hz2 : ¬ (-9223372036854775808 ≤ z ∧ z ≤ 9223372036854775807) := by omega
        simp [hr, hz2]
      · have hz2 : -9223372036854775808 ≤ z ∧ z ≤ 9223372036854775807 := by omega
        simp [hr, hz2]; omega
    · simp only [Lib.atoiAll, k1, k2, or_self, if_false, h2 (by omega)]
      rw [if_neg (by omega)]
end Go.XW.DU
