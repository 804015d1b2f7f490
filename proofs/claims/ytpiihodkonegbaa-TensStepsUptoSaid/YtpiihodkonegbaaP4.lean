/- Walks of the reference of layer 1: the quotient, digit by digit. -/
import Derived.Test.YtpiihodkonegbaaP3
import Derived.Test.YtpiihodkonegbaaP1
set_option linter.unusedVariables false
namespace Go.Proofs.Ytpiihodkonegbaa
open Go.XW Go.XW.DU Go.XW.DR
open Go.XW.DI hiding fm body sgn sizeI digs

theorem lod_unique_len : ∀ {l : List Int}, Dg l → (lod (lval l).toNat).length ≤ l.length
  | [], _ => by rw [lval]; simp [lod_zero]
  | d :: l, h => by
    have h1 := lod_unique_len h.tail
    have h2 := lval_nonneg h.tail
    have h3 := h.head
    rw [lval]
    by_cases h0 : (d + 10 * lval l).toNat = 0
    · rw [h0, lod_zero]; simp
    · rw [lod_succ h0, show (d + 10 * lval l).toNat / 10 = (lval l).toNat by omega]
      simpa using h1
theorem sub_mul_len (x d n : Nat) : (lod (x - d * n)).length ≤ (lod x).length := lod_len (Nat.sub_le _ _)

theorem rover_calls (m n : Nat) (h : Hp) (hn0 : 0 < n) (hm : (lod m).length ≤ 1000000000) (hn : (lod n).length ≤ 1000000000) : VCalls Try.prog 61 [.row 1 (rInts .i64 (lod m)), .row 1 (rInts .i64 (lod n))] h
    (fun v h' => v = .tup [.row 1 (rInts .i64 (pd (lod m).length (m / n))), .row 1 (rInts .i64 (lod (m % n)))] ∧ h' = h) := by
  have da := lod_dg m
  have va := lod_val m
  generalize lod m = a at *
  refine xc k61 rfl ?_
  refine run ?_
  refine lp (fun x : Nat × List Int × Nat => [(0, .row 1 (rInts .i64 a)), (1, .row 1 (rInts .i64 (lod n))), (4, .row 1 (rInts .i64 x.2.1)), (5, .row 1 (rInts .i64 (lod x.2.2))), (6, int ((x.1 : Int) - 1))]) (fun _ => h)
    (fun x => x.1 ≤ a.length ∧ x.2.1.length = a.length - x.1 ∧ Dg x.2.1 ∧ x.2.2 < n ∧ lval x.2.1 * n + x.2.2 = lval (a.drop x.1)) (fun x => x.1)
    (wkx (a.length, [], 0) ⟨by dsimp only; omega, by dsimp only; simp, (fun _ h => by cases h), hn0, by dsimp only; rw [List.drop_of_length_le (Nat.le_refl _)]; simp [lval]⟩ (by dsimp only; rw [lod_zero]; exact fits) rfl) ?_
  rintro ⟨j, q, R⟩ ⟨hj, hql, hqd, hR, hv⟩
  dsimp only at *
  refine run ?_
  refine br_d (fun hb => ?_) (fun hb => ?_)
  · have hi : ((j : Int) - 1).toNat = j - 1 := by omega
    have hx := dg_getD da (j - 1)
    rw [← hi] at hx
    have hRl : (lod R).length ≤ (lod n).length := lod_len (by omega)
    have hRd := lod_dg R
    obtain ⟨x, hxv⟩ := Int.eq_ofNat_of_zero_le (show 0 ≤ a.getD ((j : Int) - 1).toNat 0 + 10 * (R : Int) by omega)
    have hx10 : x < 10 * n := by omega
    have hxl : lval (a.getD ((j : Int) - 1).toNat 0 :: lod R) = x := by rw [lval, lod_val, hxv]
    have hxd : Dg (a.getD ((j : Int) - 1).toNat 0 :: lod R) := fun y hy => by
      rcases List.mem_cons.1 hy with rfl | hy
      · exact hx
      · exact hRd y hy
    refine run ?_
    refine new_k fun k1 => ?_
    refine runto 5 ?_
    generalize hcd : a.getD ((j : Int) - 1).toNat 0 = c at *
    refine jn (fun k : Nat => [(0, .row 1 (rInts .i64 a)), (1, .row 1 (rInts .i64 (lod n))), (4, .row 1 (rInts .i64 q)), (6, int ((j : Int) - 1)), (7, .osl 1 k 0 (1 + (lod R).length))]) (fun k => (k, .blk 1 (rInts .i64 (c :: lod R))) :: h) (fun _ => True) ?_ ?_
    · refine run ?_
      refine lp (fun y : Nat × Nat => [(0, .row 1 (rInts .i64 a)), (1, .row 1 (rInts .i64 (lod n))), (4, .row 1 (rInts .i64 q)), (5, .row 1 (rInts .i64 (lod R))), (6, int ((j : Int) - 1)), (7, .osl 1 y.1 0 (1 + y.2)), (8, int y.2)])
        (fun y => (y.1, .blk 1 (rInts .i64 (c :: (lod R).take y.2))) :: h) (fun y => y.2 ≤ (lod R).length) (fun y => (lod R).length - y.2) (wkx (k1, 0) (by dsimp only; omega) fits (by simp only [List.take_zero]; rfl)) ?_
      rintro ⟨k, t⟩ ht
      dsimp only at *
      have htl : (c :: (lod R).take t).length = 1 + t := by simp; omega
      refine run ?_
      refine br_d (fun hc => ?_) (fun hc => ?_)
      · refine run ?_
        refine new_k fun k2 => ?_
        refine run ?_
        refine wkx (k2, t + 1) ⟨by dsimp only; omega, by dsimp only; omega⟩ fits ?_
        dsimp only
        rw [take_getD (by omega)]; rfl
      · refine run ?_
        refine wkx k trivial fits ?_
        rw [List.take_of_length_le (by omega)]
    rintro k _
    have hkl : (c :: lod R).length = 1 + (lod R).length := by simp; omega
    refine run ?_
    refine VCalls.fz0 (.cons _ _ _ _ (.agg _ _ _ _ (.same _) (.agg _ _ _ _ (.all _ (by rw [rInts_length]; exact hkl)) .agg0)) .nil) ?_
    refine VCalls.use (trim_calls false (c :: lod R) _ hxd (by omega)) ?_
    rintro _ _ ⟨rfl, rfl⟩
    rename_i h
    rw [hxl, show (if false = true then - (x : Int) else x) = x from rfl]
    have hxx : (x : Int).natAbs = x := Int.natAbs_natCast x
    refine runto 11 ?_
    have hxlen : (lod x).length ≤ 1 + (lod n).length := by
      have := lod_unique_len hxd
      rw [hxl, Int.toNat_natCast, List.length_cons] at this
      omega
    refine jn (fun _ : Unit => [(0, .row 1 (rInts .i64 a)), (1, .row 1 (rInts .i64 (lod n))), (4, .row 1 (rInts .i64 q)), (5, .row 1 (rInts .i64 (lod (x % n)))), (6, int ((j : Int) - 1)), (9, int (x / n : Nat))]) (fun _ => h) (fun _ => True) ?_ ?_
    · refine run ?_
      refine lp (fun d : Nat => [(0, .row 1 (rInts .i64 a)), (1, .row 1 (rInts .i64 (lod n))), (4, .row 1 (rInts .i64 q)), (5, .row 1 (rInts .i64 (lod (x - d * n)))), (6, int ((j : Int) - 1)), (9, int d)]) (fun _ => h) (fun d => d ≤ 9 ∧ d * n ≤ x) (fun d => 9 - d)
        (wkx 0 ⟨by omega, by omega⟩ (by rw [Nat.zero_mul, Nat.sub_zero]; exact fits) rfl) ?_
      rintro d ⟨hd9, hdn⟩
      have hln : (lod (x - d * n)).length ≤ 1 + (lod n).length := Nat.le_trans (lod_len (Nat.sub_le x _)) hxlen
      refine run ?_
      refine VCalls.use (rsize_calls _ _ _ (by omega) (by omega)) ?_
      rintro _ _ ⟨rfl, rfl⟩
      refine run ?_
      refine br_d (fun hc => ?_) (fun hc => ?_)
      · have hge : n ≤ x - d * n := by unfold cmpI at hc; split at hc <;> (try split at hc) <;> omega
        refine run ?_
        refine br_d (fun hc2 => ?_) (fun hc2 => ?_)
        · have v1 := lod_val (x - d * n)
          have v2 := lod_val n
          have hrv := restL_val (lod_dg (x - d * n)) (lod_dg n) (by omega)
          have hrl := restL_length (lod (x - d * n)) (lod n)
          refine run ?_
          refine VCalls.use (rrest_calls _ _ _ (lod_dg _) (lod_dg _) (lod_len hge) (by omega) (by omega)) ?_
          rintro _ _ ⟨rfl, rfl⟩
          refine run ?_
          refine VCalls.use (trim_calls false _ _ (restL_dg _ _) (by omega)) ?_
          rintro _ _ ⟨rfl, rfl⟩
          rw [hrv, v1, v2]
          have he : (if false = true then -(((x - d * n : Nat) : Int) - n) else ((x - d * n : Nat) : Int) - n).natAbs = x - (d + 1) * n := by
            rw [if_neg (by simp), Nat.add_mul, Nat.one_mul]; omega
          refine run ?_
          refine wkx (d + 1) ⟨⟨by omega, by rw [Nat.add_mul, Nat.one_mul]; omega⟩, by omega⟩ (by rw [← he]; exact fits) rfl
        · have hd : d = 9 := by omega
          obtain ⟨e1, e2⟩ := (Nat.div_mod_unique hn0).2 (show (x - d * n) + n * d = x ∧ x - d * n < n from ⟨by rw [Nat.mul_comm n d]; omega, by subst hd; omega⟩)
          refine run ?_
          refine wkx () trivial (by rw [e1, e2]; exact fits) rfl
      · have hlt : x - d * n < n := by unfold cmpI at hc; split at hc <;> (try split at hc) <;> omega
        obtain ⟨e1, e2⟩ := (Nat.div_mod_unique hn0).2 (show (x - d * n) + n * d = x ∧ x - d * n < n from ⟨by rw [Nat.mul_comm n d]; omega, hlt⟩)
        refine run ?_
        refine wkx () trivial (by rw [e1, e2]; exact fits) rfl
    rintro uu htr
    rename_i h
    refine run ?_
    refine new_k fun k6 => ?_
    refine runto 15 ?_
    refine jn (fun k : Nat => [(0, .row 1 (rInts .i64 a)), (1, .row 1 (rInts .i64 (lod n))), (5, .row 1 (rInts .i64 (lod (x % n)))), (6, int ((j : Int) - 1)), (10, .osl 1 k 0 (1 + q.length))]) (fun k => (k, .blk 1 (rInts .i64 (((x / n : Nat) : Int) :: q))) :: h) (fun _ => True) ?_ ?_
    · refine run ?_
      refine lp (fun y : Nat × Nat => [(0, .row 1 (rInts .i64 a)), (1, .row 1 (rInts .i64 (lod n))), (4, .row 1 (rInts .i64 q)), (5, .row 1 (rInts .i64 (lod (x % n)))), (6, int ((j : Int) - 1)), (10, .osl 1 y.1 0 (1 + y.2)), (11, int y.2)])
        (fun y => (y.1, .blk 1 (rInts .i64 (((x / n : Nat) : Int) :: q.take y.2))) :: h) (fun y => y.2 ≤ q.length) (fun y => q.length - y.2) (wkx (k6, 0) (by dsimp only; omega) fits (by simp only [List.take_zero]; rfl)) ?_
      rintro ⟨k, t⟩ ht
      dsimp only at *
      have htl : (((x / n : Nat) : Int) :: q.take t).length = 1 + t := by simp; omega
      refine run ?_
      refine br_d (fun hc => ?_) (fun hc => ?_)
      · refine run ?_
        refine new_k fun k2 => ?_
        refine run ?_
        refine wkx (k2, t + 1) ⟨by dsimp only; omega, by dsimp only; omega⟩ fits ?_
        dsimp only
        rw [take_getD (by omega)]; rfl
      · refine run ?_
        refine wkx k trivial fits ?_
        rw [List.take_of_length_le (by omega)]
    rintro k _
    have hkl : (((x / n : Nat) : Int) :: q).length = 1 + q.length := by simp; omega
    have hd9 : x / n < 10 := Nat.div_lt_of_lt_mul (by rw [Nat.mul_comm]; exact hx10)
    refine run ?_
    refine .fz 4 _ _ _ [] _ k 1 _ rfl (.all _ (by rw [rInts_length]; exact hkl)) ?_
    refine wkx (j - 1, ((x / n : Nat) : Int) :: q, x % n) ⟨⟨by dsimp only; omega, by simp [hql]; omega, ?_, Nat.mod_lt _ hn0, ?_⟩, by dsimp only; omega⟩ fits rfl
    · intro y hy
      rcases List.mem_cons.1 hy with rfl | hy
      · generalize x / n = z at hd9 ⊢; omega
      · exact hqd y hy
    · dsimp only
      rw [drop_getD (ns := a) (k := j - 1) (by omega), show j - 1 + 1 = j by omega, lval, lval, ← hv, ← hi, hcd]
      have hdm := Nat.div_add_mod x n
      have hdm2 : (n : Int) * ((x / n : Nat) : Int) + ((x % n : Nat) : Int) = x := by rw [← Int.natCast_mul, ← Int.natCast_add, hdm]
      rw [Int.add_mul, Int.mul_comm ((x / n : Nat) : Int), Int.mul_assoc]
      generalize lval q * (n : Int) = z at *
      omega
  · have hj0 : j = 0 := by omega
    subst hj0
    refine run ?_
    refine retv ⟨?_, rfl⟩
    rw [List.drop_zero, va] at hv
    have hq0 := lval_nonneg hqd
    obtain ⟨Q, hQ⟩ := Int.eq_ofNat_of_zero_le hq0
    rw [hQ, ← Int.natCast_mul] at hv
    obtain ⟨e1, e2⟩ := (Nat.div_mod_unique hn0).2 (show R + n * Q = m ∧ R < n from ⟨by rw [Nat.mul_comm n Q]; omega, hR⟩)
    have hpd := pd_unique hqd
    rw [hQ, Int.toNat_natCast, hql, Nat.sub_zero] at hpd
    rw [e1, e2, ← hpd]
    rfl
end Go.Proofs.Ytpiihodkonegbaa
/- Walks of the reference of layer 1: Div, Mod. -/
namespace Go.Proofs.Ytpiihodkonegbaa
open Go.XW Go.XW.DU Go.XW.DR
open Go.XW.DI hiding fm body sgn sizeI digs

theorem pd_lod (k v : Nat) (h : (lod v).length ≤ k) : lval (pd k v) = v := by
  refine pd_val ?_
  have h1 := lval_lt (lod_dg v)
  rw [lod_val] at h1
  have h2 := p10_le h
  omega
theorem rDiv_calls (a b : List UInt8) (h : Hp) (ha : a.length ≤ 100000000) (hb : b.length ≤ 100000000) : VCalls Try.prog 31 [vstr a, vstr b] h (fun v h' => v = divV qd a b ∧ h' = h) := by
  refine xc k31 rfl ?_
  refine run ?_
  refine VCalls.use (rformed_calls a _ (by omega)) ?_
  rintro _ _ ⟨rfl, rfl⟩
  unfold divV
  cases hfa : fm a with
  | false => refine run ?_; exact retv ⟨rfl, rfl⟩
  | true =>
    refine run ?_
    refine VCalls.use (rformed_calls b _ (by omega)) ?_
    rintro _ _ ⟨rfl, rfl⟩
    cases hfb : fm b with
    | false => refine run ?_; exact retv ⟨rfl, rfl⟩
    | true =>
      rw [if_pos ⟨rfl, rfl⟩]
      refine run ?_
      refine br_d (fun h0 => ?_) (fun h0 => ?_)
      · refine run ?_
        rw [if_pos h0]
        exact retv ⟨rfl, rfl⟩
      rw [if_neg h0]
      generalize hy : zv a = y
      generalize hz : zv b = z
      obtain rfl : a = en y := hy ▸ en_of_fm hfa
      obtain rfl : b = en z := hz ▸ en_of_fm hfb
      have hz0 : z ≠ 0 := fun hc => h0 ((en_eq0 z).2 hc)
      have h1 := lod_en y
      have h2 := lod_en z
      have h3 := lod_len (Nat.div_le_self y.natAbs z.natAbs)
      refine run ?_
      refine VCalls.use (read_calls y _ (by omega)) ?_
      rintro _ _ ⟨rfl, rfl⟩
      refine run ?_
      refine new_k fun k1 => ?_
      refine run ?_
      refine VCalls.use (read_calls z _ (by omega)) ?_
      rintro _ _ ⟨rfl, rfl⟩
      refine run ?_
      refine new_k fun k2 => ?_
      refine run ?_
      refine VCalls.use (rover_calls y.natAbs z.natAbs _ (by omega) (by omega) (by omega)) ?_
      rintro _ _ ⟨rfl, rfl⟩
      refine run ?_
      refine VCalls.use (trim_calls (decide (y < 0) != decide (z < 0)) _ _ (pd_dg _ _) (by rw [pd_length]; omega)) ?_
      rintro _ _ ⟨rfl, rfl⟩
      rw [pd_lod _ _ h3, show (if (decide (y < 0) != decide (z < 0)) = true then -((y.natAbs / z.natAbs : Nat) : Int) else ((y.natAbs / z.natAbs : Nat) : Int)) = qd y z from rfl]
      have h4 : (qd y z).natAbs = y.natAbs / z.natAbs := by unfold qd; generalize y.natAbs / z.natAbs = w; split <;> omega
      refine run ?_
      refine VCalls.use (write_calls (qd y z) _ (by rw [h4]; omega)) ?_
      rintro _ _ ⟨rfl, rfl⟩
      refine run ?_
      exact ret1 (ret1 (retv ⟨rfl, rfl⟩))
theorem rMod_calls (a b : List UInt8) (h : Hp) (ha : a.length ≤ 100000000) (hb : b.length ≤ 100000000) : VCalls Try.prog 33 [vstr a, vstr b] h (fun v h' => v = divV md a b ∧ h' = h) := by
  refine xc k33 rfl ?_
  refine run ?_
  refine VCalls.use (rformed_calls a _ (by omega)) ?_
  rintro _ _ ⟨rfl, rfl⟩
  unfold divV
  cases hfa : fm a with
  | false => refine run ?_; exact retv ⟨rfl, rfl⟩
  | true =>
    refine run ?_
    refine VCalls.use (rformed_calls b _ (by omega)) ?_
    rintro _ _ ⟨rfl, rfl⟩
    cases hfb : fm b with
    | false => refine run ?_; exact retv ⟨rfl, rfl⟩
    | true =>
      rw [if_pos ⟨rfl, rfl⟩]
      refine run ?_
      refine br_d (fun h0 => ?_) (fun h0 => ?_)
      · refine run ?_
        rw [if_pos h0]
        exact retv ⟨rfl, rfl⟩
      rw [if_neg h0]
      generalize hy : zv a = y
      generalize hz : zv b = z
      obtain rfl : a = en y := hy ▸ en_of_fm hfa
      obtain rfl : b = en z := hz ▸ en_of_fm hfb
      have hz0 : z ≠ 0 := fun hc => h0 ((en_eq0 z).2 hc)
      have h1 := lod_en y
      have h2 := lod_en z
      have h3 := lod_len (Nat.mod_le y.natAbs z.natAbs)
      refine run ?_
      refine VCalls.use (read_calls y _ (by omega)) ?_
      rintro _ _ ⟨rfl, rfl⟩
      refine run ?_
      refine new_k fun k1 => ?_
      refine run ?_
      refine VCalls.use (read_calls z _ (by omega)) ?_
      rintro _ _ ⟨rfl, rfl⟩
      refine run ?_
      refine new_k fun k2 => ?_
      refine run ?_
      refine VCalls.use (rover_calls y.natAbs z.natAbs _ (by omega) (by omega) (by omega)) ?_
      rintro _ _ ⟨rfl, rfl⟩
      refine run ?_
      refine VCalls.use (trim_calls (decide (y < 0)) _ _ (lod_dg _) (by omega)) ?_
      rintro _ _ ⟨rfl, rfl⟩
      rw [lod_val, show (if decide (y < 0) = true then -((y.natAbs % z.natAbs : Nat) : Int) else ((y.natAbs % z.natAbs : Nat) : Int)) = md y z from rfl]
      have h4 : (md y z).natAbs = y.natAbs % z.natAbs := by unfold md; generalize y.natAbs % z.natAbs = w; split <;> omega
      refine run ?_
      refine VCalls.use (write_calls (md y z) _ (by rw [h4]; omega)) ?_
      rintro _ _ ⟨rfl, rfl⟩
      refine run ?_
      exact ret1 (ret1 (retv ⟨rfl, rfl⟩))
end Go.Proofs.Ytpiihodkonegbaa
/- Walks of the package tens: Root. -/
namespace Go.Proofs.Ytpiihodkonegbaa
open Go.XW Go.XW.DU Go.XW.DR
open Go.XW.DI hiding fm body sgn sizeI digs

/-- What is answered of a text whose root is asked for. -/
def rootV (a : List UInt8) : V := if fm a = true then if a.head? = some 45 then .tup [vstr [], int 11] else .tup [vstr (en (rt (zv a).natAbs)), int 0] else .tup [vstr [], int 1]

theorem dc_one : dc 1 = [49] := by
  unfold dc decs
  rw [if_neg (by omega), lod_succ (by omega), show 1 / 10 = 0 from rfl, lod_zero]
  rfl
theorem dc_p10 (k : Nat) : (dc (10 ^ k)).length = k + 1 := by
  induction k with
  | zero => rw [Nat.pow_zero, dc_one]; rfl
  | succ k ih => rw [Nat.pow_succ, Nat.mul_comm, dc_ten (by have := Nat.pow_pos (n := k) (show 0 < 10 by omega); omega), List.length_append, ih]; rfl
theorem p10n (k : Nat) : 0 < 10 ^ k := Nat.pow_pos (by omega)

theorem root_calls (a : List UInt8) (h : Hp) (ha : a.length ≤ 100000000) : VCalls Try.prog 22 [vstr a] h (fun v h' => v = rootV a ∧ h' = h) := by
  refine xc k22 rfl ?_
  refine run ?_
  refine VCalls.use (formed_calls a _ (by omega)) ?_
  rintro _ _ ⟨rfl, rfl⟩
  unfold rootV
  cases hfa : fm a with
  | false => refine run ?_; exact retv ⟨rfl, rfl⟩
  | true =>
    rw [if_pos rfl]
    generalize hy : zv a = y
    obtain rfl : a = en y := hy ▸ en_of_fm hfa
    have hpos : 0 < (en y).length := List.length_pos_iff.2 (en_ne y)
    have h45 := en_head45 y
    refine run ?_
    refine br_d (fun h0 => ?_) (fun h0 => ?_)
    · refine run ?_
      rw [if_pos ((head_en y).2 (h45.1 h0))]
      exact retv ⟨rfl, rfl⟩
    have hy0 : ¬ y < 0 := fun hc => h0 (h45.2 hc)
    rw [if_neg (fun hc => hy0 ((head_en y).1 hc))]
    refine run ?_
    refine br_d (fun h1 => ?_) (fun h1 => ?_)
    · have := (en_eq0 y).1 h1
      subst this
      refine run ?_
      exact retv ⟨rfl, rfl⟩
    have hyn : y ≠ 0 := fun hc => h1 ((en_eq0 y).2 hc)
    obtain ⟨m, rfl⟩ := Int.eq_ofNat_of_zero_le (show 0 ≤ y by omega)
    rw [Int.natAbs_natCast]
    have hen := en_nat m
    have hel : (en (m : Int)).length = (dc m).length := by rw [hen]
    have hm0 : 0 < m := by omega
    have hhigh := dc_high m
    rename_i h
    refine runto 8 ?_
    refine jn (fun _ : Unit => [(0, vstr (en m)), (4, vstr (dc (10 ^ (((dc m).length + 1) / 2))))]) (fun _ => h) (fun _ => True) ?_ ?_
    · refine run ?_
      refine lp (fun i : Nat => [(0, vstr (en m)), (4, vstr (dc (10 ^ i))), (25, int ((((dc m).length : Int) + 1) / 2)), (26, int i)]) (fun _ => h) (fun i => i ≤ ((dc m).length + 1) / 2) (fun i => ((dc m).length + 1) / 2 - i) (wkx 0 (by omega) ?_ rfl) ?_
      · rw [Nat.pow_zero, dc_one]; exact fits
      intro i hi
      have hp := dc_p10 i
      refine run ?_
      refine br_d (fun hc => ?_) (fun hc => ?_)
      · refine run ?_
        refine wkx (i + 1) ⟨by omega, by omega⟩ (by rw [Nat.pow_succ, Nat.mul_comm, dc_ten (by have := p10n i; omega)]; exact fits) rfl
      · have : i = ((dc m).length + 1) / 2 := by omega
        subst this
        refine run ?_
        refine wkx () trivial fits rfl
    rintro _ _
    rw [hen]
    have hr := rt_le_self m
    have hrp := rt_pos hm0
    refine run ?_
    refine lp (fun x : Nat => [(0, vstr (dc m)), (4, vstr (dc x))]) (fun _ => h) (fun x => rt m ≤ x ∧ x ≤ 10 ^ (((dc m).length + 1) / 2)) (fun x => x) (wkx (10 ^ (((dc m).length + 1) / 2)) ⟨?_, Nat.le_refl _⟩ fits rfl) ?_
    · refine Nat.le_of_lt (rt_lt ?_)
      rw [← Nat.pow_add]
      have := Nat.pow_le_pow_right (n := 10) (by omega) (show (dc m).length ≤ ((dc m).length + 1) / 2 + ((dc m).length + 1) / 2 by omega)
      have e : ((10 ^ (dc m).length : Nat) : Int) = (10 : Int) ^ (dc m).length := by simp
      omega
    rintro x ⟨hx1, hx2⟩
    have l1 := dc_mono hx2
    rw [dc_p10] at l1
    have l2 := dc_mono (Nat.div_le_self m x)
    have l3 := rown_dc m
    have l4 := rown_dc x
    have l5 := rown_dc (m / x)
    have l6 := dc_add_len x (m / x)
    have l7 := rown_dc (x + m / x)
    have l8 := dc_mono (Nat.div_le_self (x + m / x) 2)
    have l9 := rown_dc ((x + m / x) / 2)
    refine run ?_
    refine VCalls.use (row_dc _ _ (by omega)) ?_
    rintro _ _ ⟨rfl, rfl⟩
    refine run ?_
    refine VCalls.use (row_dc _ _ (by omega)) ?_
    rintro _ _ ⟨rfl, rfl⟩
    refine run ?_
    refine VCalls.use (over_calls m x _ (by omega) (by omega) (by omega)) ?_
    rintro _ _ ⟨rfl, rfl⟩
    refine run ?_
    refine VCalls.use (written_rown _ _ (by omega)) ?_
    rintro _ _ ⟨rfl, rfl⟩
    refine run ?_
    refine VCalls.use (plus_dc _ _ _ (by omega) (by omega)) ?_
    rintro _ _ ⟨rfl, rfl⟩
    refine run ?_
    refine VCalls.use (row_dc _ _ (by omega)) ?_
    rintro _ _ ⟨rfl, rfl⟩
    refine run ?_
    refine VCalls.use (shared_calls _ 2 _ (rown_gd _) (by omega) (by omega)) ?_
    rintro _ _ ⟨rfl, rfl⟩
    rw [rown_val, show (((x + m / x : Nat) : Int) / 2).toNat = (x + m / x) / 2 by generalize m / x = z; omega]
    refine run ?_
    refine VCalls.use (written_rown _ _ (by omega)) ?_
    rintro _ _ ⟨rfl, rfl⟩
    refine run ?_
    refine VCalls.use (size_calls _ _ _ (by omega) (by omega)) ?_
    rintro _ _ ⟨rfl, rfl⟩
    rw [sizeI_dc]
    refine run ?_
    refine br_d (fun hc => ?_) (fun hc => ?_)
    · have hge : x ≤ (x + m / x) / 2 := by
        generalize (x + m / x) / 2 = z at *
        unfold cmpI at hc; split at hc <;> (try split at hc) <;> omega
      have e := rt_last hx1 (by omega) hge
      refine run ?_
      refine retv ⟨?_, rfl⟩
      rw [← e]; rfl
    · have hlt : (x + m / x) / 2 < x := by
        generalize (x + m / x) / 2 = z at *
        unfold cmpI at hc; split at hc <;> (try split at hc) <;> omega
      refine run ?_
      refine wkx ((x + m / x) / 2) ⟨⟨rt_step hx1 (by omega), by omega⟩, hlt⟩ fits rfl
end Go.Proofs.Ytpiihodkonegbaa
/- Walks of the reference of layer 1 on a row of the caller's own: digit, trim, times. -/
namespace Go.Proofs.Ytpiihodkonegbaa
open Go.XW Go.XW.DU Go.XW.DR
open Go.XW.DI hiding fm body sgn sizeI digs

theorem digit_own (ds : List Int) (n i k : Nat) (h : Hp) (hn : n ≤ ds.length) (hm : ds.length ≤ 1000000000000000) : VCalls Try.prog 68 [.osl 1 k 0 n, int i] ((k, .blk 1 (rInts .i64 ds)) :: h) (fun v h' => v = int ((ds.take n).getD i 0) ∧ h' = (k, .blk 1 (rInts .i64 ds)) :: h) := by
  refine xc k68 rfl ?_
  refine run ?_
  refine br_d (fun hb => ?_) (fun hb => ?_)
  · refine run ?_
    refine retv ⟨?_, rfl⟩
    have : (ds.take n).getD i 0 = ds.getD i 0 := by simp only [List.getD, List.getElem?_take]; rw [if_pos (by omega)]
    rw [this]
    rfl
  · refine run ?_
    refine retv ⟨?_, rfl⟩
    have : (ds.take n).getD i 0 = 0 := by simp only [List.getD, List.getElem?_take]; rw [if_neg (by omega)]; rfl
    rw [this]; rfl

theorem trim_own (ds : List Int) (k : Nat) (h : Hp) (hd : Dg ds) (hm : ds.length ≤ 1000000000000000) : VCalls Try.prog 49 [.agg [vbool false, .osl 1 k 0 ds.length]] ((k, .blk 1 (rInts .i64 ds)) :: h)
    (fun v h' => (v = .agg [vbool false, .osl 1 k 0 (lod (lval ds).toNat).length] ∧ ds.take (lod (lval ds).toNat).length = lod (lval ds).toNat) ∧ h' = (k, .blk 1 (rInts .i64 ds)) :: h) := by
  refine xc k49 rfl ?_
  refine run ?_
  refine new_k fun k1 => ?_
  refine run ?_
  refine new_k fun k2 => ?_
  refine runto 2 ?_
  refine jn (fun n : Nat => [(1, .ptr 2 k1 0 0), (2, .ptr 2 k2 0 0), (3, int n)]) (fun _ => (k2, .blk 2 [[vbool false, vnil]]) :: (k1, .blk 2 [[vbool false, .osl 1 k 0 ds.length]]) :: (k, .blk 1 (rInts .i64 ds)) :: h) (fun n => n ≤ ds.length ∧ ds.take n = lod (lval ds).toNat) ?_ ?_
  · refine run ?_
    refine lp (fun n : Nat => [(1, .ptr 2 k1 0 0), (2, .ptr 2 k2 0 0), (3, int n)]) (fun _ => (k2, .blk 2 [[vbool false, vnil]]) :: (k1, .blk 2 [[vbool false, .osl 1 k 0 ds.length]]) :: (k, .blk 1 (rInts .i64 ds)) :: h) (fun n => n ≤ ds.length ∧ lval (ds.take n) = lval ds) (fun n => n) (wkx ds.length ⟨by omega, by rw [List.take_of_length_le (Nat.le_refl _)]⟩ fits rfl) ?_
    rintro n ⟨hn, hv⟩
    have key : ¬ (0 < n ∧ ds.getD (n - 1) 0 = 0) → ds.take n = lod (lval ds).toNat := fun hh => lod_trim hd hn hv (by by_cases h0 : n = 0; exact .inl h0; exact .inr fun he => hh ⟨by omega, he⟩)
    have hi : ((n : Int) - 1).toNat = n - 1 := by omega
    refine run ?_
    refine br_d (fun hb => ?_) (fun hb => ?_)
    · refine run ?_
      refine br_d (fun hc => ?_) (fun hc => ?_)
      · refine run ?_
        refine wkx (n - 1) ⟨⟨by omega, ?_⟩, by omega⟩ fits rfl
        simp only [hi] at hc
        rw [← hv, show n = (n - 1) + 1 by omega, lval_take0 (by omega) hc]
        rfl
      · refine run ?_
        refine wkx n ⟨by omega, key fun hh => hc (by simp only [hi]; exact hh.2)⟩ fits rfl
    · refine run ?_
      refine wkx n ⟨by omega, key fun hh => hb (by omega)⟩ fits rfl
  rintro n ⟨hn, hk⟩
  have hll : (lod (lval ds).toNat).length = n := by rw [← hk]; simp; omega
  refine run ?_
  refine ret1 (ret1 (retv ⟨⟨?_, ?_⟩, rfl⟩))
  · rw [hll]; rfl
  · rw [hll, hk]

theorem trim_ownL (ds : List Int) (k L : Nat) (h : Hp) (hL : ds.length = L) (hd : Dg ds) (hm : ds.length ≤ 1000000000000000) : VCalls Try.prog 49 [.agg [vbool false, .osl 1 k 0 L]] ((k, .blk 1 (rInts .i64 ds)) :: h)
    (fun v h' => (v = .agg [vbool false, .osl 1 k 0 (lod (lval ds).toNat).length] ∧ ds.take (lod (lval ds).toNat).length = lod (lval ds).toNat) ∧ h' = (k, .blk 1 (rInts .i64 ds)) :: h) := by
  subst hL; exact trim_own ds k h hd hm
theorem rsquare_own (m : Nat) (ds : List Int) (k : Nat) (h : Hp) (ht : ds.take (lod m).length = lod m) (hl : (lod m).length ≤ ds.length) (hm : ds.length ≤ 10000000000) : VCalls Try.prog 55 [.agg [vbool false, .osl 1 k 0 (lod m).length], .agg [vbool false, .osl 1 k 0 (lod m).length]] ((k, .blk 1 (rInts .i64 ds)) :: h)
    (fun v h' => v = numV ((m * m : Nat) : Int) ∧ h' = (k, .blk 1 (rInts .i64 ds)) :: h) := by
  have da := lod_dg m
  have va := lod_val m
  have hg : ∀ i, i < (lod m).length → ds.getD i 0 = (lod m).getD i 0 := fun i hi => by
    rw [← ht] at hi ⊢
    simp only [List.getD, List.getElem?_take]; rw [if_pos (by simp at hi; omega)]
  generalize lod m = a at *
  refine xc k55 rfl ?_
  refine run ?_
  refine new_k fun k1 => ?_
  refine run ?_
  refine new_k fun k2 => ?_
  refine run ?_
  refine new_k fun k3 => ?_
  refine run ?_
  refine new_k fun k4 => ?_
  refine run ?_
  refine lp (fun x : Nat × List Int => [(2, .ptr 2 k1 0 0), (3, .ptr 2 k2 0 0), (4, .ptr 2 k3 0 0), (5, .osl 1 k4 0 (a.length + a.length + 1)), (6, int x.1)])
    (fun x => (k, .blk 1 (rInts .i64 ds)) :: (k4, .blk 1 (rInts .i64 x.2)) :: (k3, .blk 2 [[vbool false, vnil]]) :: (k2, .blk 2 [[vbool false, .osl 1 k 0 a.length]]) :: (k1, .blk 2 [[vbool false, .osl 1 k 0 a.length]]) :: h)
    (fun x => TimI a a x.1 x.2) (fun x => a.length - x.1) (.perm _ _ _ (List.perm_middle (l₁ := [_, _, _, _])).symm (wkx (0, List.replicate (a.length + a.length + 1) 0) (TimI.zero a a) fits ?_)) ?_
  · rw [show ((a.length : Int) + a.length + 1).toNat = a.length + a.length + 1 by omega]
    rfl
  rintro ⟨i, l⟩ hI
  dsimp only at *
  have hlen := hI.len
  have hle := hI.le
  refine run ?_
  refine br_d (fun hb1 => ?_) (fun hb1 => ?_)
  · refine run ?_
    refine lp (fun x : Nat × Int × List Int => [(2, .ptr 2 k1 0 0), (3, .ptr 2 k2 0 0), (4, .ptr 2 k3 0 0), (5, .osl 1 k4 0 (a.length + a.length + 1)), (6, int i), (7, int x.2.1), (8, int x.1)])
      (fun x => (k, .blk 1 (rInts .i64 ds)) :: (k4, .blk 1 (rInts .i64 x.2.2)) :: (k3, .blk 2 [[vbool false, vnil]]) :: (k2, .blk 2 [[vbool false, .osl 1 k 0 a.length]]) :: (k1, .blk 2 [[vbool false, .osl 1 k 0 a.length]]) :: h)
      (fun x => TimJ a a i x.1 x.2.1 x.2.2) (fun x => a.length + a.length + 1 - x.1) (wkx (0, 0, l) (TimJ.zero hI (by omega)) fits rfl) ?_
    rintro ⟨j, c, l2⟩ hJ
    dsimp only at *
    have hlen2 := hJ.len
    have hik := hJ.ik
    have hc := hJ.c1
    refine run ?_
    refine br_d (fun hb2 => ?_) (fun hb2 => ?_)
    · obtain ⟨hd, hst⟩ := hJ.step da da (by omega) (d := l2.getD (i + j) 0 + a.getD i 0 * a.getD j 0 + c) rfl
      have x1 := dg_getD hJ.dg (i + j)
      have x2 := dg_getD da i
      have x3 := dg_getD da j
      have x4 : 0 ≤ a.getD i 0 * a.getD j 0 := Int.mul_nonneg x2.1 x3.1
      have x5 : a.getD i 0 * a.getD j 0 ≤ 9 * 9 := Int.mul_le_mul x2.2 x3.2 x3.1 (by omega)
      have hikn : ((i : Int) + (j : Int)).toNat = i + j := by omega
      rw [← hikn] at x1
      have hgi := hg i (by omega)
      rw [← hgi] at x2 x4 x5 hst hd
      refine run ?_
      refine .mk _ (digit_own ds a.length j k _ (by omega) (by omega)) ?_
      rw [ht]
      refine run ?_
      rw [← hikn] at hst
      refine wkx (j + 1, _, _) ⟨hst, by dsimp only; omega⟩ fits rfl
    · refine run ?_
      refine wkx (i + 1, l2) ⟨hJ.done da da (by omega) (by omega), by dsimp only; omega⟩ fits rfl
  · have hv := hI.done (by omega)
    refine run ?_
    refine VCalls.fz [(k, .blk 1 (rInts .i64 ds))] (.cons _ _ _ _ (.agg _ _ _ _ (.same _) (.agg _ _ _ _ (.all _ (by rw [rInts_length]; exact hlen)) .agg0)) .nil) ?_
    refine VCalls.use (trim_calls _ l _ hI.dg (by omega)) ?_
    rintro _ _ ⟨rfl, rfl⟩
    have hs : (if (false != false) = true then - lval l else lval l) = ((m * m : Nat) : Int) := by
      rw [hv, va]; simp
    rw [hs, List.cons_append, List.nil_append]
    refine run ?_
    refine .perm _ _ _ (List.perm_middle (l₁ := [_, _, _]) (l₂ := h)) (ret1 (ret1 (ret1 (retv ⟨rfl, rfl⟩))))
end Go.Proofs.Ytpiihodkonegbaa
/- Walks of the reference of layer 1: Root. -/
namespace Go.Proofs.Ytpiihodkonegbaa
open Go.XW Go.XW.DU Go.XW.DR
open Go.XW.DI hiding fm body sgn sizeI digs

theorem numV_nat (n : Nat) : numV (n : Int) = .agg [vbool false, .row 1 (rInts .i64 (lod n))] := by
  unfold numV numD
  rw [decide_eq_false (by omega), Int.natAbs_natCast]
theorem decs_lod (n : Nat) : (decs n).length ≤ (lod n).length + 1 := by
  unfold decs; split
  · simp
  · simp
theorem lod_mul_len2 (m n : Nat) : (lod (m * n)).length ≤ (lod m).length + (lod n).length + 2 := by
  have h1 := lod_decs (m * n)
  have h2 := lod_decs m
  have h4 := lod_decs n
  have h5 := decs_lod m
  have h6 := decs_lod n
  have h3 := dc_mul_len m n
  rw [dc_length, dc_length, dc_length] at h3
  omega
theorem rRoot_calls (a : List UInt8) (h : Hp) (ha : a.length ≤ 100000000) : VCalls Try.prog 23 [vstr a] h (fun v h' => v = rootV a ∧ h' = h) := by
  refine xc k23 rfl ?_
  refine run ?_
  refine VCalls.use (rformed_calls a _ (by omega)) ?_
  rintro _ _ ⟨rfl, rfl⟩
  unfold rootV
  cases hfa : fm a with
  | false => refine run ?_; exact retv ⟨rfl, rfl⟩
  | true =>
    rw [if_pos rfl]
    generalize hy : zv a = y
    obtain rfl : a = en y := hy ▸ en_of_fm hfa
    have hpos : 0 < (en y).length := List.length_pos_iff.2 (en_ne y)
    have h45 := en_head45 y
    refine run ?_
    refine br_d (fun h0 => ?_) (fun h0 => ?_)
    · refine run ?_
      rw [if_pos ((head_en y).2 (h45.1 h0))]
      exact retv ⟨rfl, rfl⟩
    have hy0 : ¬ y < 0 := fun hc => h0 (h45.2 hc)
    rw [if_neg (fun hc => hy0 ((head_en y).1 hc))]
    obtain ⟨m, rfl⟩ := Int.eq_ofNat_of_zero_le (show 0 ≤ y by omega)
    rw [Int.natAbs_natCast]
    have hml := lod_en m
    rw [Int.natAbs_natCast] at hml
    refine run ?_
    refine VCalls.use (read_calls m _ (by omega)) ?_
    rintro _ _ ⟨rfl, rfl⟩
    rename_i h
    have hnum : numV (m : Int) = .agg [vbool false, .row 1 (rInts .i64 (lod m))] := by
      unfold numV numD
      rw [decide_eq_false (by omega), Int.natAbs_natCast]
    rw [hnum]
    refine run ?_
    refine new_k fun kx => ?_
    refine run ?_
    refine new_k fun k => ?_
    generalize hL : (lod m).length / 2 + 1 = L
    have hl0 : ((lod m).length : Int) / 2 + 1 = L := by omega
    refine runto 7 ?_
    refine jn (fun ds : List Int => [(5, .osl 1 k 0 L)]) (fun ds => (k, .blk 1 (rInts .i64 ds)) :: (kx, .blk 2 [[vbool false, .row 1 (rInts .i64 (lod m))]]) :: h) (fun ds => RtI m L 0 ds) ?_ ?_
    · refine run ?_
      refine lp (fun x : Nat × List Int => [(4, .ptr 2 kx 0 0), (5, .osl 1 k 0 L), (6, int ((x.1 : Int) - 1))]) (fun x => (k, .blk 1 (rInts .i64 x.2)) :: (kx, .blk 2 [[vbool false, .row 1 (rInts .i64 (lod m))]]) :: h) (fun x => RtI m L x.1 x.2) (fun x => x.1)
        (wkx (L, List.replicate L 0) (RtI.zero (by omega)) fits ?_) ?_
      · rw [hl0]; rfl
      rintro ⟨j, ds⟩ hI
      dsimp only at *
      have hlen := hI.len
      have hle := hI.le
      refine run ?_
      refine br_d (fun hb => ?_) (fun hb => ?_)
      · have hj : 0 < j := by omega
        have hi : ((j : Int) - 1).toNat = j - 1 := by omega
        refine runto 10 ?_
        refine jn (fun _ : List Int => [(4, .ptr 2 kx 0 0), (5, .osl 1 k 0 L), (6, int ((j : Int) - 1))]) (fun es => (k, .blk 1 (rInts .i64 es)) :: (kx, .blk 2 [[vbool false, .row 1 (rInts .i64 (lod m))]]) :: h) (fun es => RtI m L (j - 1) es) ?_ ?_
        · refine run ?_
          refine lp (fun d : Nat => [(4, .ptr 2 kx 0 0), (5, .osl 1 k 0 L), (6, int ((j : Int) - 1)), (7, int d)]) (fun _ => (k, .blk 1 (rInts .i64 ds)) :: (kx, .blk 2 [[vbool false, .row 1 (rInts .i64 (lod m))]]) :: h) (fun d => RtD m j ds d) (fun d => d) (wkx 9 (hI.nine hj) fits rfl) ?_
          intro d hD
          have hd9 := hD.1
          refine run ?_
          refine br_d (fun hc => ?_) (fun hc => ?_)
          · refine run ?_
            rw [hi]
            have hdg : Dg (ds.set (j - 1) d) := hI.dg.set _ (by omega)
            have hlen' : (ds.set (j - 1) (d : Int)).length = L := by simp [hlen]
            have hback := hI.back (d := d) hj
            have hsm := hI.small (d := d) hj
            have hset := hI.set hj hD
            obtain ⟨R, hR⟩ := Int.eq_ofNat_of_zero_le (lval_nonneg hdg)
            refine VCalls.use (trim_ownL _ _ _ _ hlen' hdg (by omega)) ?_
            generalize ds.set (j - 1) (d : Int) = es at *
            rw [hR, Int.toNat_natCast]
            rintro _ _ ⟨⟨rfl, hte⟩, rfl⟩
            have hRl : (lod R).length ≤ es.length := by rw [← hte]; simp; omega
            have hRR := lod_mul_len2 R R
            refine run ?_
            refine new_k fun k8 => ?_
            refine run ?_
            refine VCalls.use (.perm (List.Perm.swap _ _ _) (rsquare_own R es k _ hte hRl (by omega))) ?_
            rintro _ _ ⟨rfl, rfl⟩
            rw [numV_nat]
            refine run ?_
            refine new_k fun k9 => ?_
            refine run ?_
            refine VCalls.use (rsize_calls _ _ _ (by omega) (by omega)) ?_
            rintro _ _ ⟨rfl, rfl⟩
            refine run ?_
            refine br_d (fun hc2 => ?_) (fun hc2 => ?_)
            · have hle2 : (R : Int) * R ≤ m := by
                rw [← Int.natCast_mul]
                unfold cmpI at hc2; split at hc2 <;> (try split at hc2) <;> omega
              refine run ?_
              refine wkl es (hset (by rw [hR]; exact hle2)) fits (.cons _ (.cons_cons _ (.cons _ (.refl _))))
            · have hgt : (m : Int) < (lval ds + 10 ^ (j - 1) * d) * (lval ds + 10 ^ (j - 1) * d) := by
                rw [← hsm, hR, ← Int.natCast_mul]
                unfold cmpI at hc2; split at hc2 <;> (try split at hc2) <;> omega
              refine run ?_
              rw [hi, hback]
              refine wkl (d - 1) ⟨hD.less (by omega) hgt, by omega⟩ fits (.cons _ (.cons_cons _ (.cons _ (.refl _))))
          · obtain rfl : d = 0 := by omega
            refine run ?_
            refine wkx ds (hI.none hj hD) fits rfl
        · rintro es hE
          refine run ?_
          refine wkx (j - 1, es) ⟨hE, by dsimp only; omega⟩ fits rfl
      · obtain rfl : j = 0 := by omega
        refine run ?_
        refine wkx ds hI fits rfl
    · rintro ds hI
      have hlen := hI.len
      refine run ?_
      refine VCalls.fz0 (.cons _ _ _ _ (.agg _ _ _ _ (.same _) (.agg _ _ _ _ (.all _ (by rw [rInts_length]; exact hlen)) .agg0)) .nil) ?_
      refine VCalls.use (trim_calls false ds _ hI.dg (by omega)) ?_
      rintro _ _ ⟨rfl, rfl⟩
      have hl := lod_len (rt_le_self m)
      rw [hI.done, show (if false = true then -((rt m : Nat) : Int) else ((rt m : Nat) : Int)) = (rt m : Nat) from rfl]
      refine run ?_
      refine VCalls.use (write_calls (rt m : Nat) _ (by rw [Int.natAbs_natCast]; omega)) ?_
      rintro _ _ ⟨rfl, rfl⟩
      refine run ?_
      exact ret1 (retv ⟨rfl, rfl⟩)
end Go.Proofs.Ytpiihodkonegbaa
/- Walks of the statements of layer 1: what they share, and the examples. -/
namespace Go.Proofs.Ytpiihodkonegbaa
open Go.XW Go.XW.DU Go.XW.DR
open Go.XW.DI hiding fm body sgn sizeI digs

theorem lit {a : List UInt8} (h : fm a = true) {z : Int} (hz : zv a = z) : a = en z := by rw [← hz]; exact en_of_fm h
theorem binV_lit {f : Int → Int → Int} {a b c : List UInt8} (ha : fm a = true) (hb : fm b = true) (hc : fm c = true) (h : f (zv a) (zv b) = zv c) : binV f a b = .tup [vstr c, int 0] := by
  rw [binV, if_pos ⟨ha, hb⟩, h, ← en_of_fm hc]
theorem divV_lit {f : Int → Int → Int} {a b c : List UInt8} (ha : fm a = true) (hb : fm b = true) (h0 : b ≠ [48]) (hc : fm c = true) (h : f (zv a) (zv b) = zv c) : divV f a b = .tup [vstr c, int 0] := by
  rw [divV, if_pos ⟨ha, hb⟩, if_neg h0, h, ← en_of_fm hc]
/-- What is answered, without the error's number. -/
def onV (f : Int → Int → Int) (a b : List UInt8) : List UInt8 := if fm a = true ∧ fm b = true then en (f (zv a) (zv b)) else []
theorem onV_en (f : Int → Int → Int) (y z : Int) : onV f (en y) (en z) = en (f y z) := by rw [onV, if_pos ⟨fm_en y, fm_en z⟩, zv_en, zv_en]
theorem onV_lit {f : Int → Int → Int} {a b c : List UInt8} (ha : fm a = true) (hb : fm b = true) (hc : fm c = true) (h : f (zv a) (zv b) = zv c) : onV f a b = c := by
  rw [onV, if_pos ⟨ha, hb⟩, h, ← en_of_fm hc]

theorem sum_calls (a b : List UInt8) (h : Hp) (ha : a.length ≤ 100000000) (hb : b.length ≤ 100000000) : VCalls Try.prog 34 [vstr a, vstr b] h (fun v h' => v = vstr (onV (fun y z => y + z) a b) ∧ h' = h) := by
  refine xc k34 rfl ?_
  refine run ?_
  refine VCalls.use (add_calls a b _ (by omega) (by omega)) ?_
  rintro _ _ ⟨rfl, rfl⟩
  unfold binV onV
  by_cases hc : fm a = true ∧ fm b = true
  · rw [if_pos hc, if_pos hc]
    refine run ?_
    exact retv ⟨rfl, rfl⟩
  · rw [if_neg hc, if_neg hc]
    refine run ?_
    exact retv ⟨rfl, rfl⟩
theorem diff_calls (a b : List UInt8) (h : Hp) (ha : a.length ≤ 100000000) (hb : b.length ≤ 100000000) : VCalls Try.prog 35 [vstr a, vstr b] h (fun v h' => v = vstr (onV (fun y z => y - z) a b) ∧ h' = h) := by
  refine xc k35 rfl ?_
  refine run ?_
  refine VCalls.use (sub_calls a b _ (by omega) (by omega)) ?_
  rintro _ _ ⟨rfl, rfl⟩
  unfold binV onV
  by_cases hc : fm a = true ∧ fm b = true
  · rw [if_pos hc, if_pos hc]
    refine run ?_
    exact retv ⟨rfl, rfl⟩
  · rw [if_neg hc, if_neg hc]
    refine run ?_
    exact retv ⟨rfl, rfl⟩
theorem prod_calls (a b : List UInt8) (h : Hp) (ha : a.length ≤ 100000000) (hb : b.length ≤ 100000000) : VCalls Try.prog 36 [vstr a, vstr b] h (fun v h' => v = vstr (onV (fun y z => y * z) a b) ∧ h' = h) := by
  refine xc k36 rfl ?_
  refine run ?_
  refine VCalls.use (mul_calls a b _ (by omega) (by omega)) ?_
  rintro _ _ ⟨rfl, rfl⟩
  unfold binV onV
  by_cases hc : fm a = true ∧ fm b = true
  · rw [if_pos hc, if_pos hc]
    refine run ?_
    exact retv ⟨rfl, rfl⟩
  · rw [if_neg hc, if_neg hc]
    refine run ?_
    exact retv ⟨rfl, rfl⟩
theorem three_calls (a b c : List UInt8) (h : Hp) (ha : a.length ≤ 100000000) (hb : b.length ≤ 100000000) (hc : c.length ≤ 100000000) : VCalls Try.prog 38 [vstr a, vstr b, vstr c] h (fun v h' => v = vbool (fm a && fm b && fm c) ∧ h' = h) := by
  refine xc k38 rfl ?_
  refine run ?_
  refine VCalls.use (rformed_calls a _ (by omega)) ?_
  rintro _ _ ⟨rfl, rfl⟩
  cases hfa : fm a with
  | false => refine run ?_; exact retv ⟨rfl, rfl⟩
  | true =>
    refine run ?_
    refine VCalls.use (rformed_calls b _ (by omega)) ?_
    rintro _ _ ⟨rfl, rfl⟩
    cases hfb : fm b with
    | false => refine run ?_; exact retv ⟨rfl, rfl⟩
    | true =>
      refine run ?_
      refine VCalls.use (rformed_calls c _ (by omega)) ?_
      rintro _ _ ⟨rfl, rfl⟩
      refine run ?_
      exact retv ⟨rfl, rfl⟩
theorem same_calls (a b : List UInt8) (x y : Int) (h : Hp) : VCalls Try.prog 19 [vstr a, int x, vstr b, int y] h (fun v h' => v = vbool (decide (a = b ∧ x = y)) ∧ h' = h) := by
  refine xc k19 rfl ?_
  refine run ?_
  refine br_d (fun hc => ?_) (fun hc => ?_)
  · refine run ?_
    refine retv ⟨?_, rfl⟩
    simp [hc]; rfl
  · refine run ?_
    refine retv ⟨?_, rfl⟩
    simp [hc]; rfl
theorem known_calls (h : Hp) : VCalls Try.prog 9 [] h (fun v h' => v = vbool true ∧ h' = h) := by
  refine xc k9 rfl ?_
  refine run ?_
  refine VCalls.use (sum_calls [57, 57, 57] [49] _ (by decide) (by decide)) ?_
  rintro _ _ ⟨rfl, rfl⟩
  rw [onV_lit (c := [49, 48, 48, 48]) (by decide) (by decide) (by decide) (by decide)]
  refine run ?_
  refine br_ndf rfl ?_
  refine run ?_
  refine VCalls.use (sum_calls [45, 53] [53] _ (by decide) (by decide)) ?_
  rintro _ _ ⟨rfl, rfl⟩
  rw [onV_lit (c := [48]) (by decide) (by decide) (by decide) (by decide)]
  refine run ?_
  refine br_ndf rfl ?_
  refine run ?_
  refine VCalls.use (diff_calls [49] [49, 48, 48, 48] _ (by decide) (by decide)) ?_
  rintro _ _ ⟨rfl, rfl⟩
  rw [onV_lit (c := [45, 57, 57, 57]) (by decide) (by decide) (by decide) (by decide)]
  refine run ?_
  refine br_ndf rfl ?_
  refine run ?_
  refine VCalls.use (prod_calls [45, 49, 50] [49, 50] _ (by decide) (by decide)) ?_
  rintro _ _ ⟨rfl, rfl⟩
  rw [onV_lit (c := [45, 49, 52, 52]) (by decide) (by decide) (by decide) (by decide)]
  refine run ?_
  refine br_ndf rfl ?_
  refine run ?_
  refine VCalls.use (div_calls [45, 55] [50] _ (by decide) (by decide)) ?_
  rintro _ _ ⟨rfl, rfl⟩
  rw [divV_lit (c := [45, 51]) (by decide) (by decide) (by decide) (by decide) (by decide)]
  refine run ?_
  refine VCalls.use (mod_calls [45, 55] [50] _ (by decide) (by decide)) ?_
  rintro _ _ ⟨rfl, rfl⟩
  rw [divV_lit (c := [45, 49]) (by decide) (by decide) (by decide) (by decide) (by decide)]
  refine run ?_
  refine VCalls.use (root_calls [49, 48, 48, 48, 48, 48, 48, 48, 48, 48, 48, 48, 48, 48, 48, 48, 48, 48, 48, 48, 48] _ (by decide)) ?_
  rintro _ _ ⟨rfl, rfl⟩
  have hr : rootV [49, 48, 48, 48, 48, 48, 48, 48, 48, 48, 48, 48, 48, 48, 48, 48, 48, 48, 48, 48, 48] = .tup [vstr [49, 48, 48, 48, 48, 48, 48, 48, 48, 48, 48], int 0] := by
    rw [rootV, if_pos (by decide), if_neg (by decide)]
    have e : zv [49, 48, 48, 48, 48, 48, 48, 48, 48, 48, 48, 48, 48, 48, 48, 48, 48, 48, 48, 48, 48] = 100000000000000000000 := by decide
    have e2 : rt 100000000000000000000 = 10000000000 := (rt_unique (r := 10000000000) (by decide) (by decide)).symm
    rw [e, show (100000000000000000000 : Int).natAbs = 100000000000000000000 from rfl, e2, ← lit (a := [49, 48, 48, 48, 48, 48, 48, 48, 48, 48, 48]) (by decide) (by decide)]
  rw [hr]
  refine run ?_
  refine br_ndf rfl ?_
  refine run ?_
  refine br_ndf rfl ?_
  refine run ?_
  refine br_ndf rfl ?_
  refine run ?_
  refine VCalls.use (div_calls [49] [48] _ (by decide) (by decide)) ?_
  rintro _ _ ⟨rfl, rfl⟩
  rw [divV, if_pos (by decide), if_pos rfl]
  refine run ?_
  refine VCalls.use (root_calls [45, 49] _ (by decide)) ?_
  rintro _ _ ⟨rfl, rfl⟩
  rw [rootV, if_pos (by decide), if_pos (by decide)]
  refine run ?_
  refine VCalls.use (add_calls [49] [48, 49] _ (by decide) (by decide)) ?_
  rintro _ _ ⟨rfl, rfl⟩
  rw [binV, if_neg (by decide)]
  refine run ?_
  refine VCalls.use (formed_calls [45, 48] _ (by decide)) ?_
  rintro _ _ ⟨rfl, rfl⟩
  refine run ?_
  exact retv ⟨rfl, rfl⟩
end Go.Proofs.Ytpiihodkonegbaa
/- The statements of layer 1 on one and on two numbers. -/
namespace Go.Proofs.Ytpiihodkonegbaa
open Go.XW Go.XW.DU Go.XW.DR
open Go.XW.DI hiding fm body sgn sizeI digs

theorem unV_tup (f : Int → Int) (a : List UInt8) : ∃ x y, unV f a = .tup [vstr x, int y] := by unfold unV; split <;> exact ⟨_, _, rfl⟩
theorem binV_tup (f : Int → Int → Int) (a b : List UInt8) : ∃ x y, binV f a b = .tup [vstr x, int y] := by unfold binV; split <;> exact ⟨_, _, rfl⟩
theorem divV_tup (f : Int → Int → Int) (a b : List UInt8) : ∃ x y, divV f a b = .tup [vstr x, int y] := by
  unfold divV; split
  · split <;> exact ⟨_, _, rfl⟩
  · exact ⟨_, _, rfl⟩
theorem rootV_tup (a : List UInt8) : ∃ x y, rootV a = .tup [vstr x, int y] := by
  unfold rootV; split
  · split <;> exact ⟨_, _, rfl⟩
  · exact ⟨_, _, rfl⟩
theorem same_refl (a : List UInt8) (x : Int) (h : Hp) : VCalls Try.prog 19 [vstr a, int x, vstr a, int x] h (fun v h' => v = vbool true ∧ h' = h) := by
  have := same_calls a a x x h
  rw [show decide (a = a ∧ x = x) = true by simp] at this
  exact this
theorem one_calls (a : List UInt8) (h : Hp) (ha : a.length ≤ 100000000) : VCalls Try.prog 7 [vstr a] h (fun v h' => v = vbool true ∧ h' = h) := by
  refine xc k7 rfl ?_
  refine run ?_
  refine VCalls.use (neg_calls a _ (by omega)) ?_
  rintro _ _ ⟨rfl, rfl⟩
  obtain ⟨x, y, e⟩ := unV_tup (fun z => -z) a
  rw [e]
  refine run ?_
  refine VCalls.use (rneg_calls a _ (by omega)) ?_
  rintro _ _ ⟨rfl, rfl⟩
  rw [e]
  refine run ?_
  refine VCalls.use (same_refl x y _) ?_
  rintro _ _ ⟨rfl, rfl⟩
  refine run ?_
  refine VCalls.use (abs_calls a _ (by omega)) ?_
  rintro _ _ ⟨rfl, rfl⟩
  clear e
  obtain ⟨x, y, e⟩ := unV_tup (fun z => z.natAbs) a
  rw [e]
  refine run ?_
  refine VCalls.use (rabs_calls a _ (by omega)) ?_
  rintro _ _ ⟨rfl, rfl⟩
  rw [e]
  refine run ?_
  refine VCalls.use (same_refl x y _) ?_
  rintro _ _ ⟨rfl, rfl⟩
  refine run ?_
  refine VCalls.use (neg_calls [55] _ (by decide)) ?_
  rintro _ _ ⟨rfl, rfl⟩
  have e7 : unV (fun z => -z) [55] = .tup [vstr [45, 55], int 0] := by
    rw [unV, if_pos (by decide), ← lit (a := [45, 55]) (by decide) (by decide)]
  rw [e7]
  refine run ?_
  refine VCalls.use (same_refl [45, 55] 0 _) ?_
  rintro _ _ ⟨rfl, rfl⟩
  refine run ?_
  refine br_d (fun hc => ?_) (fun hc => ?_)
  · refine run ?_
    refine VCalls.use (same_refl [45, 55] 0 _) ?_
    rintro _ _ ⟨rfl, rfl⟩
    refine run ?_
    exact retv ⟨rfl, rfl⟩
  refine run ?_
  refine VCalls.use (root_calls a _ (by omega)) ?_
  rintro _ _ ⟨rfl, rfl⟩
  clear e
  obtain ⟨x, y, e⟩ := rootV_tup a
  rw [e]
  refine run ?_
  refine VCalls.use (rRoot_calls a _ (by omega)) ?_
  rintro _ _ ⟨rfl, rfl⟩
  rw [e]
  refine run ?_
  refine VCalls.use (same_refl x y _) ?_
  rintro _ _ ⟨rfl, rfl⟩
  refine run ?_
  exact retv ⟨rfl, rfl⟩
theorem two_calls (a b : List UInt8) (h : Hp) (ha : a.length ≤ 9223372036854775807) (hb : b.length ≤ 9223372036854775807) : VCalls Try.prog 8 [vstr a, vstr b] h (fun v h' => v = vbool true ∧ h' = h) := by
  refine xc k8 rfl ?_
  refine run ?_
  refine br_d (fun h1 => ?_) (fun h1 => ?_)
  · refine run ?_
    refine VCalls.use (known_calls _) ?_
    rintro _ _ ⟨rfl, rfl⟩
    refine run ?_
    exact retv ⟨rfl, rfl⟩
  refine run ?_
  refine br_d (fun h2 => ?_) (fun h2 => ?_)
  · refine run ?_
    refine VCalls.use (known_calls _) ?_
    rintro _ _ ⟨rfl, rfl⟩
    refine run ?_
    exact retv ⟨rfl, rfl⟩
  refine run ?_
  refine VCalls.use (add_calls a b _ (by omega) (by omega)) ?_
  rintro _ _ ⟨rfl, rfl⟩
  obtain ⟨x, y, e⟩ := binV_tup (fun y z => y + z) a b
  rw [e]
  refine run ?_
  refine VCalls.use (rAdd_calls a b _ (by omega) (by omega)) ?_
  rintro _ _ ⟨rfl, rfl⟩
  rw [e]
  refine run ?_
  refine VCalls.use (same_refl x y _) ?_
  rintro _ _ ⟨rfl, rfl⟩
  clear e
  refine run ?_
  refine VCalls.use (sub_calls a b _ (by omega) (by omega)) ?_
  rintro _ _ ⟨rfl, rfl⟩
  obtain ⟨x, y, e⟩ := binV_tup (fun y z => y - z) a b
  rw [e]
  refine run ?_
  refine VCalls.use (rSub_calls a b _ (by omega) (by omega)) ?_
  rintro _ _ ⟨rfl, rfl⟩
  rw [e]
  refine run ?_
  refine VCalls.use (same_refl x y _) ?_
  rintro _ _ ⟨rfl, rfl⟩
  clear e
  refine run ?_
  refine VCalls.use (mul_calls a b _ (by omega) (by omega)) ?_
  rintro _ _ ⟨rfl, rfl⟩
  obtain ⟨x, y, e⟩ := binV_tup (fun y z => y * z) a b
  rw [e]
  refine run ?_
  refine VCalls.use (rMul_calls a b _ (by omega) (by omega)) ?_
  rintro _ _ ⟨rfl, rfl⟩
  rw [e]
  refine run ?_
  refine VCalls.use (same_refl x y _) ?_
  rintro _ _ ⟨rfl, rfl⟩
  clear e
  refine run ?_
  refine VCalls.use (div_calls a b _ (by omega) (by omega)) ?_
  rintro _ _ ⟨rfl, rfl⟩
  obtain ⟨x, y, e⟩ := divV_tup (qd) a b
  rw [e]
  refine run ?_
  refine VCalls.use (rDiv_calls a b _ (by omega) (by omega)) ?_
  rintro _ _ ⟨rfl, rfl⟩
  rw [e]
  refine run ?_
  refine VCalls.use (same_refl x y _) ?_
  rintro _ _ ⟨rfl, rfl⟩
  clear e
  refine run ?_
  refine VCalls.use (mod_calls a b _ (by omega) (by omega)) ?_
  rintro _ _ ⟨rfl, rfl⟩
  obtain ⟨x, y, e⟩ := divV_tup (md) a b
  rw [e]
  refine run ?_
  refine VCalls.use (rMod_calls a b _ (by omega) (by omega)) ?_
  rintro _ _ ⟨rfl, rfl⟩
  rw [e]
  refine run ?_
  refine VCalls.use (same_refl x y _) ?_
  rintro _ _ ⟨rfl, rfl⟩
  clear e
  refine run ?_
  refine VCalls.use (known_calls _) ?_
  rintro _ _ ⟨rfl, rfl⟩
  refine run ?_
  exact retv ⟨rfl, rfl⟩
end Go.Proofs.Ytpiihodkonegbaa
/- The statement of layer 1 on sums and products of three numbers. -/
namespace Go.Proofs.Ytpiihodkonegbaa
open Go.XW Go.XW.DU Go.XW.DR
open Go.XW.DI hiding fm body sgn sizeI digs

theorem sum_en (y z : Int) (h : Hp) (ha : (en y).length ≤ 100000000) (hb : (en z).length ≤ 100000000) : VCalls Try.prog 34 [vstr (en y), vstr (en z)] h (fun v h' => v = vstr (en (y + z)) ∧ h' = h) := by
  have := sum_calls (en y) (en z) h ha hb
  rw [onV_en] at this; exact this
theorem diff_en (y z : Int) (h : Hp) (ha : (en y).length ≤ 100000000) (hb : (en z).length ≤ 100000000) : VCalls Try.prog 35 [vstr (en y), vstr (en z)] h (fun v h' => v = vstr (en (y - z)) ∧ h' = h) := by
  have := diff_calls (en y) (en z) h ha hb
  rw [onV_en] at this; exact this
theorem prod_en (y z : Int) (h : Hp) (ha : (en y).length ≤ 100000000) (hb : (en z).length ≤ 100000000) : VCalls Try.prog 36 [vstr (en y), vstr (en z)] h (fun v h' => v = vstr (en (y * z)) ∧ h' = h) := by
  have := prod_calls (en y) (en z) h ha hb
  rw [onV_en] at this; exact this
theorem formed_en (y : Int) (h : Hp) (ha : (en y).length ≤ 100000000) : VCalls Try.prog 37 [vstr (en y)] h (fun v h' => v = vbool true ∧ h' = h) := by
  have := formed_calls (en y) h (by omega)
  rw [fm_en] at this; exact this
theorem cmp_en (y z : Int) (h : Hp) (ha : (en y).length ≤ 100000000) (hb : (en z).length ≤ 100000000) : VCalls Try.prog 15 [vstr (en y), vstr (en z)] h (fun v h' => v = .tup [int (cmpI y z), int 0] ∧ h' = h) := by
  have := cmp_calls (en y) (en z) h (by omega) (by omega)
  rw [cmpV, if_pos ⟨fm_en y, fm_en z⟩, zv_en, zv_en] at this; exact this
theorem en_one : en 1 = [49] := (lit (a := [49]) (by decide) (by decide)).symm

theorem en_sub_len (y z : Int) : (en (y - z)).length ≤ (en y).length + (en z).length + 2 := by
  have h := en_add_len y (-z)
  rw [← Int.sub_eq_add_neg] at h
  have h1 := en_len (-z)
  have h2 := en_len z
  rw [Int.natAbs_neg] at h1
  split at h1 <;> split at h2 <;> omega
theorem ring_calls (a b c : List UInt8) (h : Hp) (ha : a.length ≤ 10000000) (hb : b.length ≤ 10000000) (hc : c.length ≤ 10000000) : VCalls Try.prog 10 [vstr a, vstr b, vstr c] h (fun v h' => v = vbool true ∧ h' = h) := by
  refine xc k10 rfl ?_
  refine run ?_
  refine VCalls.use (known_calls _) ?_
  rintro _ _ ⟨rfl, rfl⟩
  refine run ?_
  refine VCalls.use (three_calls a b c _ (by omega) (by omega) (by omega)) ?_
  rintro _ _ ⟨rfl, rfl⟩
  cases h3 : fm a && fm b && fm c with
  | false =>
    refine run ?_
    exact retv ⟨rfl, rfl⟩
  | true =>
    rename_i h
    simp only [Bool.and_eq_true] at h3
    obtain ⟨⟨hfa, hfb⟩, hfc⟩ := h3
    generalize hx : zv a = x
    generalize hy : zv b = y
    generalize hz : zv c = z
    obtain rfl : a = en x := hx ▸ en_of_fm hfa
    obtain rfl : b = en y := hy ▸ en_of_fm hfb
    obtain rfl : c = en z := hz ▸ en_of_fm hfc
    clear hx hy hz hfa hfb hfc
    have l1 := en_add_len x y
    have l2 := en_mul_len x y
    have l3 := en_add_len y z
    have l4 := en_mul_len y z
    have l5 := en_mul_len x z
    have l6 := en_sub_len x y
    have lz : (en 0).length = 1 := by rw [en_zero]; rfl
    have l1' : (en 1).length = 1 := by rw [en_one]; rfl
    refine run ?_
    refine VCalls.use (sum_en x y _ (by omega) (by omega)) ?_
    rintro _ _ ⟨rfl, rfl⟩
    refine run ?_
    refine VCalls.use (prod_en x y _ (by omega) (by omega)) ?_
    rintro _ _ ⟨rfl, rfl⟩
    refine run ?_
    refine VCalls.use (formed_en (x + y) _ (by omega)) ?_
    rintro _ _ ⟨rfl, rfl⟩
    refine run ?_
    refine VCalls.use (formed_en (x * y) _ (by omega)) ?_
    rintro _ _ ⟨rfl, rfl⟩
    refine run ?_
    refine VCalls.use (sum_en y x _ (by omega) (by omega)) ?_
    rintro _ _ ⟨rfl, rfl⟩
    refine run ?_
    refine br_ndf (by rw [Int.add_comm]) ?_
    refine run ?_
    refine VCalls.use (prod_en y x _ (by omega) (by omega)) ?_
    rintro _ _ ⟨rfl, rfl⟩
    refine run ?_
    refine br_ndf (by rw [Int.mul_comm]) ?_
    refine run ?_
    refine VCalls.use (sum_en (x + y) z _ (by omega) (by omega)) ?_
    rintro _ _ ⟨rfl, rfl⟩
    refine run ?_
    refine VCalls.use (sum_en y z _ (by omega) (by omega)) ?_
    rintro _ _ ⟨rfl, rfl⟩
    refine run ?_
    refine VCalls.use (sum_en x (y + z) _ (by omega) (by omega)) ?_
    rintro _ _ ⟨rfl, rfl⟩
    refine run ?_
    refine br_ndf (by rw [Int.add_assoc]) ?_
    refine run ?_
    refine VCalls.use (prod_en (x * y) z _ (by omega) (by omega)) ?_
    rintro _ _ ⟨rfl, rfl⟩
    refine run ?_
    refine VCalls.use (prod_en y z _ (by omega) (by omega)) ?_
    rintro _ _ ⟨rfl, rfl⟩
    refine run ?_
    refine VCalls.use (prod_en x (y * z) _ (by omega) (by omega)) ?_
    rintro _ _ ⟨rfl, rfl⟩
    refine run ?_
    refine br_ndf (by rw [Int.mul_assoc]) ?_
    refine run ?_
    refine VCalls.use (prod_en (x + y) z _ (by omega) (by omega)) ?_
    rintro _ _ ⟨rfl, rfl⟩
    refine run ?_
    refine VCalls.use (prod_en x z _ (by omega) (by omega)) ?_
    rintro _ _ ⟨rfl, rfl⟩
    refine run ?_
    refine VCalls.use (prod_en y z _ (by omega) (by omega)) ?_
    rintro _ _ ⟨rfl, rfl⟩
    refine run ?_
    refine VCalls.use (sum_en (x * z) (y * z) _ (by omega) (by omega)) ?_
    rintro _ _ ⟨rfl, rfl⟩
    refine run ?_
    refine br_dt (by rw [Int.add_mul]) ?_
    refine run ?_
    refine VCalls.use (diff_en x y _ (by omega) (by omega)) ?_
    rintro _ _ ⟨rfl, rfl⟩
    refine run ?_
    refine VCalls.use (sum_en (x - y) y _ (by omega) (by omega)) ?_
    rintro _ _ ⟨rfl, rfl⟩
    refine run ?_
    refine br_dt (by rw [Int.sub_add_cancel]) ?_
    refine run ?_
    refine VCalls.use (sum_en x 0 _ (by omega) (by omega)) ?_
    rintro _ _ ⟨rfl, rfl⟩
    refine run ?_
    refine br_dt (by rw [Int.add_zero]) ?_
    refine run ?_
    refine VCalls.use (en_one ▸ prod_en x 1 _ (by omega) (by omega)) ?_
    rintro _ _ ⟨rfl, rfl⟩
    refine run ?_
    refine retv ⟨?_, rfl⟩
    rw [Int.mul_one, decide_eq_true rfl]; rfl
end Go.Proofs.Ytpiihodkonegbaa
/- The statements of layer 1 on order, quotients and roots. -/
namespace Go.Proofs.Ytpiihodkonegbaa
open Go.XW Go.XW.DU Go.XW.DR
open Go.XW.DI hiding fm body sgn sizeI digs

theorem cmpI_add (x y z : Int) : cmpI (x + z) (y + z) = cmpI x y := by unfold cmpI; split <;> split <;> (try split) <;> (try split) <;> omega
theorem cmpI_swap (x y : Int) : cmpI y x = - cmpI x y := by unfold cmpI; split <;> split <;> (try split) <;> (try split) <;> omega
theorem cmpI_zero (x y : Int) : cmpI x y = 0 ↔ x = y := by unfold cmpI; split <;> (try split) <;> omega
theorem en_eq (y z : Int) : en y = en z ↔ y = z := ⟨en_inj, fun h => by rw [h]⟩

theorem moves_calls (a b c : List UInt8) (h : Hp) (ha : a.length ≤ 10000000) (hb : b.length ≤ 10000000) (hc : c.length ≤ 10000000) : VCalls Try.prog 11 [vstr a, vstr b, vstr c] h (fun v h' => v = vbool true ∧ h' = h) := by
  refine xc k11 rfl ?_
  refine run ?_
  refine VCalls.use (known_calls _) ?_
  rintro _ _ ⟨rfl, rfl⟩
  refine run ?_
  refine VCalls.use (three_calls a b c _ (by omega) (by omega) (by omega)) ?_
  rintro _ _ ⟨rfl, rfl⟩
  cases h3 : fm a && fm b && fm c with
  | false =>
    refine run ?_
    exact retv ⟨rfl, rfl⟩
  | true =>
    rename_i h
    simp only [Bool.and_eq_true] at h3
    obtain ⟨⟨hfa, hfb⟩, hfc⟩ := h3
    generalize hx : zv a = x
    generalize hy : zv b = y
    generalize hz : zv c = z
    obtain rfl : a = en x := hx ▸ en_of_fm hfa
    obtain rfl : b = en y := hy ▸ en_of_fm hfb
    obtain rfl : c = en z := hz ▸ en_of_fm hfc
    clear hx hy hz hfa hfb hfc
    have l1 := en_add_len x z
    have l3 := en_add_len y z
    refine run ?_
    refine VCalls.use (cmp_en x y _ (by omega) (by omega)) ?_
    rintro _ _ ⟨rfl, rfl⟩
    refine run ?_
    refine VCalls.use (sum_en x z _ (by omega) (by omega)) ?_
    rintro _ _ ⟨rfl, rfl⟩
    refine run ?_
    refine VCalls.use (sum_en y z _ (by omega) (by omega)) ?_
    rintro _ _ ⟨rfl, rfl⟩
    refine run ?_
    refine VCalls.use (cmp_en (x + z) (y + z) _ (by omega) (by omega)) ?_
    rintro _ _ ⟨rfl, rfl⟩
    rw [cmpI_add]
    refine run ?_
    refine VCalls.use (cmp_en y x _ (by omega) (by omega)) ?_
    rintro _ _ ⟨rfl, rfl⟩
    rw [cmpI_swap x y]
    have hz := cmpI_zero x y
    have hbd : -1 ≤ cmpI x y ∧ cmpI x y ≤ 1 := by unfold cmpI; split <;> (try split) <;> omega
    have hee := en_eq x y
    generalize cmpI x y = c at *
    refine run ?_
    refine retv ⟨?_, rfl⟩
    have e : decide (c = 0) = decide (en x = en y) := decide_eq_decide.2 (by rw [hz, hee])
    rw [e]; simp; rfl
theorem sgn_head (z : Int) : (en z).getD 0 0 = 45 ↔ z < 0 := by
  have := en_head45 z
  rw [← this]
  constructor
  · intro h; rw [h]; rfl
  · intro h; exact UInt8.toNat_inj.1 (by have : ((en z).getD 0 0).toNat = 45 := by omega
                                         rw [this]; rfl)
theorem abs_en (y : Int) (h : Hp) (ha : (en y).length ≤ 100000000) : VCalls Try.prog 20 [vstr (en y)] h (fun v h' => v = .tup [vstr (en y.natAbs), int 0] ∧ h' = h) := by
  have := abs_calls (en y) h (by omega)
  rw [unV, if_pos (fm_en y), zv_en] at this; exact this
theorem en_abs_len (y : Int) : (en (y.natAbs : Nat)).length ≤ (en y).length := by rw [en_nat]; exact dc_le_en y
theorem en_qd_len (y z : Int) : (en (qd y z)).length ≤ (en y).length + 1 := by
  have h1 := en_le_dc (qd y z)
  have h2 : (qd y z).natAbs = y.natAbs / z.natAbs := by unfold qd; generalize y.natAbs / z.natAbs = w; split <;> omega
  rw [h2] at h1
  have h3 := dc_mono (Nat.div_le_self y.natAbs z.natAbs)
  have h4 := dc_le_en y
  omega
theorem en_md_len (y z : Int) : (en (md y z)).length ≤ (en y).length + 1 := by
  have h1 := en_le_dc (md y z)
  have h2 : (md y z).natAbs = y.natAbs % z.natAbs := by unfold md; generalize y.natAbs % z.natAbs = w; split <;> omega
  rw [h2] at h1
  have h3 := dc_mono (Nat.mod_le y.natAbs z.natAbs)
  have h4 := dc_le_en y
  omega
theorem md_lt (y z : Int) (hz : z ≠ 0) : (md y z).natAbs < z.natAbs := by
  have h2 : (md y z).natAbs = y.natAbs % z.natAbs := by unfold md; generalize y.natAbs % z.natAbs = w; split <;> omega
  rw [h2]; exact Nat.mod_lt _ (by omega)
theorem md_sign (y z : Int) : md y z = 0 ∨ (md y z < 0 ↔ y < 0) := by
  unfold md
  generalize y.natAbs % z.natAbs = w
  by_cases h : y < 0
  · rw [if_pos (by simp [h])]; omega
  · rw [if_neg (by simp [h])]; omega
theorem qd_md (y z : Int) : qd y z * z + md y z = y := by
  have h := Nat.div_add_mod y.natAbs z.natAbs
  unfold qd md
  generalize y.natAbs / z.natAbs = q at *
  generalize y.natAbs % z.natAbs = r at *
  have h2 : (z.natAbs : Int) * q + r = y.natAbs := by omega
  by_cases hy : y < 0 <;> by_cases hz : z < 0
  · rw [show (z.natAbs : Int) = -z by omega, show (y.natAbs : Int) = -y by omega, Int.neg_mul] at h2
    simp [hy, hz]; rw [Int.mul_comm]; omega
  · rw [show (z.natAbs : Int) = z by omega, show (y.natAbs : Int) = -y by omega] at h2
    simp [hy, hz]; rw [Int.mul_comm, Int.mul_neg]; omega
  · rw [show (z.natAbs : Int) = -z by omega, show (y.natAbs : Int) = y by omega, Int.neg_mul] at h2
    simp [hy, hz]; rw [Int.mul_comm, Int.mul_neg]; omega
  · rw [show (z.natAbs : Int) = z by omega, show (y.natAbs : Int) = y by omega] at h2
    simp [hy, hz]; rw [Int.mul_comm]; omega
theorem divides_calls (a b : List UInt8) (h : Hp) (ha : a.length ≤ 10000000) (hb : b.length ≤ 10000000) : VCalls Try.prog 13 [vstr a, vstr b] h (fun v h' => v = vbool true ∧ h' = h) := by
  refine xc k13 rfl ?_
  refine run ?_
  refine VCalls.use (known_calls _) ?_
  rintro _ _ ⟨rfl, rfl⟩
  refine run ?_
  refine VCalls.use (rformed_calls a _ (by omega)) ?_
  rintro _ _ ⟨rfl, rfl⟩
  cases hfa : fm a with
  | false => refine run ?_; exact retv ⟨rfl, rfl⟩
  | true =>
    refine run ?_
    refine VCalls.use (rformed_calls b _ (by omega)) ?_
    rintro _ _ ⟨rfl, rfl⟩
    cases hfb : fm b with
    | false => refine run ?_; exact retv ⟨rfl, rfl⟩
    | true =>
      generalize hy : zv a = y
      generalize hz : zv b = z
      obtain rfl : a = en y := hy ▸ en_of_fm hfa
      obtain rfl : b = en z := hz ▸ en_of_fm hfb
      clear hy hz
      refine run ?_
      refine br_d (fun h0 => ?_) (fun h0 => ?_)
      · refine run ?_
        exact retv ⟨rfl, rfl⟩
      have hz0 : z ≠ 0 := fun hc => h0 ((en_eq0 z).2 hc)
      have hdq : divV qd (en y) (en z) = .tup [vstr (en (qd y z)), int 0] := by rw [divV, if_pos ⟨hfa, hfb⟩, if_neg h0, zv_en, zv_en]
      have hdm : divV md (en y) (en z) = .tup [vstr (en (md y z)), int 0] := by rw [divV, if_pos ⟨hfa, hfb⟩, if_neg h0, zv_en, zv_en]
      have lq := en_qd_len y z
      have lm := en_md_len y z
      have lqz := en_mul_len (qd y z) z
      have hlaw := qd_md y z
      have hlt := md_lt y z hz0
      have hsg := md_sign y z
      refine run ?_
      refine VCalls.use (div_calls (en y) (en z) _ (by omega) (by omega)) ?_
      rintro _ _ ⟨rfl, rfl⟩
      rw [hdq]
      refine run ?_
      refine VCalls.use (mod_calls (en y) (en z) _ (by omega) (by omega)) ?_
      rintro _ _ ⟨rfl, rfl⟩
      rw [hdm]
      generalize qd y z = q at *
      generalize md y z = m at *
      refine run ?_
      refine VCalls.use (prod_en q z _ (by omega) (by omega)) ?_
      rintro _ _ ⟨rfl, rfl⟩
      refine run ?_
      refine VCalls.use (sum_en (q * z) m _ (by omega) (by omega)) ?_
      rintro _ _ ⟨rfl, rfl⟩
      refine run ?_
      refine br_ndf (by rw [hlaw]) ?_
      refine run ?_
      refine VCalls.use (abs_en m _ (by omega)) ?_
      rintro _ _ ⟨rfl, rfl⟩
      refine run ?_
      refine VCalls.use (abs_en z _ (by omega)) ?_
      rintro _ _ ⟨rfl, rfl⟩
      have la1 := en_abs_len m
      have la2 := en_abs_len z
      refine run ?_
      refine VCalls.use (cmp_en m.natAbs z.natAbs _ (by omega) (by omega)) ?_
      rintro _ _ ⟨rfl, rfl⟩
      have hc1 : cmpI m.natAbs z.natAbs = -1 := by unfold cmpI; rw [if_pos (by omega)]
      rw [hc1]
      have hpm : 0 < (en m).length := List.length_pos_iff.2 (en_ne m)
      have hpy : 0 < (en y).length := List.length_pos_iff.2 (en_ne y)
      have hm45 := en_head45 m
      have hy45 := en_head45 y
      have hm0 := en_eq0 m
      refine run ?_
      refine br_d (fun h1 => ?_) (fun h1 => ?_)
      · refine run ?_
        exact retv ⟨rfl, rfl⟩
      · refine run ?_
        refine retv ⟨?_, rfl⟩
        have e : decide ((((en m).getD 0 0).toNat : Int) = 45) = decide ((((en y).getD 0 0).toNat : Int) = 45) := decide_eq_decide.2 (by rw [hm45, hy45]; have := mt hm0.2 h1; omega)
        rw [e]; simp; rfl
theorem roots_calls (a : List UInt8) (h : Hp) (ha : a.length ≤ 10000000) : VCalls Try.prog 12 [vstr a] h (fun v h' => v = vbool true ∧ h' = h) := by
  refine xc k12 rfl ?_
  refine run ?_
  refine VCalls.use (known_calls _) ?_
  rintro _ _ ⟨rfl, rfl⟩
  refine run ?_
  refine VCalls.use (rformed_calls a _ (by omega)) ?_
  rintro _ _ ⟨rfl, rfl⟩
  cases hfa : fm a with
  | false => refine run ?_; exact retv ⟨rfl, rfl⟩
  | true =>
    generalize hy : zv a = y
    obtain rfl : a = en y := hy ▸ en_of_fm hfa
    clear hy
    have hpos : 0 < (en y).length := List.length_pos_iff.2 (en_ne y)
    have h45 := en_head45 y
    refine run ?_
    refine br_d (fun h0 => ?_) (fun h0 => ?_)
    · refine run ?_
      exact retv ⟨rfl, rfl⟩
    have hy0 : ¬ y < 0 := fun hc => h0 (h45.2 hc)
    obtain ⟨m, rfl⟩ := Int.eq_ofNat_of_zero_le (show 0 ≤ y by omega)
    have hrv : rootV (en m) = .tup [vstr (en (rt m)), int 0] := by
      rw [rootV, if_pos hfa, if_neg (fun hc => hy0 ((head_en _).1 hc)), zv_en, Int.natAbs_natCast]
    have hs := rt_spec m
    have lr : (en (rt m)).length ≤ (en m).length := by rw [en_nat, en_nat]; exact dc_mono (rt_le_self m)
    refine run ?_
    refine VCalls.use (root_calls (en m) _ (by omega)) ?_
    rintro _ _ ⟨rfl, rfl⟩
    rw [hrv]
    generalize rt m = r at *
    have hrpos : 0 < (en r).length := List.length_pos_iff.2 (en_ne r)
    have hr45 := en_head45 r
    have l1 := en_add_len r 1
    have l11 : (en 1).length = 1 := by rw [en_one]; rfl
    have l2 := en_mul_len r r
    have l3 := en_mul_len (r + 1) (r + 1)
    refine run ?_
    refine VCalls.use (formed_en r _ (by omega)) ?_
    rintro _ _ ⟨rfl, rfl⟩
    refine run ?_
    refine VCalls.use (en_one ▸ sum_en r 1 _ (by omega) (by omega)) ?_
    rintro _ _ ⟨rfl, rfl⟩
    refine run ?_
    refine VCalls.use (prod_en r r _ (by omega) (by omega)) ?_
    rintro _ _ ⟨rfl, rfl⟩
    refine run ?_
    refine VCalls.use (cmp_en (r * r) m _ (by omega) (by omega)) ?_
    rintro _ _ ⟨rfl, rfl⟩
    refine run ?_
    refine VCalls.use (prod_en (r + 1) (r + 1) _ (by omega) (by omega)) ?_
    rintro _ _ ⟨rfl, rfl⟩
    refine run ?_
    refine VCalls.use (cmp_en ((r + 1) * (r + 1)) m _ (by omega) (by omega)) ?_
    rintro _ _ ⟨rfl, rfl⟩
    have c1 : cmpI ((r : Int) * r) m ≤ 0 := by
      rw [← Int.natCast_mul]
      unfold cmpI; split <;> (try split) <;> omega
    have c2 : cmpI (((r : Int) + 1) * (r + 1)) m = 1 := by
      rw [← Int.natCast_one, ← Int.natCast_add, ← Int.natCast_mul]
      unfold cmpI; split <;> (try split) <;> omega
    rw [c2]
    refine run ?_
    exact retv ⟨rfl, rfl⟩
end Go.Proofs.Ytpiihodkonegbaa
/- Walks of the steps from a number to another one: the reference's list, the iterator. -/
namespace Go.Proofs.Ytpiihodkonegbaa
open Go.XW Go.XW.DU Go.XW.DR
open Go.XW.DI hiding fm body sgn sizeI digs

def more (t b x : Int) : Prop := if b < 0 then t < x else x < t
instance (t b x : Int) : Decidable (more t b x) := by unfold more; exact inferInstance
/-- The steps, so many at most. -/
def steps (t b : Int) : Nat → Int → List Int
  | 0, _ => []
  | n + 1, x => if more t b x then x :: steps t b n (x + b) else []
theorem steps_len (t b : Int) : ∀ n x, (steps t b n x).length ≤ n
  | 0, _ => by simp [steps]
  | n + 1, x => by
    rw [steps]; split
    · have := steps_len t b n (x + b); simp; omega
    · simp
def rStrs (zs : List Int) : List (List V) := zs.map fun z => [vstr (en z)]
/-- Are these what steps are asked of? -/
def okS (a b c : List UInt8) : Prop := fm a = true ∧ fm b = true ∧ fm c = true ∧ c ≠ [48]
instance (a b c : List UInt8) : Decidable (okS a b c) := by unfold okS; exact inferInstance
def stepsV (a b c : List UInt8) (n : Nat) : V := if okS a b c then .row 1 (rStrs (steps (zv b) (zv c) n (zv a))) else .row 1 []

theorem rsteps_calls (a b c : List UInt8) (n : Nat) (h : Hp) (ha : a.length ≤ 10000000) (hb : b.length ≤ 10000000) (hc : c.length ≤ 10000000) (hn : n ≤ 201) : VCalls Try.prog 40 [vstr a, vstr b, vstr c, int n] h (fun v h' => v = stepsV a b c n ∧ h' = h) := by
  refine xc k40 rfl ?_
  refine run ?_
  refine VCalls.use (rformed_calls a _ (by omega)) ?_
  rintro _ _ ⟨rfl, rfl⟩
  cases hfa : fm a with
  | false =>
    rw [stepsV, if_neg (by simp [okS, hfa])]
    refine run ?_
    exact .le _ _ _ (VLe.nilrow 1) (retv ⟨rfl, rfl⟩)
  | true =>
    refine run ?_
    refine VCalls.use (rformed_calls b _ (by omega)) ?_
    rintro _ _ ⟨rfl, rfl⟩
    cases hfb : fm b with
    | false =>
      rw [stepsV, if_neg (by simp [okS, hfb])]
      refine run ?_
      exact .le _ _ _ (VLe.nilrow 1) (retv ⟨rfl, rfl⟩)
    | true =>
      refine run ?_
      refine VCalls.use (rformed_calls c _ (by omega)) ?_
      rintro _ _ ⟨rfl, rfl⟩
      cases hfc : fm c with
      | false =>
        rw [stepsV, if_neg (by simp [okS, hfc])]
        refine run ?_
        exact .le _ _ _ (VLe.nilrow 1) (retv ⟨rfl, rfl⟩)
      | true =>
        rename_i h
        generalize hx : zv a = x
        generalize hy : zv b = t
        generalize hz : zv c = d
        obtain rfl : a = en x := hx ▸ en_of_fm hfa
        obtain rfl : b = en t := hy ▸ en_of_fm hfb
        obtain rfl : c = en d := hz ▸ en_of_fm hfc
        refine run ?_
        refine br_d (fun h0 => ?_) (fun h0 => ?_)
        · rw [stepsV, if_neg (by simp [okS, h0])]
          refine run ?_
          exact .le _ _ _ (VLe.nilrow 1) (retv ⟨rfl, rfl⟩)
        rw [stepsV, if_pos ⟨hfa, hfb, hfc, h0⟩, hx, hy, hz]
        clear hx hy hz hfa hfb hfc
        have hd0 : d ≠ 0 := fun hc => h0 ((en_eq0 d).2 hc)
        refine run ?_
        refine VCalls.use (read_calls x _ (by omega)) ?_
        rintro _ _ ⟨rfl, rfl⟩
        refine run ?_
        refine new_k fun kx => ?_
        refine run ?_
        refine VCalls.use (read_calls t _ (by omega)) ?_
        rintro _ _ ⟨rfl, rfl⟩
        refine run ?_
        refine new_k fun kt => ?_
        refine run ?_
        refine VCalls.use (read_calls d _ (by omega)) ?_
        rintro _ _ ⟨rfl, rfl⟩
        refine run ?_
        refine new_k fun kd => ?_
        rename_i h
        have hmore : ∀ y, ((d < 0 ∧ cmpI y t ≤ 0) ∨ (¬ d < 0 ∧ 0 ≤ cmpI y t)) ↔ ¬ more t d y := fun y => by
          unfold more cmpI; split <;> (try split) <;> (try split) <;> omega
        have ld := lod_en d
        have lt := lod_en t
        refine runto 7 ?_
        refine jn (fun x : Nat × Nat => [(9, .osl 1 x.1 0 x.2)]) (fun y => (y.1, .blk 1 (rStrs (steps t d n x))) :: h) (fun y => y.2 = (steps t d n x).length) ?_ ?_
        · refine run ?_
          refine lp (fun y : Nat × List Int × Int => [(3, int n), (9, .osl 1 y.1 0 y.2.1.length), (10, .ptr 2 kx 0 0), (11, .ptr 2 kt 0 0), (12, .ptr 2 kd 0 0)])
            (fun y => (y.1, .blk 1 (rStrs y.2.1)) :: (kd, .blk 2 [[vbool (decide (d < 0)), .row 1 (rInts .i64 (lod d.natAbs))]]) :: (kt, .blk 2 [[vbool (decide (t < 0)), .row 1 (rInts .i64 (lod t.natAbs))]]) :: (kx, .blk 2 [[vbool (decide (y.2.2 < 0)), .row 1 (rInts .i64 (lod y.2.2.natAbs))]]) :: h)
            (fun y => y.2.1.length ≤ n ∧ steps t d n x = y.2.1 ++ steps t d (n - y.2.1.length) y.2.2 ∧ (en y.2.2).length ≤ 10000000 + y.2.1.length * 10000001) (fun y => n - y.2.1.length)
            (wkn 1 fun k => wkx (k, [], x) ⟨by dsimp only; simp, by simp, by dsimp only; omega⟩ fits rfl) ?_
          rintro ⟨k, L, y⟩ ⟨hL, hS, hy⟩
          dsimp only at *
          have ly := lod_en y
          refine run ?_
          refine br_d (fun h1 => ?_) (fun h1 => ?_)
          · refine run ?_
            refine VCalls.use (rorder_calls y t _ (by omega) (by omega)) ?_
            rintro _ _ ⟨rfl, rfl⟩
            have hm := hmore y
            generalize hcm : cmpI y t = cm at hm
            by_cases hmr : more t d y
            · have hstep : steps t d (n - L.length) y = y :: steps t d (n - (L ++ [y]).length) (y + d) := by
                rw [show n - L.length = (n - (L.length + 1)) + 1 by omega, steps, if_pos hmr, List.length_append]; rfl
              have hlen := en_add_len y d
              have hrl : (rStrs L).length = L.length := by simp [rStrs]
              by_cases hd : d < 0
              · have hcm0 : 0 < cm := by
                  rcases Int.lt_or_le 0 cm with h | h
                  · exact h
                  · exact absurd hmr (hm.1 (.inl ⟨hd, h⟩))
                refine run ?_
                refine VCalls.use (write_calls y _ (by omega)) ?_
                rintro _ _ ⟨rfl, rfl⟩
                refine run ?_
                refine new_k fun k2 => ?_
                refine run ?_
                refine VCalls.use (radd_calls y d _ (by omega) (by omega)) ?_
                rintro _ _ ⟨rfl, rfl⟩
                refine run ?_
                refine wkx (k2, L ++ [y], y + d) ⟨⟨by simp; omega, by rw [hS, hstep]; simp, by simp; omega⟩, by simp; omega⟩ fits (by simp [rStrs])
              · have hcm0 : cm < 0 := by
                  rcases Int.lt_or_le cm 0 with h | h
                  · exact h
                  · exact absurd hmr (hm.1 (.inr ⟨hd, h⟩))
                refine run ?_
                refine VCalls.use (write_calls y _ (by omega)) ?_
                rintro _ _ ⟨rfl, rfl⟩
                refine run ?_
                refine new_k fun k2 => ?_
                refine run ?_
                refine VCalls.use (radd_calls y d _ (by omega) (by omega)) ?_
                rintro _ _ ⟨rfl, rfl⟩
                refine run ?_
                refine wkx (k2, L ++ [y], y + d) ⟨⟨by simp; omega, by rw [hS, hstep]; simp, by simp; omega⟩, by simp; omega⟩ fits (by simp [rStrs])
            · have hnil : steps t d (n - L.length) y = [] := by
                rw [show n - L.length = (n - (L.length + 1)) + 1 by omega, steps, if_neg hmr]
              rw [hnil, List.append_nil] at hS
              by_cases hd : d < 0
              · have hcm0 : cm ≤ 0 := by have := hm.2 hmr; omega
                refine run ?_
                refine wkl (k, L.length) (by rw [hS]) fits (by rw [hS]; exact .cons_cons _ (.cons _ (.cons _ (.cons _ (.refl _)))))
              · have hcm0 : 0 ≤ cm := by have := hm.2 hmr; omega
                refine run ?_
                refine wkl (k, L.length) (by rw [hS]) fits (by rw [hS]; exact .cons_cons _ (.cons _ (.cons _ (.cons _ (.refl _)))))
          · have hz : n - L.length = 0 := by omega
            rw [hz, steps, List.append_nil] at hS
            refine run ?_
            refine wkl (k, L.length) (by rw [hS]) fits (by rw [hS]; exact .cons_cons _ (.cons _ (.cons _ (.cons _ (.refl _)))))
        · rintro ⟨k, i⟩ hi
          dsimp only at *
          refine run ?_
          exact ret_fz (.all _ (by simp [rStrs, hi])) (retv ⟨rfl, rfl⟩)
end Go.Proofs.Ytpiihodkonegbaa
/- Walks of the iterator of steps. -/
namespace Go.Proofs.Ytpiihodkonegbaa
open Go.XW Go.XW.DU Go.XW.DR
open Go.XW.DI hiding fm body sgn sizeI digs

def itV (a b c : List UInt8) : V := if okS a b c then .fn (.func 63) [] [.adr [vstr c], .adr [vstr a], .adr [vstr b]] else .v (.func (.func 62) #[] #[])

theorem tsteps_calls (a b c : List UInt8) (h : Hp) (ha : a.length ≤ 10000000) (hb : b.length ≤ 10000000) (hc : c.length ≤ 10000000) : VCalls Try.prog 41 [vstr a, vstr b, vstr c] h (fun v h' => v = itV a b c ∧ h' = h) := by
  refine xc k41 rfl ?_
  refine run ?_
  refine new_k fun ka => ?_
  refine run ?_
  refine new_k fun kb => ?_
  refine run ?_
  refine new_k fun kc => ?_
  refine run ?_
  refine VCalls.use (formed_calls a _ (by omega)) ?_
  rintro _ _ ⟨rfl, rfl⟩
  cases hfa : fm a with
  | false =>
    rw [itV, if_neg (by simp [okS, hfa])]
    refine run ?_
    exact ret1 (ret1 (ret1 (retv ⟨rfl, rfl⟩)))
  | true =>
    refine run ?_
    refine VCalls.use (formed_calls b _ (by omega)) ?_
    rintro _ _ ⟨rfl, rfl⟩
    cases hfb : fm b with
    | false =>
      rw [itV, if_neg (by simp [okS, hfb])]
      refine run ?_
      exact ret1 (ret1 (ret1 (retv ⟨rfl, rfl⟩)))
    | true =>
      refine run ?_
      refine VCalls.use (formed_calls c _ (by omega)) ?_
      rintro _ _ ⟨rfl, rfl⟩
      cases hfc : fm c with
      | false =>
        rw [itV, if_neg (by simp [okS, hfc])]
        refine run ?_
        exact ret1 (ret1 (ret1 (retv ⟨rfl, rfl⟩)))
      | true =>
        refine run ?_
        refine br_d (fun h0 => ?_) (fun h0 => ?_)
        · rw [itV, if_neg (by simp [okS, h0])]
          refine run ?_
          exact ret1 (ret1 (ret1 (retv ⟨rfl, rfl⟩)))
        rw [itV, if_pos ⟨hfa, hfb, hfc, h0⟩]
        refine run ?_
        refine ret_fz (.fn _ _ _ _ (.agg _ _ _ _ (.ptr _ _ _ rfl) (.same _))) ?_
        refine ret_fz (.fn _ _ _ _ (.agg _ _ _ _ (.same _) (.agg _ _ _ _ (.same _) (.agg _ _ _ _ (.ptr _ _ _ rfl) .agg0)))) ?_
        refine ret_fz (.fn _ _ _ _ (.agg _ _ _ _ (.same _) (.agg _ _ _ _ (.ptr _ _ _ rfl) (.same _)))) ?_
        exact retv ⟨rfl, rfl⟩

theorem none_iter (k : Nat) (h : Hp) : VCalls Try.prog 62 [.yld k] h (fun _ h' => h' = h) := by
  refine xc k62 rfl ?_
  refine run ?_
  exact retv rfl

/-- The iterator, by what its caller's rounds do. -/
theorem some_iter (k : Nat) (x t d : Int) (h : Hp) (J : Nat → Hp → Prop) (JX : Hp → Prop) (hd0 : d ≠ 0) (ht : (en t).length ≤ 10000000) (hd : (en d).length ≤ 10000000) (hl : ∀ i h, J i h → (en (x + i * d)).length ≤ 10000000000) (h0 : J 0 h)
    (hy : ∀ i h, J i h → more t d (x + i * d) → YCalls Try.prog k [vstr (en (x + i * d))] h (fun v h' => (v = vbool true ∧ J (i + 1) h') ∨ (v = vbool false ∧ JX h'))) :
    VCalls Try.prog 63 [.yld k, .adr [vstr (en d)], .adr [vstr (en x)], .adr [vstr (en t)]] h (fun _ h' => (∃ i : Nat, ¬ more t d (x + i * d) ∧ J i h') ∨ JX h') := by
  have hpos : 0 < (en d).length := List.length_pos_iff.2 (en_ne d)
  have h45 := en_head45 d
  refine xc k63 rfl ?_
  refine run ?_
  rw [show decide ((((en d).getD 0 0).toNat : Int) = 45) = decide (d < 0) from decide_eq_decide.2 h45]
  generalize hup : (!decide (d < 0)) = up
  refine lp (fun y : Nat × Hp => [(0, .yld k), (1, .adr [vstr (en d)]), (3, .adr [vstr (en t)]), (5, .v (.bool up)), (6, vstr (en (x + y.1 * d)))]) (fun y => y.2) (fun y => J y.1 y.2) (fun y => (if d < 0 then x + y.1 * d - t else t - (x + y.1 * d)).toNat)
    (wkx (0, h) h0 ?_ rfl) ?_
  · dsimp only
    rw [show x + ((0 : Nat) : Int) * d = x by simp]
    exact fits
  rintro ⟨i, hh⟩ hJ
  dsimp only at *
  have hli := hl i hh hJ
  have hnx : x + ((i + 1 : Nat) : Int) * d = x + i * d + d := by rw [Int.natCast_add, Int.add_mul]; omega
  have hyi := hy i hh hJ
  have hlen1 := en_add_len (x + i * d) d
  have hdone : ¬ more t d (x + i * d) → ∃ i : Nat, ¬ more t d (x + i * d) ∧ J i hh := fun hm => ⟨i, hm, hJ⟩
  have hcmp : more t d (x + i * d) ↔ if d < 0 then 0 < cmpI (x + i * d) t else cmpI (x + i * d) t < 0 := by
    unfold more cmpI; split <;> (try split) <;> (try split) <;> omega
  have hmu : more t d (x + i * d) → (if d < 0 then x + ((i + 1 : Nat) : Int) * d - t else t - (x + ((i + 1 : Nat) : Int) * d)).toNat < (if d < 0 then x + i * d - t else t - (x + i * d)).toNat := by
    rw [hnx]; unfold more; split <;> intro hm <;> omega
  generalize hX : x + (i : Int) * d = X at *
  refine run ?_
  refine VCalls.use (cmp_calls (en X) (en t) _ (by omega) (by omega)) ?_
  rintro _ _ ⟨rfl, rfl⟩
  have hcv : cmpV (en X) (en t) = .tup [int (cmpI X t), int 0] := by rw [cmpV, if_pos ⟨fm_en X, fm_en t⟩, zv_en, zv_en]
  rw [hcv]
  generalize cmpI X t = cm at *
  have hbv : binV (fun y z => y + z) (en X) (en d) = .tup [vstr (en (X + d)), int 0] := by rw [binV, if_pos ⟨fm_en X, fm_en d⟩, zv_en, zv_en]
  by_cases hm : more t d X
  · have hyy := hyi hm
    have hmm := hmu hm
    cases up with
    | false =>
      have hd1 : d < 0 := by simpa using hup
      have hcm : 0 < cm := by have := hcmp.1 hm; rwa [if_pos hd1] at this
      refine run ?_
      refine YCalls.use hyy ?_
      rintro v h' (⟨rfl, hj⟩ | ⟨rfl, hj⟩)
      · refine run ?_
        refine VCalls.use (add_calls (en X) (en d) _ (by omega) (by omega)) ?_
        rintro _ _ ⟨rfl, rfl⟩
        rw [hbv]
        refine run ?_
        refine wkx (i + 1, _) ⟨hj, hmm⟩ (by dsimp only; rw [hnx]; exact fits) rfl
      · refine run ?_
        exact retv (.inr hj)
    | true =>
      have hd1 : ¬ d < 0 := by simpa using hup
      have hcm : cm < 0 := by have := hcmp.1 hm; rwa [if_neg hd1] at this
      refine run ?_
      refine YCalls.use hyy ?_
      rintro v h' (⟨rfl, hj⟩ | ⟨rfl, hj⟩)
      · refine run ?_
        refine VCalls.use (add_calls (en X) (en d) _ (by omega) (by omega)) ?_
        rintro _ _ ⟨rfl, rfl⟩
        rw [hbv]
        refine run ?_
        refine wkx (i + 1, _) ⟨hj, hmm⟩ (by dsimp only; rw [hnx]; exact fits) rfl
      · refine run ?_
        exact retv (.inr hj)
  · cases up with
    | false =>
      have hd1 : d < 0 := by simpa using hup
      have hcm : cm ≤ 0 := by
        rcases Int.lt_or_le 0 cm with h | h
        · exact absurd (hcmp.2 (by rw [if_pos hd1]; exact h)) hm
        · exact h
      refine run ?_
      exact retv (.inl (hdone hm))
    | true =>
      have hd1 : ¬ d < 0 := by simpa using hup
      have hcm : 0 ≤ cm := by
        rcases Int.lt_or_le cm 0 with h | h
        · exact absurd (hcmp.2 (by rw [if_neg hd1]; exact h)) hm
        · exact h
      refine run ?_
      exact retv (.inl (hdone hm))
end Go.Proofs.Ytpiihodkonegbaa
/- The statement of layer 1 on steps. -/
namespace Go.Proofs.Ytpiihodkonegbaa
open Go.XW Go.XW.DU Go.XW.DR
open Go.XW.DI hiding fm body sgn sizeI digs

theorem mulS (i : Nat) (d : Int) : ((i + 1 : Nat) : Int) * d = d + i * d := by rw [Int.natCast_add, Int.add_mul]; omega
theorem steps_get (t d : Int) : ∀ (n i : Nat) (x : Int), i < n → (∀ j : Nat, j ≤ i → more t d (x + j * d)) → (steps t d n x)[i]? = some (x + i * d)
  | 0, _, _, h, _ => by omega
  | n + 1, 0, x, _, hm => by
    have := hm 0 (by omega)
    simp at this
    rw [steps, if_pos this]; simp
  | n + 1, i + 1, x, h, hm => by
    have h0 := hm 0 (by omega)
    simp at h0
    rw [steps, if_pos h0, List.getElem?_cons_succ, steps_get t d n i (x + d) (by omega) (fun j hj => by
      have := hm (j + 1) (by omega)
      rw [mulS] at this
      rwa [Int.add_assoc])]
    rw [mulS, Int.add_assoc]
theorem steps_end (t d : Int) : ∀ (n i : Nat) (x : Int), i ≤ n → (∀ j : Nat, j < i → more t d (x + j * d)) → (i < n → ¬ more t d (x + i * d)) → (steps t d n x).length = i
  | 0, i, x, h, _, _ => by have : i = 0 := by omega
                           subst this; rfl
  | n + 1, 0, x, _, _, hm => by
    have := hm (by omega)
    simp at this
    rw [steps, if_neg this]; rfl
  | n + 1, i + 1, x, h, hm, hx => by
    have h0 := hm 0 (by omega)
    simp at h0
    rw [steps, if_pos h0, List.length_cons, steps_end t d n i (x + d) (by omega) (fun j hj => by
      have := hm (j + 1) (by omega)
      rw [mulS] at this
      rwa [Int.add_assoc]) (fun hi => by
      have := hx (by omega)
      rw [mulS] at this
      rwa [Int.add_assoc])]

theorem at_strs {W : List Int} {i : Nat} {y : Int} {K : List V → Prop} (hi : W[i]? = some y) (h : K [vstr (en y)]) : At (rStrs W) i K := ⟨_, by simp [rStrs, hi], h⟩
theorem steplaw_calls (a b c : List UInt8) (m : Int) (h : Hp) (ha : a.length ≤ 1048576) (hb : b.length ≤ 1048576) (hc : c.length ≤ 1048576) (hm0 : -9223372036854775808 ≤ m ∧ m ≤ 9223372036854775807) : VCalls Try.prog 14 [vstr a, vstr b, vstr c, int m] h (fun v h' => v = vbool true ∧ h' = h) := by
  refine xc k14 rfl ?_
  refine run ?_
  refine new_k fun k7 => ?_
  refine run ?_
  refine new_k fun k8 => ?_
  refine runto 1 ?_
  refine jn (fun _ : Nat => [(0, vstr a), (1, vstr b), (2, vstr c), (7, .ptr 1 k7 0 0), (8, .ptr 1 k8 0 0)]) (fun M => (k8, .blk 1 [[vbool false]]) :: (k7, .blk 1 [[int M]]) :: h) (fun M => M ≤ 200) ?_ ?_
  · refine run ?_
    refine br_d (fun h1 => ?_) (fun h1 => ?_)
    · refine run ?_
      refine wkx 200 (by omega) fits rfl
    · refine run ?_
      refine br_d (fun h2 => ?_) (fun h2 => ?_)
      · refine run ?_
        refine wkx 200 (by omega) fits rfl
      · obtain ⟨M, rfl⟩ := Int.eq_ofNat_of_zero_le (show 0 ≤ m by omega)
        refine run ?_
        refine wkx M (by omega) fits rfl
  intro M hM
  refine run ?_
  refine VCalls.use (rsteps_calls a b c (M + 1) _ (by omega) (by omega) (by omega) (by omega)) ?_
  rintro _ _ ⟨rfl, rfl⟩
  obtain ⟨W, hW, hWl⟩ : ∃ W : List Int, stepsV a b c (M + 1) = .row 1 (rStrs W) ∧ (W.length ≤ M + 1 ∧ (okS a b c → W = steps (zv b) (zv c) (M + 1) (zv a)) ∧ (¬ okS a b c → W = [])) := by
    by_cases hok : okS a b c
    · exact ⟨_, by rw [stepsV, if_pos hok], steps_len _ _ _ _, fun _ => rfl, fun h => absurd hok h⟩
    · exact ⟨[], by rw [stepsV, if_neg hok]; rfl, by simp, fun h => absurd h hok, fun _ => rfl⟩
  obtain ⟨hWl, hW1, hW2⟩ := hWl
  have hrl : (rStrs W).length = W.length := by simp [rStrs]
  rw [hW]
  refine run ?_
  refine new_k fun k9 => ?_
  refine run ?_
  refine VCalls.use (tsteps_calls a b c _ (by omega) (by omega) (by omega)) ?_
  rintro _ _ ⟨rfl, rfl⟩
  by_cases hok : okS a b c
  · have hW := hW1 hok
    rw [itV, if_pos hok]
    obtain ⟨hfa, hfb, hfc, hc0⟩ := hok
    generalize hx : zv a = x at *
    generalize hy : zv b = t at *
    generalize hz : zv c = d at *
    obtain rfl : a = en x := hx ▸ en_of_fm hfa
    obtain rfl : b = en t := hy ▸ en_of_fm hfb
    obtain rfl : c = en d := hz ▸ en_of_fm hfc
    have hd0 : d ≠ 0 := fun hc => hc0 ((en_eq0 d).2 hc)
    refine run ?_
    refine br_f rfl ?_
    refine runto 7 ?_
    refine jn (fun _ : Unit => [(8, .ptr 1 k8 0 0)]) (fun _ => (k8, .blk 1 [[vbool false]]) :: h) (fun _ => True) ?_ ?_
    · refine run ?_
      refine lp (fun r : Nat => [(7, .ptr 1 k7 0 0), (8, .ptr 1 k8 0 0), (9, .ptr 1 k9 0 0), (10, .fn (.func 63) [] [.adr [vstr (en d)], .adr [vstr (en x)], .adr [vstr (en t)]]), (11, int r)])
        (fun _ => (k9, .blk 1 [[.row 1 (rStrs W)]]) :: (k8, .blk 1 [[vbool false]]) :: (k7, .blk 1 [[int M]]) :: h) (fun r => r ≤ 2) (fun r => 2 - r) (wkx 0 (by omega) fits rfl) ?_
      intro r hr
      refine run ?_
      refine br_d (fun h1 => ?_) (fun h1 => ?_)
      · refine run ?_
        refine new_k fun k12 => ?_
        refine runto 11 ?_
        refine jn (fun _ : Unit => [(7, .ptr 1 k7 0 0), (8, .ptr 1 k8 0 0), (9, .ptr 1 k9 0 0), (10, .fn (.func 63) [] [.adr [vstr (en d)], .adr [vstr (en x)], .adr [vstr (en t)]]), (11, int r), (12, .ptr 1 k12 0 0)])
          (fun _ => (k12, .blk 1 [[int W.length]]) :: (k9, .blk 1 [[.row 1 (rStrs W)]]) :: (k8, .blk 1 [[vbool false]]) :: (k7, .blk 1 [[int M]]) :: h) (fun _ => True) ?_ ?_
        · refine run ?_
          refine RngP.mk (fun _ _ h => h) fun k lp lb hY => ?_
          refine VCalls.use (some_iter k x t d _ (fun i h' => i ≤ M ∧ (∀ j : Nat, j < i → more t d (x + j * d)) ∧ (en (x + i * d)).length ≤ 1048576 + i * 1048577 ∧ h' = (k, lp .normal) :: (k12, .blk 1 [[int i]]) :: (k9, .blk 1 [[.row 1 (rStrs W)]]) :: (k8, .blk 1 [[vbool false]]) :: (k7, .blk 1 [[int M]]) :: h)
            (fun h' => (∀ j : Nat, j < M + 1 → more t d (x + j * d)) ∧ h' = (k, lp (.exit 2)) :: (k12, .blk 1 [[int (M + 1 : Nat)]]) :: (k9, .blk 1 [[.row 1 (rStrs W)]]) :: (k8, .blk 1 [[vbool false]]) :: (k7, .blk 1 [[int M]]) :: h) hd0 (by omega) (by omega) ?_ ?_ ?_) ?_
          · rintro i h' ⟨hi, _, hlen, _⟩
            have : i * 1048577 ≤ 200 * 1048577 := Nat.mul_le_mul_right _ (by omega)
            omega
          · exact ⟨by omega, fun j hj => by omega, by simp; omega, rfl⟩
          · rintro i h' ⟨hi, hmr, hlen, rfl⟩ hm
            have hget := steps_get t d (M + 1) i x (by omega) (fun j hj => by
              rcases Nat.lt_or_eq_of_le hj with h | rfl
              · exact hmr j h
              · exact hm)
            have hWi : W[i]? = some (x + i * d) := by rw [hW1 ⟨hfa, hfb, hfc, hc0⟩]; exact hget
            have hiW : i < W.length := (List.getElem?_eq_some_iff.1 hWi).1
            have hadd := en_add_len (x + i * d) d
            have hnx : x + ((i + 1 : Nat) : Int) * d = x + i * d + d := by rw [mulS]; omega
            refine hY [vstr (en (x + i * d))] _ _ rfl ?_
            refine run ?_
            refine .now _ _ ⟨_, .refl _, ?_⟩
            refine run ?_
            refine at_strs hWi ?_
            refine run ?_
            refine br_ndf rfl ?_
            refine run ?_
            refine br_d (fun h2 => ?_) (fun h2 => ?_)
            · have hiM : i = M := by omega
              subst hiM
              refine run ?_
              refine .now _ _ ⟨_, .refl _, .inr ⟨rfl, fun j hj => ?_, rfl⟩⟩
              rcases Nat.lt_or_eq_of_le (Nat.le_of_lt_succ hj) with h | rfl
              · exact hmr j h
              · exact hm
            · refine run ?_
              refine .now _ _ ⟨_, .refl _, .inl ⟨rfl, by omega, fun j hj => ?_, by rw [hnx]; omega, rfl⟩⟩
              rcases Nat.lt_or_eq_of_le (Nat.le_of_lt_succ hj) with h | rfl
              · exact hmr j h
              · exact hm
          · rintro _ h' (⟨i, hnm, hi, hmr, _, rfl⟩ | ⟨hmr, rfl⟩)
            · have hlen := steps_end t d (M + 1) i x (by omega) hmr (fun _ => hnm)
              refine ⟨.normal, _, .refl _, ?_⟩
              refine wkx () trivial fits ?_
              rw [hW1 ⟨hfa, hfb, hfc, hc0⟩, hlen]
            · have hlen := steps_end t d (M + 1) (M + 1) x (by omega) hmr (fun h => by omega)
              refine ⟨.exit 2, _, .refl _, ?_⟩
              refine wkx () trivial fits ?_
              rw [hW1 ⟨hfa, hfb, hfc, hc0⟩, hlen]
        · intro _ _
          refine run ?_
          refine wkl (r + 1) ⟨by omega, by omega⟩ fits (.cons _ (.refl _))
      · refine run ?_
        refine wkl () trivial fits (.cons _ (.cons_cons _ (.cons _ (.refl _))))
    · intro _ _
      refine run ?_
      refine VCalls.use (known_calls _) ?_
      rintro _ _ ⟨rfl, rfl⟩
      refine run ?_
      exact ret1 (retv ⟨rfl, rfl⟩)
  · have hW := hW2 hok
    subst hW
    rw [itV, if_neg hok]
    refine run ?_
    refine br_f rfl ?_
    refine runto 7 ?_
    refine jn (fun _ : Unit => [(8, .ptr 1 k8 0 0)]) (fun _ => (k8, .blk 1 [[vbool false]]) :: h) (fun _ => True) ?_ ?_
    · refine run ?_
      refine lp (fun r : Nat => [(7, .ptr 1 k7 0 0), (8, .ptr 1 k8 0 0), (9, .ptr 1 k9 0 0), (10, .v (.func (.func 62) #[] #[])), (11, int r)])
        (fun _ => (k9, .blk 1 [[.row 1 []]]) :: (k8, .blk 1 [[vbool false]]) :: (k7, .blk 1 [[int M]]) :: h) (fun r => r ≤ 2) (fun r => 2 - r) (wkx 0 (by omega) fits rfl) ?_
      intro r hr
      refine run ?_
      refine br_d (fun h1 => ?_) (fun h1 => ?_)
      · refine run ?_
        refine new_k fun k12 => ?_
        refine runto 11 ?_
        refine jn (fun _ : Unit => [(7, .ptr 1 k7 0 0), (8, .ptr 1 k8 0 0), (9, .ptr 1 k9 0 0), (10, .v (.func (.func 62) #[] #[])), (11, int r), (12, .ptr 1 k12 0 0)])
          (fun _ => (k12, .blk 1 [[int 0]]) :: (k9, .blk 1 [[.row 1 []]]) :: (k8, .blk 1 [[vbool false]]) :: (k7, .blk 1 [[int M]]) :: h) (fun _ => True) ?_ ?_
        · refine run ?_
          refine RngP.mk (fun _ _ h => h) fun k lp lb hY => ?_
          refine VCalls.use (none_iter k _) ?_
          rintro _ h' rfl
          refine ⟨.normal, _, .refl _, ?_⟩
          refine wkx () trivial fits rfl
        · intro _ _
          refine run ?_
          refine wkl (r + 1) ⟨by omega, by omega⟩ fits (.cons _ (.refl _))
      · refine run ?_
        refine wkl () trivial fits (.cons _ (.cons_cons _ (.cons _ (.refl _))))
    · intro _ _
      refine run ?_
      refine VCalls.use (known_calls _) ?_
      rintro _ _ ⟨rfl, rfl⟩
      refine run ?_
      exact ret1 (retv ⟨rfl, rfl⟩)
end Go.Proofs.Ytpiihodkonegbaa
