/- Walks of both sides of layer 1: the order of numbers. -/
import Derived.Test.YtpiihodkonegbaaT3
namespace Go.Proofs.Ytpiihodkonegbaa
open Go.XW Go.XW.DU
open Go.XW.DI hiding fm body sgn sizeI digs

theorem lod_len {m n : Nat} (h : m ≤ n) : (lod m).length ≤ (lod n).length := by
  induction n using Nat.strongRecOn generalizing m with
  | _ n ih =>
    by_cases h0 : m = 0
    · subst h0; rw [lod_zero]; simp
    · rw [lod_succ h0, lod_succ (by omega : n ≠ 0)]
      have := @ih (n / 10) (by omega) (m / 10) (by omega)
      simpa using this
theorem lval_split {ds : List Int} {i : Nat} (hi : i < ds.length) : lval ds = lval (ds.take i) + 10 ^ i * (ds.getD i 0 + 10 * lval (ds.drop (i + 1))) := by
  have h1 : ds = ds.take i ++ ds.drop i := (List.take_append_drop i ds).symm
  have h2 := lval_append (ds.take i) (ds.drop i)
  rw [← h1, drop_getD hi, List.length_take, show min i ds.length = i by omega] at h2
  exact h2
theorem lval_lt_of {a b : List Int} {i : Nat} (ha : Dg a) (hb : Dg b) (hia : i < a.length) (hib : i < b.length) (he : a.drop (i + 1) = b.drop (i + 1)) (hl : a.getD i 0 < b.getD i 0) : lval a < lval b := by
  rw [lval_split hia, lval_split hib, he]
  have h1 : lval (a.take i) < 10 ^ i := by
    have := lval_lt (l := a.take i) fun x hx => ha x (List.mem_of_mem_take hx)
    rwa [List.length_take, show min i a.length = i by omega] at this
  have h2 := lval_nonneg (l := b.take i) fun x hx => hb x (List.mem_of_mem_take hx)
  generalize lval (b.drop (i + 1)) = r at *
  generalize a.getD i 0 = x at *
  generalize b.getD i 0 = y at *
  have h3 : (10 : Int) ^ i * (x + 10 * r + 1) ≤ 10 ^ i * (y + 10 * r) := Int.mul_le_mul_of_nonneg_left (by omega) (by have := p10_pos i; omega)
  rw [Int.mul_add, Int.mul_one] at h3
  omega

theorem rsize_calls (m n : Nat) (h : Hp) (hm : (lod m).length ≤ 1000000000000000) (hn : (lod n).length ≤ 1000000000000000) : VCalls Try.prog 56 [.row 1 (rInts .i64 (lod m)), .row 1 (rInts .i64 (lod n))] h (fun v h' => v = int (cmpI m n) ∧ h' = h) := by
  refine xc k56 rfl ?_
  have ha := lod_dg m
  have hb := lod_dg n
  have va := lod_val m
  have vb := lod_val n
  have hlt : (lod m).length < (lod n).length → m < n := fun hh => by
    by_cases hc : m < n
    · exact hc
    · have := lod_len (m := n) (n := m) (by omega); omega
  have hgt : (lod n).length < (lod m).length → n < m := fun hh => by
    by_cases hc : n < m
    · exact hc
    · have := lod_len (m := m) (n := n) (by omega); omega
  generalize lod m = a at *
  generalize lod n = b at *
  refine run ?_
  refine br_nd (fun hne => ?_) (fun heq => ?_)
  · refine run ?_
    refine br_d (fun hc => ?_) (fun hc => ?_)
    · have := hlt (by omega)
      refine run ?_
      refine .now _ _ ⟨?_, rfl⟩
      rw [cmpI, if_pos (by omega)]; rfl
    · have := hgt (by omega)
      refine run ?_
      refine .now _ _ ⟨?_, rfl⟩
      rw [cmpI, if_neg (by omega), if_pos (by omega)]; rfl
  refine run ?_
  refine lp (fun j : Nat => [(0, .row 1 (rInts .i64 a)), (1, .row 1 (rInts .i64 b)), (5, int ((j : Int) - 1))]) (fun _ => h) (fun j => j ≤ a.length ∧ a.drop j = b.drop j) (fun j => j) (wkx a.length ⟨by omega, by rw [List.drop_of_length_le (by omega), List.drop_of_length_le (by omega)]⟩ fits rfl) ?_
  rintro j ⟨hj, hd⟩
  refine run ?_
  refine br_d (fun hc => ?_) (fun hc => ?_)
  · have hi : ((j : Int) - 1).toNat = j - 1 := by omega
    have hdd : a.drop (j - 1 + 1) = b.drop (j - 1 + 1) := by rw [show j - 1 + 1 = j by omega]; exact hd
    refine run ?_
    refine br_d (fun hc2 => ?_) (fun hc2 => ?_)
    · rw [hi] at hc2
      have := lval_lt_of ha hb (by omega) (by omega) hdd hc2
      refine run ?_
      refine .now _ _ ⟨?_, rfl⟩
      rw [cmpI, if_pos (by omega)]; rfl
    refine run ?_
    refine br_d (fun hc3 => ?_) (fun hc3 => ?_)
    · rw [hi] at hc3
      have := lval_lt_of hb ha (by omega) (by omega) hdd.symm hc3
      refine run ?_
      refine .now _ _ ⟨?_, rfl⟩
      rw [cmpI, if_neg (by omega), if_pos (by omega)]; rfl
    · refine run ?_
      rw [hi] at hc2 hc3
      refine wkx (j - 1) ⟨⟨by omega, ?_⟩, by omega⟩ fits rfl
      rw [drop_getD (ns := a) (by omega), drop_getD (ns := b) (by omega), hdd, show a.getD (j - 1) 0 = b.getD (j - 1) 0 by omega]
  · refine run ?_
    refine .now _ _ ⟨?_, rfl⟩
    have : j = 0 := by omega
    subst this
    have he : a = b := hd
    have : m = n := by rw [he] at va; omega
    subst this
    rw [cmpI, if_neg (by omega), if_neg (by omega)]; rfl

theorem rorder_calls (y z : Int) (h : Hp) (hy : (lod y.natAbs).length ≤ 1000000000000000) (hz : (lod z.natAbs).length ≤ 1000000000000000) : VCalls Try.prog 44 [numV y, numV z] h (fun v h' => v = int (cmpI y z) ∧ h' = h) := by
  refine xc k44 rfl ?_
  refine run ?_
  refine new_k fun k1 => ?_
  refine run ?_
  refine new_k fun k2 => ?_
  refine run ?_
  refine ⟨fun hb => ?_, fun hb => ?_⟩
  · refine run ?_
    refine br_d (fun hc => ?_) (fun hc => ?_)
    · refine run ?_
      refine ret1 (ret1 (retv ⟨?_, rfl⟩))
      have : ¬ z < 0 := by simpa [hc] using hb
      rw [cmpI, if_pos (by omega)]; rfl
    · refine run ?_
      refine ret1 (ret1 (retv ⟨?_, rfl⟩))
      have : z < 0 := by simpa [hc] using hb
      rw [cmpI, if_neg (by omega), if_pos (by omega)]; rfl
  · have hyz : y < 0 ↔ z < 0 := by simpa using hb
    refine run ?_
    refine br_d (fun hc => ?_) (fun hc => ?_)
    · refine run ?_
      refine VCalls.use (rsize_calls _ _ _ hy hz) ?_
      rintro _ _ ⟨rfl, rfl⟩
      have hr : cmpI y z = - cmpI y.natAbs z.natAbs := by
        have := hyz.1 hc
        unfold cmpI
        split <;> split <;> (try split) <;> (try split) <;> omega
      have hbd : -1 ≤ cmpI y.natAbs z.natAbs ∧ cmpI y.natAbs z.natAbs ≤ 1 := by unfold cmpI; split <;> (try split) <;> omega
      refine run ?_
      refine ret1 (ret1 (retv ⟨?_, rfl⟩))
      rw [hr]
      exact vint_eq (by omega)
    · refine run ?_
      refine VCalls.use (rsize_calls _ _ _ hy hz) ?_
      rintro _ _ ⟨rfl, rfl⟩
      refine run ?_
      refine ret1 (ret1 (retv ⟨?_, rfl⟩))
      have hr : cmpI y z = cmpI y.natAbs z.natAbs := by
        have : ¬ z < 0 := fun hh => hc (hyz.2 hh)
        unfold cmpI
        split <;> split <;> (try split) <;> (try split) <;> omega
      rw [hr]; rfl

theorem lod_decs (n : Nat) : (lod n).length ≤ (decs n).length := by
  unfold decs; split
  · rename_i h; subst h; rw [lod_zero]; simp
  · simp
theorem lod_en (z : Int) : (lod z.natAbs).length ≤ (en z).length := by
  have := lod_decs z.natAbs
  have := dc_le_en z
  rw [dc_length] at this
  omega

def cmpV (a b : List UInt8) : V := if fm a = true ∧ fm b = true then .tup [int (cmpI (zv a) (zv b)), int 0] else .tup [int 0, int 1]

theorem rcmp_calls (a b : List UInt8) (h : Hp) (ha : a.length ≤ 1000000000000) (hb : b.length ≤ 1000000000000) : VCalls Try.prog 16 [vstr a, vstr b] h (fun v h' => v = cmpV a b ∧ h' = h) := by
  refine xc k16 rfl ?_
  refine run ?_
  refine VCalls.use (rformed_calls a _ (by omega)) ?_
  rintro _ _ ⟨rfl, rfl⟩
  unfold cmpV
  cases hfa : fm a with
  | false => refine run ?_; exact retv ⟨rfl, rfl⟩
  | true =>
    refine run ?_
    refine VCalls.use (rformed_calls b _ (by omega)) ?_
    rintro _ _ ⟨rfl, rfl⟩
    cases hfb : fm b with
    | false => refine run ?_; exact retv ⟨rfl, rfl⟩
    | true =>
      generalize hy : zv a = y
      generalize hz : zv b = z
      obtain rfl : a = en y := hy ▸ en_of_fm hfa
      obtain rfl : b = en z := hz ▸ en_of_fm hfb
      refine run ?_
      refine VCalls.use (read_calls y _ (by omega)) ?_
      rintro _ _ ⟨rfl, rfl⟩
      refine run ?_
      refine VCalls.use (read_calls z _ (by omega)) ?_
      rintro _ _ ⟨rfl, rfl⟩
      have h1 := lod_en y
      have h2 := lod_en z
      refine run ?_
      refine VCalls.use (rorder_calls y z _ (by omega) (by omega)) ?_
      rintro _ _ ⟨rfl, rfl⟩
      refine run ?_
      exact retv ⟨rfl, rfl⟩

theorem cmp_calls (a b : List UInt8) (h : Hp) (ha : a.length ≤ 1000000000000) (hb : b.length ≤ 1000000000000) : VCalls Try.prog 15 [vstr a, vstr b] h (fun v h' => v = cmpV a b ∧ h' = h) := by
  refine xc k15 rfl ?_
  refine run ?_
  refine VCalls.use (formed_calls a _ (by omega)) ?_
  rintro _ _ ⟨rfl, rfl⟩
  unfold cmpV
  cases hfa : fm a with
  | false => refine run ?_; exact retv ⟨rfl, rfl⟩
  | true =>
    refine run ?_
    refine VCalls.use (formed_calls b _ (by omega)) ?_
    rintro _ _ ⟨rfl, rfl⟩
    cases hfb : fm b with
    | false => refine run ?_; exact retv ⟨rfl, rfl⟩
    | true =>
      generalize hy : zv a = y
      generalize hz : zv b = z
      obtain rfl : a = en y := hy ▸ en_of_fm hfa
      obtain rfl : b = en z := hz ▸ en_of_fm hfb
      have h1 := dc_le_en y
      have h2 := dc_le_en z
      refine run ?_
      refine VCalls.use (split_calls (en y) _ (en_ne y) (by omega)) ?_
      rintro _ _ ⟨rfl, rfl⟩
      refine run ?_
      refine VCalls.use (split_calls (en z) _ (en_ne z) (by omega)) ?_
      rintro _ _ ⟨rfl, rfl⟩
      rw [body_en, body_en, decide_eq_decide.2 (head_en y), decide_eq_decide.2 (head_en z)]
      refine run ?_
      refine br_d (fun hb => ?_) (fun hb => ?_)
      · refine run ?_
        refine br_d (fun hb2 => ?_) (fun hb2 => ?_)
        · refine run ?_
          refine VCalls.use (size_calls _ _ _ (by omega) (by omega)) ?_
          rintro _ _ ⟨rfl, rfl⟩
          refine run ?_
          refine retv ⟨?_, rfl⟩
          rw [if_pos ⟨rfl, rfl⟩, sizeI_dc, show cmpI z.natAbs y.natAbs = cmpI y z from by unfold cmpI; split <;> split <;> (try split) <;> (try split) <;> omega]; rfl
        · refine run ?_
          refine retv ⟨?_, rfl⟩
          rw [if_pos ⟨rfl, rfl⟩, cmpI, if_pos (by omega)]; rfl
      · refine run ?_
        refine br_d (fun hb2 => ?_) (fun hb2 => ?_)
        · refine run ?_
          refine retv ⟨?_, rfl⟩
          rw [if_pos ⟨rfl, rfl⟩, cmpI, if_neg (by omega), if_pos (by omega)]; rfl
        · refine run ?_
          refine VCalls.use (size_calls _ _ _ (by omega) (by omega)) ?_
          rintro _ _ ⟨rfl, rfl⟩
          refine run ?_
          refine retv ⟨?_, rfl⟩
          rw [if_pos ⟨rfl, rfl⟩, sizeI_dc, show cmpI y.natAbs z.natAbs = cmpI y z from by unfold cmpI; split <;> split <;> (try split) <;> (try split) <;> omega]; rfl

theorem order_calls (a b : List UInt8) (h : Hp) (ha : a.length ≤ 1000000000000) (hb : b.length ≤ 1000000000000) : VCalls Try.prog 6 [vstr a, vstr b] h (fun v h' => v = vbool true ∧ h' = h) := by
  refine xc k6 rfl ?_
  refine run ?_
  refine VCalls.use (cmp_calls a b _ ha hb) ?_
  rintro _ _ ⟨rfl, rfl⟩
  have hc : ∃ x y, cmpV a b = .tup [int x, int y] := by unfold cmpV; split <;> exact ⟨_, _, rfl⟩
  obtain ⟨x, y, hc⟩ := hc
  rw [hc]
  refine run ?_
  refine VCalls.use (rcmp_calls a b _ ha hb) ?_
  rintro _ _ ⟨rfl, rfl⟩
  rw [hc]
  refine run ?_
  refine VCalls.use (cmp_calls [50] [49] _ (by simp) (by simp)) ?_
  rintro _ _ ⟨rfl, rfl⟩
  have hk : cmpV [50] [49] = .tup [int 1, int 0] := by
    have h2 : fm [50] = true := by decide
    have h1 : fm [49] = true := by decide
    rw [cmpV, if_pos ⟨h2, h1⟩]; rfl
  rw [hk]
  refine run ?_
  refine retv ⟨?_, rfl⟩
  simp; rfl
end Go.Proofs.Ytpiihodkonegbaa
