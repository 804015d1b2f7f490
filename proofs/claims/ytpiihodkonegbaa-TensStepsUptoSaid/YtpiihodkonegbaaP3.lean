/- Walks of the package tens: rows of parts. -/
import Derived.Test.YtpiihodkonegbaaP2
import Derived.Test.YtpiihodkonegbaaP1
set_option linter.unusedVariables false
namespace Go.Proofs.Ytpiihodkonegbaa
open Go.XW Go.XW.DU Go.XW.DR
open Go.XW.DI hiding fm body sgn sizeI digs

theorem short_calls (k : Nat) (l : List Int) (n : Nat) (h : Hp) (hd : Gd l) (hn : n ≤ l.length) (hm : l.length ≤ 1000000000000) : VCalls Try.prog 64 [.osl 1 k 0 n] ((k, .blk 1 (rInts .u64 l)) :: h) (fun v h' => v = .osl 1 k 0 (rown (gval (l.take n)).toNat).length ∧ h' = (k, .blk 1 (rInts .u64 l)) :: h ∧ l.take (rown (gval (l.take n)).toNat).length = rown (gval (l.take n)).toNat) := by
  refine xc k64 rfl ?_
  refine run ?_
  refine lp (fun j : Nat => [(0, .osl 1 k 0 j)]) (fun _ => (k, .blk 1 (rInts .u64 l)) :: h) (fun j => j ≤ n ∧ gval (l.take j) = gval (l.take n)) (fun j => j) (wkx n ⟨by omega, rfl⟩ fits rfl) ?_
  rintro j ⟨hj, hv⟩
  have hi : ((j : Int) - 1).toNat = j - 1 := by omega
  have key : ¬ (0 < j ∧ l.getD (j - 1) 0 = 0) → l.take j = rown (gval (l.take n)).toNat := fun hh => rown_trim hd (by omega) hv (by by_cases h0 : j = 0; exact .inl h0; exact .inr fun he => hh ⟨by omega, he⟩)
  have fin : l.take j = rown (gval (l.take n)).toNat → (rown (gval (l.take n)).toNat).length = j := fun hh => by rw [← hh, List.length_take]; omega
  refine run ?_
  refine br_d (fun hb => ?_) (fun hb => ?_)
  · refine run ?_
    refine br_d (fun hc => ?_) (fun hc => ?_)
    · refine run ?_
      refine wkx (j - 1) ⟨⟨by omega, ?_⟩, by omega⟩ fits rfl
      have hc2 : l.getD (j - 1) 0 = 0 := by rw [← hc]; congr 1; omega
      rw [← hv, show j = (j - 1) + 1 by omega, gval_take0 hc2]
      rfl
    · have hk := key fun hh => hc (by rw [← hh.2]; congr 1; omega)
      have hf := fin hk
      refine run ?_
      refine retv ⟨by rw [hf]; rfl, rfl, by rw [hf]; exact hk⟩
  · have hk := key fun hh => hb (by omega)
    have hf := fin hk
    refine run ?_
    refine retv ⟨by rw [hf]; rfl, rfl, by rw [hf]; exact hk⟩

theorem dval_snoc (ns : List Int) (d : Int) : dval (ns ++ [d]) = 10 * dval ns + (d - 48) := by
  simp only [dval, dgs, List.map_append, List.reverse_append, List.map_cons, List.map_nil, List.reverse_cons, List.reverse_nil, List.nil_append, List.singleton_append, lval]; omega
theorem dval_append (a b : List Int) : dval (a ++ b) = dval b + 10 ^ b.length * dval a := by
  rw [dval, dgs, List.map_append, List.reverse_append, lval_append]
  simp [dval, dgs]
theorem dval_lt9 {ns : List Int} (h : Dig ns) (hl : ns.length ≤ 9) : 0 ≤ dval ns ∧ dval ns < 1000000000 := by
  have h1 := dval_nonneg h
  have h2 := dval_lt h
  have h3 := p10_le hl
  exact ⟨h1, by have : (10 : Int) ^ 9 = 1000000000 := by decide
                omega⟩
theorem gp_eq (t : Nat) : gp t = 10 ^ (9 * t) := by rw [gp, show (1000000000 : Int) = 10 ^ 9 by decide, Int.pow_mul]

theorem row_calls (a : List UInt8) (h : Hp) (ha : Dig (nums a)) (hm : a.length ≤ 1000000000000) : VCalls Try.prog 51 [vstr a] h (fun v h' => v = .row 1 (rInts .u64 (rown (dval (nums a)).toNat)) ∧ h' = h) := by
  refine xc k51 rfl ?_
  have hna := nums_length a
  refine run ?_
  refine lp (fun x : Nat × Nat × List Int => [(0, vstr a), (3, .osl 1 x.1 0 x.2.1), (4, int ((a.length : Int) - 9 * x.2.1))]) (fun x => (x.1, .blk 1 (rInts .u64 x.2.2)) :: h)
    (fun x => x.2.2.length = x.2.1 ∧ Gd x.2.2 ∧ 9 * x.2.1 ≤ a.length + 8 ∧ gval x.2.2 = dval ((nums a).drop (a.length - 9 * x.2.1))) (fun x => a.length + 9 - 9 * x.2.1)
    (wkn 1 fun k => wkx (k, 0, []) ⟨rfl, (fun _ h => by cases h), by dsimp only; omega, by dsimp only; rw [List.drop_of_length_le (by omega)]; rfl⟩ fits rfl) ?_
  rintro ⟨k, t, l⟩ ⟨hl, hd, ht, hv⟩
  dsimp only at *
  refine run ?_
  refine br_d (fun hb => ?_) (fun hb => ?_)
  · refine runto 6 ?_
    refine jn (fun n : Int => [(0, vstr a), (3, .osl 1 k 0 t), (4, int ((a.length : Int) - 9 * t)), (5, .v (.int .u64 n))]) (fun _ => (k, .blk 1 (rInts .u64 l)) :: h) (fun n => n = dval (((nums a).take (a.length - 9 * t)).drop (a.length - 9 * (t + 1)))) ?_ ?_
    · refine run ?_
      refine new_k fun k5 => ?_
      have hch : List.drop (max ((a.length : Int) - 9 * t - 9) 0).toNat (List.take ((a.length : Int) - 9 * t).toNat a) = (a.take (a.length - 9 * t)).drop (a.length - 9 * (t + 1)) := by
        congr 1
        · omega
        · congr 1; omega
      rw [hch]
      have hnc : ((nums a).take (a.length - 9 * t)).drop (a.length - 9 * (t + 1)) = nums ((a.take (a.length - 9 * t)).drop (a.length - 9 * (t + 1))) := by rw [nums_drop, nums_take]
      rw [hnc]
      have hcl : ((a.take (a.length - 9 * t)).drop (a.length - 9 * (t + 1))).length ≤ 9 := by simp; omega
      have hcd : Dig (nums ((a.take (a.length - 9 * t)).drop (a.length - 9 * (t + 1)))) := by rw [← hnc]; exact Dig.drop (fun x hx => ha x (List.mem_of_mem_take hx)) _
      generalize (a.take (a.length - 9 * t)).drop (a.length - 9 * (t + 1)) = ch at *
      have hnl := nums_length ch
      refine run ?_
      refine lp (fun x : Nat × Int => [(0, vstr a), (3, .osl 1 k 0 t), (4, int ((a.length : Int) - 9 * t)), (5, .v (.int .u64 x.2)), (20, .osl 1 k5 0 ch.length), (21, int ch.length), (22, int x.1)]) (fun _ => (k5, .blk 1 (rInts .u8 (nums ch))) :: (k, .blk 1 (rInts .u64 l)) :: h)
        (fun x => x.1 ≤ ch.length ∧ x.2 = dval ((nums ch).take x.1)) (fun x => ch.length - x.1) (wkx (0, 0) ⟨by dsimp only; omega, rfl⟩ fits rfl) ?_
      rintro ⟨q, n⟩ ⟨hq, hn⟩
      dsimp only at *
      have hn9 := dval_lt9 (ns := (nums ch).take q) (fun x hx => hcd x (List.mem_of_mem_take hx)) (by simp; omega)
      rw [← hn] at hn9
      refine run ?_
      refine br_d (fun hc => ?_) (fun hc => ?_)
      · have hdq := hcd.getD (k := q) (by omega)
        refine run ?_
        refine wkx (q + 1, n * 10 + ((nums ch).getD q 0 - 48)) ⟨⟨by dsimp only; omega, ?_⟩, by dsimp only; omega⟩ fits rfl
        dsimp only
        rw [take_getD (by omega), dval_snoc, hn]; omega
      · refine run ?_
        refine wkl n ?_ fits (List.sublist_cons_self _ _)
        rw [hn, List.take_of_length_le (by omega)]
    rintro n hn
    have hn9 : 0 ≤ n ∧ n < 1000000000 := by
      rw [hn]; exact dval_lt9 (Dig.drop (fun x hx => ha x (List.mem_of_mem_take hx)) _) (by simp; omega)
    refine run ?_
    refine new_k fun k2 => ?_
    refine run ?_
    refine wkx (k2, t + 1, l ++ [n]) ⟨⟨by simp [hl], hd.snoc hn9, by dsimp only; omega, ?_⟩, by dsimp only; omega⟩ fits rfl
    dsimp only
    have hsp : (nums a).drop (a.length - 9 * (t + 1)) = ((nums a).take (a.length - 9 * t)).drop (a.length - 9 * (t + 1)) ++ (nums a).drop (a.length - 9 * t) := by
      have := List.take_append_drop (a.length - 9 * t) (nums a)
      conv => lhs; rw [← this]
      rw [List.drop_append_of_le_length (by rw [List.length_take]; omega)]
    rw [hsp, dval_append, ← hv, ← hn, gval_snoc, hl, gp_eq, List.length_drop, hna, show a.length - (a.length - 9 * t) = 9 * t by omega]
  · have hvv : gval l = dval (nums a) := by rw [hv, show a.length - 9 * t = 0 by omega, List.drop_zero]
    have hlt : l.take t = l := List.take_of_length_le (by omega)
    refine run ?_
    refine VCalls.use (short_calls k l t h hd (by omega) (by omega)) ?_
    rintro _ _ ⟨rfl, rfl, hk⟩
    rw [hlt, hvv] at hk ⊢
    refine run ?_
    have hle : (rown (dval (nums a)).toNat).length ≤ l.length := by rw [← hk, List.length_take]; omega
    refine .fz _ _ [] h k 1 _ (.osl 0 _ (by rw [rInts_length]; omega)) (retv ⟨?_, rfl⟩)
    rw [List.drop_zero, rInts, ← List.map_take, hk]; rfl
end Go.Proofs.Ytpiihodkonegbaa
/- Walks of the package tens: a row written in digits. -/
namespace Go.Proofs.Ytpiihodkonegbaa
open Go.XW Go.XW.DU Go.XW.DR
open Go.XW.DI hiding fm body sgn sizeI digs

def un (q : Nat) : Int := 100000000 / 10 ^ q
theorem un_step {x : Int} (hx : 0 ≤ x ∧ x < 1000000000) {q : Nat} (hq : q < 9) : 0 < un q ∧ 10 * (x / 10 ^ (9 - q)) + x / un q % 10 = x / 10 ^ (9 - (q + 1)) ∧ un q / 10 = un (q + 1) := by
  have h : q = 0 ∨ q = 1 ∨ q = 2 ∨ q = 3 ∨ q = 4 ∨ q = 5 ∨ q = 6 ∨ q = 7 ∨ q = 8 := by omega
  rcases h with rfl | rfl | rfl | rfl | rfl | rfl | rfl | rfl | rfl <;> (simp [un] ; try omega)
theorem un_nine : un 9 = 0 := by decide
theorem un_le {q : Nat} (hq : q ≤ 9) : 0 ≤ un q ∧ un q ≤ 100000000 := by
  have h : q = 0 ∨ q = 1 ∨ q = 2 ∨ q = 3 ∨ q = 4 ∨ q = 5 ∨ q = 6 ∨ q = 7 ∨ q = 8 ∨ q = 9 := by omega
  rcases h with rfl | rfl | rfl | rfl | rfl | rfl | rfl | rfl | rfl | rfl <;> decide
theorem Dig.snoc {l : List Int} (h : Dig l) {d : Int} (hd : 48 ≤ d ∧ d ≤ 57) : Dig (l ++ [d]) := fun x hx => by
  rcases List.mem_append.1 hx with h2 | h2
  · exact h x h2
  · simp at h2; subst h2; exact hd

theorem written_calls (l : List Int) (h : Hp) (hd : Gd l) (hm : l.length ≤ 10000000000) : VCalls Try.prog 54 [.row 1 (rInts .u64 l)] h (fun v h' => v = vstr (dc (gval l).toNat) ∧ h' = h) := by
  refine xc k54 rfl ?_
  refine run ?_
  refine new_k fun k0 => ?_
  refine run ?_
  refine lp (fun x : Nat × Nat × List Int => [(0, .row 1 (rInts .u64 l)), (3, .osl 1 x.1 0 (1 + 9 * (l.length - x.2.1))), (4, int ((x.2.1 : Int) - 1))]) (fun x => (x.1, .blk 1 (rInts .u8 x.2.2)) :: h)
    (fun x => x.2.1 ≤ l.length ∧ x.2.2.length = 1 + 9 * (l.length - x.2.1) ∧ Dig x.2.2 ∧ dval x.2.2 = gval (l.drop x.2.1)) (fun x => x.2.1)
    (wkx (k0, l.length, [48]) ⟨by dsimp only; omega, by dsimp only; rw [Nat.sub_self]; rfl, (fun x hx => by simp at hx; subst hx; omega), by dsimp only; rw [List.drop_of_length_le (by omega)]; decide⟩ fits rfl) ?_
  rintro ⟨k, j, bs⟩ ⟨hj, hbl, hbd, hv⟩
  dsimp only at *
  refine run ?_
  refine br_d (fun hb => ?_) (fun hb => ?_)
  · have hi : ((j : Int) - 1).toNat = j - 1 := by omega
    have hx := hd.getD (j - 1)
    have un0 : un 0 = 100000000 := by decide
    have p90 : (10 : Int) ^ (9 - 0) = 1000000000 := by decide
    refine run ?_
    refine lp (fun x : Nat × Nat × List Int => [(0, .row 1 (rInts .u64 l)), (3, .osl 1 x.1 0 (bs.length + x.2.1)), (4, int ((j : Int) - 1)), (5, .v (.int .u64 (un x.2.1)))]) (fun x => (x.1, .blk 1 (rInts .u8 x.2.2)) :: h)
      (fun x => x.2.1 ≤ 9 ∧ x.2.2.length = bs.length + x.2.1 ∧ Dig x.2.2 ∧ dval x.2.2 = 10 ^ x.2.1 * dval bs + l.getD (j - 1) 0 / 10 ^ (9 - x.2.1)) (fun x => 9 - x.2.1)
      (wkx (k, 0, bs) ⟨by dsimp only; omega, rfl, hbd, by dsimp only; rw [p90]; omega⟩ fits rfl) ?_
    rintro ⟨k2, q, cs⟩ ⟨hq, hcl, hcd, hcv⟩
    dsimp only at *
    have hu := un_le hq
    refine run ?_
    refine br_d (fun hc => ?_) (fun hc => ?_)
    · have hq9 : q < 9 := by
        by_cases h9 : q = 9
        · subst h9; rw [un_nine] at hc; omega
        · omega
      obtain ⟨s1, s2, s3⟩ := un_step hx hq9
      have s4 : 0 ≤ l.getD (j - 1) 0 / un q := Int.ediv_nonneg hx.1 hu.1
      have s5 : l.getD (j - 1) 0 / un q ≤ l.getD (j - 1) 0 := Int.ediv_le_self _ hx.1
      rw [← hi] at hx s4 s5
      refine run ?_
      refine new_k fun k3 => ?_
      refine run ?_
      refine wkx (k3, q + 1, cs ++ [48 + l.getD ((j : Int) - 1).toNat 0 / un q % 10]) ⟨⟨by dsimp only; omega, by simp; omega, Dig.snoc hcd (by omega), ?_⟩, by dsimp only; omega⟩ fits rfl
      dsimp only
      rw [dval_snoc, hcv, hi, ← s2, p10_succ, Int.mul_add, Int.mul_assoc]; omega
    · have hq9 : q = 9 := by
        by_cases h9 : q = 9
        · exact h9
        · have := (un_step hx (q := q) (by omega)).1; omega
      subst hq9
      have e1 : (10 : Int) ^ 9 = 1000000000 := by decide
      have e2 : (10 : Int) ^ (9 - 9) = 1 := by decide
      rw [e1, e2, hv] at hcv
      refine run ?_
      refine wkx (k2, j - 1, cs) ⟨⟨by dsimp only; omega, by dsimp only; omega, hcd, ?_⟩, by dsimp only; omega⟩ fits rfl
      dsimp only
      rw [hcv, drop_getD (ns := l) (k := j - 1) (by omega), show j - 1 + 1 = j by omega, gval, Int.ediv_one]; omega
  · have hj0 : j = 0 := by omega
    subst hj0
    rw [List.drop_zero] at hv
    refine run ?_
    refine VCalls.use (text_calls bs k _ h (by omega) (by omega) (by omega)) ?_
    rintro _ _ ⟨rfl, rfl⟩
    refine run ?_
    refine ret1 (retv ⟨?_, rfl⟩)
    rw [strip_eq hbd (by rintro rfl; simp at hbl; omega), hv]
    rfl
end Go.Proofs.Ytpiihodkonegbaa
/- Walks of the package tens: the product. -/
namespace Go.Proofs.Ytpiihodkonegbaa
open Go.XW Go.XW.DU Go.XW.DR
open Go.XW.DI hiding fm body sgn sizeI digs

theorem times_calls (a b : List Int) (h : Hp) (ha : Gd a) (hb : Gd b) (hm : a.length ≤ 10000000000) (hm2 : b.length ≤ 10000000000) : VCalls Try.prog 59 [.row 1 (rInts .u64 a), .row 1 (rInts .u64 b)] h (fun v h' => v = .row 1 (rInts .u64 (rown (gval a * gval b).toNat)) ∧ h' = h) := by
  refine xc k59 rfl ?_
  refine run ?_
  refine new_k fun k4 => ?_
  refine run ?_
  refine lp (fun x : Nat × List Int => [(0, .row 1 (rInts .u64 a)), (1, .row 1 (rInts .u64 b)), (5, .osl 1 k4 0 (a.length + b.length)), (17, .row 1 (rInts .u64 a)), (18, int a.length), (19, int x.1)])
    (fun x => (k4, .blk 1 (rInts .u64 x.2)) :: h)
    (fun x => GTi a b x.1 x.2) (fun x => a.length - x.1) (wkx (0, List.replicate (a.length + b.length) 0) (GTi.zero a b) fits ?_) ?_
  · rw [show ((a.length : Int) + b.length).toNat = a.length + b.length by omega]
  rintro ⟨i, l⟩ hI
  dsimp only at *
  have hlen := hI.len
  have hle := hI.le
  refine run ?_
  refine br_d (fun hb1 => ?_) (fun hb1 => ?_)
  · refine run ?_
    refine lp (fun x : Nat × Int × List Int => [(0, .row 1 (rInts .u64 a)), (1, .row 1 (rInts .u64 b)), (5, .osl 1 k4 0 (a.length + b.length)), (17, .row 1 (rInts .u64 a)), (18, int a.length), (19, int i), (6, int i), (7, .v (.int .u64 (a.getD i 0))), (8, .v (.int .u64 x.2.1)), (24, .row 1 (rInts .u64 b)), (25, int b.length), (26, int x.1)])
      (fun x => (k4, .blk 1 (rInts .u64 x.2.2)) :: h)
      (fun x => GTj a b i x.1 x.2.1 x.2.2) (fun x => b.length - x.1) (wkx (0, 0, l) (GTj.zero hI) fits rfl) ?_
    rintro ⟨k, c, l2⟩ hJ
    dsimp only at *
    have hlen2 := hJ.len
    have hkb := hJ.kb
    have hc := hJ.c1
    refine run ?_
    refine br_d (fun hb2 => ?_) (fun hb2 => ?_)
    · obtain ⟨hd, hst⟩ := hJ.step ha hb (by omega) (by omega) (d := c + (a.getD i 0 * b.getD k 0 + l2.getD (i + k) 0)) rfl
      have x1 := hJ.gd.getD (i + k)
      have x2 := ha.getD i
      have x3 := hb.getD k
      have x4 := mul_lt x2 x3
      have hikn : ((i : Int) + (k : Int)).toNat = i + k := by omega
      rw [← hikn] at x1 hst hd
      refine run ?_
      refine wkx (k + 1, _, _) ⟨hst, by dsimp only; omega⟩ fits rfl
    · obtain ⟨h0, hst⟩ := hJ.done (by omega) (by omega)
      have hikn : ((i : Int) + (b.length : Int)).toNat = i + b.length := by omega
      rw [← hikn] at h0 hst
      refine run ?_
      rw [h0, Int.zero_add]
      refine wkx (i + 1, _) ⟨hst, by dsimp only; omega⟩ fits rfl
  · have hv := hI.done (by omega)
    have hlt : l.take (a.length + b.length) = l := List.take_of_length_le (by omega)
    refine run ?_
    refine VCalls.use (short_calls k4 l (a.length + b.length) h hI.gd (by omega) (by omega)) ?_
    rintro _ _ ⟨rfl, rfl, hk⟩
    rw [hlt, hv] at hk ⊢
    refine run ?_
    have hle : (rown (gval a * gval b).toNat).length ≤ l.length := by rw [← hk, List.length_take]; omega
    refine .fz _ _ [] h k4 1 _ (.osl 0 _ (by rw [rInts_length]; omega)) (retv ⟨?_, rfl⟩)
    rw [List.drop_zero, rInts, ← List.map_take, hk]; rfl

theorem rown_lod (n : Nat) : (rown n).length ≤ (lod n).length := by
  induction n using Nat.strongRecOn with
  | _ n ih =>
    by_cases h : n = 0
    · subst h; rw [rown_zero]; simp
    · rw [rown_succ h, lod_succ h]
      have h1 := ih (n / 1000000000) (by omega)
      have h2 := lod_len (show n / 1000000000 ≤ n / 10 by omega)
      simp only [List.length_cons]; omega
theorem rown_dc (n : Nat) : (rown n).length ≤ (dc n).length := by
  have h1 := rown_lod n
  have h2 := lod_decs n
  rw [dc_length]; omega

theorem row_dc (n : Nat) (h : Hp) (hm : (dc n).length ≤ 1000000000000) : VCalls Try.prog 51 [vstr (dc n)] h (fun v h' => v = .row 1 (rInts .u64 (rown n)) ∧ h' = h) := by
  have := row_calls (dc n) h (by rw [nums_dc]; exact decs_dig n) hm
  rw [nums_dc, decs_val, Int.toNat_natCast] at this
  exact this
theorem times_rown (m n : Nat) (h : Hp) (hm : (rown m).length ≤ 10000000000) (hn : (rown n).length ≤ 10000000000) : VCalls Try.prog 59 [.row 1 (rInts .u64 (rown m)), .row 1 (rInts .u64 (rown n))] h (fun v h' => v = .row 1 (rInts .u64 (rown (m * n))) ∧ h' = h) := by
  have := times_calls (rown m) (rown n) h (rown_gd m) (rown_gd n) hm hn
  rw [rown_val, rown_val, ← Int.natCast_mul, Int.toNat_natCast] at this
  exact this
theorem written_rown (n : Nat) (h : Hp) (hm : (rown n).length ≤ 10000000000) : VCalls Try.prog 54 [.row 1 (rInts .u64 (rown n))] h (fun v h' => v = vstr (dc n) ∧ h' = h) := by
  have := written_calls (rown n) h (rown_gd n) hm
  rw [rown_val, Int.toNat_natCast] at this
  exact this

theorem mul_calls (a b : List UInt8) (h : Hp) (ha : a.length ≤ 1000000000) (hb : b.length ≤ 1000000000) : VCalls Try.prog 28 [vstr a, vstr b] h (fun v h' => v = binV (fun y z => y * z) a b ∧ h' = h) := by
  refine xc k28 rfl ?_
  refine run ?_
  refine VCalls.use (formed_calls a _ (by omega)) ?_
  rintro _ _ ⟨rfl, rfl⟩
  unfold binV
  cases hfa : fm a with
  | false => refine run ?_; exact retv ⟨rfl, rfl⟩
  | true =>
    refine run ?_
    refine VCalls.use (formed_calls b _ (by omega)) ?_
    rintro _ _ ⟨rfl, rfl⟩
    cases hfb : fm b with
    | false => refine run ?_; exact retv ⟨rfl, rfl⟩
    | true =>
      generalize hy : zv a = y
      generalize hz : zv b = z
      obtain rfl : a = en y := hy ▸ en_of_fm hfa
      obtain rfl : b = en z := hz ▸ en_of_fm hfb
      have h1 := dc_le_en y
      have h2 := dc_le_en z
      have h3 := dc_mul_len y.natAbs z.natAbs
      have h4 := rown_dc y.natAbs
      have h5 := rown_dc z.natAbs
      have h6 := rown_mul_len y.natAbs z.natAbs
      rw [if_pos ⟨rfl, rfl⟩]
      refine run ?_
      refine VCalls.use (split_calls (en y) _ (en_ne y) (by omega)) ?_
      rintro _ _ ⟨rfl, rfl⟩
      refine run ?_
      refine VCalls.use (split_calls (en z) _ (en_ne z) (by omega)) ?_
      rintro _ _ ⟨rfl, rfl⟩
      rw [body_en, body_en, decide_eq_decide.2 (head_en y), decide_eq_decide.2 (head_en z)]
      refine run ?_
      refine VCalls.use (row_dc _ _ (by omega)) ?_
      rintro _ _ ⟨rfl, rfl⟩
      refine run ?_
      refine VCalls.use (row_dc _ _ (by omega)) ?_
      rintro _ _ ⟨rfl, rfl⟩
      refine run ?_
      refine VCalls.use (times_rown _ _ _ (by omega) (by omega)) ?_
      rintro _ _ ⟨rfl, rfl⟩
      refine run ?_
      refine VCalls.use (written_rown _ _ (by omega)) ?_
      rintro _ _ ⟨rfl, rfl⟩
      refine run ?_
      refine VCalls.use (signed_calls _ _ _ (by omega)) ?_
      rintro _ _ ⟨rfl, rfl⟩
      refine run ?_
      refine retv ⟨?_, rfl⟩
      rw [sgn_dc, Int.natCast_mul, sign_mul]
      rfl
end Go.Proofs.Ytpiihodkonegbaa
/- Walks of the package tens: a row over one part. -/
namespace Go.Proofs.Ytpiihodkonegbaa
open Go.XW Go.XW.DU Go.XW.DR
open Go.XW.DI hiding fm body sgn sizeI digs

theorem short_row (l : List Int) (h : Hp) (hd : Gd l) (hm : l.length ≤ 1000000000000) : VCalls Try.prog 64 [.row 1 (rInts .u64 l)] h (fun v h' => v = .row 1 (rInts .u64 (rown (gval l).toNat)) ∧ h' = h) := by
  refine xc k64 rfl ?_
  refine run ?_
  refine lp (fun j : Nat => [(0, .row 1 (rInts .u64 (l.take j)))]) (fun _ => h) (fun j => j ≤ l.length ∧ gval (l.take j) = gval l) (fun j => j) (wkx l.length ⟨by omega, by rw [List.take_of_length_le (Nat.le_refl _)]⟩ (.cons _ _ _ _ rfl (by rw [List.take_of_length_le (Nat.le_refl _)]) .nil) rfl) ?_
  rintro j ⟨hj, hv⟩
  have hlj : (l.take j).length = j := by simp; omega
  have key : ¬ (0 < j ∧ l.getD (j - 1) 0 = 0) → l.take j = rown (gval l).toNat := fun hh => rown_trim hd (by omega) hv (by by_cases h0 : j = 0; exact .inl h0; exact .inr fun he => hh ⟨by omega, he⟩)
  have hg : 0 < j → (l.take j).getD (j - 1) 0 = l.getD (j - 1) 0 := fun h0 => by simp [List.getD, show j - 1 < j by omega]
  have hi : (((l.take j).length : Int) - 1).toNat = j - 1 := by omega
  refine run ?_
  refine br_d (fun hb => ?_) (fun hb => ?_)
  · refine run ?_
    refine br_d (fun hc => ?_) (fun hc => ?_)
    · rw [hi, hg (by omega)] at hc
      refine run ?_
      refine wkx (j - 1) ⟨⟨by omega, ?_⟩, by omega⟩ (.cons _ _ _ _ rfl ?_ .nil) rfl
      · rw [← hv, show j = (j - 1) + 1 by omega, gval_take0 hc]
        rfl
      · rw [hi, List.drop_zero, List.take_take, show min (j - 1) j = j - 1 by omega]
    · rw [hi, hg (by omega)] at hc
      have hk := key fun hh => hc hh.2
      refine run ?_
      refine retv ⟨by rw [← hk]; rfl, rfl⟩
  · have hk := key fun hh => hb (by omega)
    refine run ?_
    refine retv ⟨by rw [← hk]; rfl, rfl⟩

theorem shared_calls (a : List Int) (b : Int) (h : Hp) (ha : Gd a) (hb : 0 < b ∧ b ≤ 1000000000) (hm : a.length ≤ 10000000000) : VCalls Try.prog 52 [.row 1 (rInts .u64 a), .v (.int .u64 b)] h (fun v h' => v = .tup [.row 1 (rInts .u64 (rown (gval a / b).toNat)), .v (.int .u64 (gval a % b))] ∧ h' = h) := by
  refine xc k52 rfl ?_
  refine run ?_
  refine new_k fun k => ?_
  refine run ?_
  refine lp (fun x : Nat × Int × List Int => [(0, .row 1 (rInts .u64 a)), (1, .v (.int .u64 b)), (6, .osl 1 k 0 a.length), (7, .v (.int .u64 x.2.1)), (8, int ((x.1 : Int) - 1))])
    (fun x => (k, .blk 1 (rInts .u64 x.2.2)) :: h)
    (fun x => ShI a b x.1 x.2.1 x.2.2) (fun x => x.1) (wkx (a.length, 0, List.replicate a.length 0) (ShI.zero a hb.1) fits rfl) ?_
  rintro ⟨j, left, l⟩ hI
  dsimp only at *
  have hlen := hI.len
  have hle := hI.le
  have hlt := hI.lt
  refine run ?_
  refine br_d (fun hc => ?_) (fun hc => ?_)
  · have hi : ((j : Int) - 1).toNat = j - 1 := by omega
    obtain ⟨hx, hst⟩ := hI.step ha hb (by omega) rfl
    have h2 := ha.getD (j - 1)
    have hq1 : 0 ≤ (left * 1000000000 + a.getD (j - 1) 0) / b := Int.ediv_nonneg hx.1 (by omega)
    have hst2 := hst.gd.getD (j - 1)
    have hjl : j - 1 < l.length := by omega
    rw [Go.XW.DI.getD_set_self hjl] at hst2
    rw [← hi] at hst hx h2 hst2 hq1
    refine run ?_
    refine wkx (j - 1, _, _) ⟨?_, by dsimp only; omega⟩ fits rfl
    rw [← hi]
    exact hst
  · have hj0 : j = 0 := by omega
    subst hj0
    obtain ⟨hv1, hv2⟩ := hI.done hb.1
    have hlt : l.take a.length = l := List.take_of_length_le (by omega)
    refine run ?_
    refine VCalls.use (short_calls k l a.length h hI.gd (by omega) (by omega)) ?_
    rintro _ _ ⟨rfl, rfl, hk⟩
    rw [hlt, hv1] at hk ⊢
    refine run ?_
    have hle : (rown (gval a / b).toNat).length ≤ l.length := by rw [← hk, List.length_take]; omega
    refine ret_fz (.tup _ _ _ _ (.osl 0 _ (by rw [rInts_length]; omega)) (.tup _ _ _ _ (.same _) .tup0)) (retv ⟨?_, rfl⟩)
    rw [List.drop_zero, rInts, ← List.map_take, hk, hv2]; rfl
end Go.Proofs.Ytpiihodkonegbaa
/- Walks of the package tens: take and give. -/
namespace Go.Proofs.Ytpiihodkonegbaa
open Go.XW Go.XW.DU Go.XW.DR
open Go.XW.DI hiding fm body sgn sizeI digs

theorem take_calls (k a m : Nat) (L v : List Int) (g : Int) (h : Hp) (hL : Gd L) (hv : Gd v) (ham : a + m ≤ L.length) (hvm : v.length < m) (hg : 0 ≤ g ∧ g < 1000000000) (hm : L.length ≤ 10000000000000) :
    VCalls Try.prog 65 [.osl 1 k a m, .row 1 (rInts .u64 v), .v (.int .u64 g)] ((k, .blk 1 (rInts .u64 L)) :: h)
      (fun x h' => ∃ e M, x = vbool (decide (e = 1)) ∧ h' = (k, .blk 1 (rInts .u64 M)) :: h ∧ TkI L v a m g m 0 e M) := by
  refine xc k65 rfl ?_
  refine run ?_
  refine lp (fun x : Nat × Int × Int × List Int => [(0, .osl 1 k a m), (1, .row 1 (rInts .u64 v)), (2, .v (.int .u64 g)), (7, .v (.int .u64 x.2.1)), (8, .v (.int .u64 x.2.2.1)), (11, .osl 1 k a m), (12, int m), (13, int x.1)])
    (fun x => (k, .blk 1 (rInts .u64 x.2.2.2)) :: h)
    (fun x => TkI L v a m g x.1 x.2.1 x.2.2.1 x.2.2.2) (fun x => m - x.1) (wkx (0, 0, 0, L) (TkI.zero hL) fits rfl) ?_
  rintro ⟨i, c, e, M⟩ hI
  dsimp only at *
  have hlen := hI.len
  have hle := hI.le
  have hc := hI.c1
  have he := hI.e1
  refine run ?_
  refine br_d (fun hb => ?_) (fun hb => ?_)
  · have x1 := hI.gd.getD (a + i)
    have x2 := hv.getD i
    have x3 := mul_lt hg x2
    refine runto 5 ?_
    refine jn (fun c1 : Int => [(0, .osl 1 k a m), (1, .row 1 (rInts .u64 v)), (2, .v (.int .u64 g)), (7, .v (.int .u64 c1)), (8, .v (.int .u64 e)), (9, int i), (11, .osl 1 k a m), (12, int m), (13, int i)])
      (fun _ => (k, .blk 1 (rInts .u64 M)) :: h) (fun c1 => c1 = c + g * v.getD i 0) ?_ ?_
    · refine run ?_
      refine br_d (fun hb2 => ?_) (fun hb2 => ?_)
      · refine run ?_
        refine wkx _ rfl fits rfl
      · refine run ?_
        refine wkx c ?_ fits rfl
        have : v.getD i 0 = 0 := by simp [List.getD, List.getElem?_eq_none (show v.length ≤ i by omega)]
        rw [this]; omega
    rintro c1 hc1
    have hc2 : 0 ≤ c1 ∧ c1 < 1000000000000000000 := by omega
    have hai : a + i < M.length := by omega
    refine run ?_
    refine br_d (fun hb3 => ?_) (fun hb3 => ?_)
    · obtain ⟨_, hu, hst⟩ := hI.step hv hL ham (by omega) hg hc1 (u := M.getD (a + i) 0 + 1000000000 - (c1 % 1000000000 + e)) (by rw [if_pos hb3]) (by omega)
      refine run ?_
      refine wkx (i + 1, c1 / 1000000000, 1, _) ⟨hst, by dsimp only; omega⟩ fits rfl
    · obtain ⟨_, hu, hst⟩ := hI.step hv hL ham (by omega) hg hc1 (u := M.getD (a + i) 0 - (c1 % 1000000000 + e)) (by rw [if_neg hb3]) (by omega)
      refine run ?_
      refine wkx (i + 1, c1 / 1000000000, 0, _) ⟨hst, by dsimp only; omega⟩ fits rfl
  · have hie : i = m := by omega
    subst hie
    obtain ⟨h0, _⟩ := hI.done (by omega) hvm
    subst h0
    refine run ?_
    refine retv ⟨e, M, rfl, rfl, hI⟩

theorem give_calls (k a m : Nat) (L v : List Int) (h : Hp) (hL : Gd L) (hv : Gd v) (ham : a + m ≤ L.length) (hvm : v.length ≤ m) (hm : L.length ≤ 10000000000000) :
    VCalls Try.prog 66 [.osl 1 k a m, .row 1 (rInts .u64 v)] ((k, .blk 1 (rInts .u64 L)) :: h)
      (fun x h' => ∃ c M, x = .tup [] ∧ h' = (k, .blk 1 (rInts .u64 M)) :: h ∧ GvI L v a m m c M) := by
  refine xc k66 rfl ?_
  refine run ?_
  refine lp (fun x : Nat × Int × List Int => [(0, .osl 1 k a m), (1, .row 1 (rInts .u64 v)), (4, .v (.int .u64 x.2.1)), (6, .osl 1 k a m), (7, int m), (8, int x.1)])
    (fun x => (k, .blk 1 (rInts .u64 x.2.2)) :: h)
    (fun x => GvI L v a m x.1 x.2.1 x.2.2) (fun x => m - x.1) (wkx (0, 0, L) (GvI.zero hL) fits rfl) ?_
  rintro ⟨i, c, M⟩ hI
  dsimp only at *
  have hlen := hI.len
  have hle := hI.le
  have hc := hI.c1
  refine run ?_
  refine br_d (fun hb => ?_) (fun hb => ?_)
  · have x1 := hI.gd.getD (a + i)
    have x2 := hv.getD i
    have hai : a + i < M.length := by omega
    refine runto 5 ?_
    refine jn (fun d : Int => [(0, .osl 1 k a m), (1, .row 1 (rInts .u64 v)), (4, .v (.int .u64 d)), (5, int i), (6, .osl 1 k a m), (7, int m), (8, int i)])
      (fun _ => (k, .blk 1 (rInts .u64 M)) :: h) (fun d => d = c + M.getD (a + i) 0 + v.getD i 0) ?_ ?_
    · refine run ?_
      refine br_d (fun hb2 => ?_) (fun hb2 => ?_)
      · refine run ?_
        refine wkx _ rfl fits rfl
      · refine run ?_
        refine wkx (c + M.getD (a + i) 0) ?_ fits rfl
        have : v.getD i 0 = 0 := by simp [List.getD, List.getElem?_eq_none (show v.length ≤ i by omega)]
        rw [this]; omega
    rintro d hd
    obtain ⟨hd2, hst⟩ := hI.step hv ham (by omega) hd
    refine run ?_
    refine wkx (i + 1, d / 1000000000, _) ⟨hst, by dsimp only; omega⟩ fits rfl
  · have hie : i = m := by omega
    subst hie
    refine run ?_
    refine retv ⟨c, M, rfl, rfl, hI⟩
end Go.Proofs.Ytpiihodkonegbaa
/- Walks of the package tens: one row over another one. -/
namespace Go.Proofs.Ytpiihodkonegbaa
open Go.XW Go.XW.DU Go.XW.DR
open Go.XW.DI hiding fm body sgn sizeI digs

theorem times_own (a b : List Int) (h : Hp) (ha : Gd a) (hb : Gd b) (hm : a.length ≤ 10000000000) (hm2 : b.length ≤ 10000000000) : VCalls Try.prog 59 [.row 1 (rInts .u64 a), .row 1 (rInts .u64 b)] h (fun v h' => ∃ k, v = .osl 1 k 0 (rown (gval a * gval b).toNat).length ∧ h' = (k, .blk 1 (rInts .u64 (rown (gval a * gval b).toNat))) :: h) := by
  refine xc k59 rfl ?_
  refine run ?_
  refine new_k fun k4 => ?_
  refine run ?_
  refine lp (fun x : Nat × List Int => [(0, .row 1 (rInts .u64 a)), (1, .row 1 (rInts .u64 b)), (5, .osl 1 k4 0 (a.length + b.length)), (17, .row 1 (rInts .u64 a)), (18, int a.length), (19, int x.1)])
    (fun x => (k4, .blk 1 (rInts .u64 x.2)) :: h)
    (fun x => GTi a b x.1 x.2) (fun x => a.length - x.1) (wkx (0, List.replicate (a.length + b.length) 0) (GTi.zero a b) fits ?_) ?_
  · rw [show ((a.length : Int) + b.length).toNat = a.length + b.length by omega]
  rintro ⟨i, l⟩ hI
  dsimp only at *
  have hlen := hI.len
  have hle := hI.le
  refine run ?_
  refine br_d (fun hb1 => ?_) (fun hb1 => ?_)
  · refine run ?_
    refine lp (fun x : Nat × Int × List Int => [(0, .row 1 (rInts .u64 a)), (1, .row 1 (rInts .u64 b)), (5, .osl 1 k4 0 (a.length + b.length)), (17, .row 1 (rInts .u64 a)), (18, int a.length), (19, int i), (6, int i), (7, .v (.int .u64 (a.getD i 0))), (8, .v (.int .u64 x.2.1)), (24, .row 1 (rInts .u64 b)), (25, int b.length), (26, int x.1)])
      (fun x => (k4, .blk 1 (rInts .u64 x.2.2)) :: h)
      (fun x => GTj a b i x.1 x.2.1 x.2.2) (fun x => b.length - x.1) (wkx (0, 0, l) (GTj.zero hI) fits rfl) ?_
    rintro ⟨k, c, l2⟩ hJ
    dsimp only at *
    have hlen2 := hJ.len
    have hkb := hJ.kb
    have hc := hJ.c1
    refine run ?_
    refine br_d (fun hb2 => ?_) (fun hb2 => ?_)
    · obtain ⟨hd, hst⟩ := hJ.step ha hb (by omega) (by omega) (d := c + (a.getD i 0 * b.getD k 0 + l2.getD (i + k) 0)) rfl
      have x1 := hJ.gd.getD (i + k)
      have x2 := ha.getD i
      have x3 := hb.getD k
      have x4 := mul_lt x2 x3
      have hikn : ((i : Int) + (k : Int)).toNat = i + k := by omega
      rw [← hikn] at x1 hst hd
      refine run ?_
      refine wkx (k + 1, _, _) ⟨hst, by dsimp only; omega⟩ fits rfl
    · obtain ⟨h0, hst⟩ := hJ.done (by omega) (by omega)
      have hikn : ((i : Int) + (b.length : Int)).toNat = i + b.length := by omega
      rw [← hikn] at h0 hst
      refine run ?_
      rw [h0, Int.zero_add]
      refine wkx (i + 1, _) ⟨hst, by dsimp only; omega⟩ fits rfl
  · have hv := hI.done (by omega)
    have hlt : l.take (a.length + b.length) = l := List.take_of_length_le (by omega)
    refine run ?_
    refine VCalls.use (short_calls k4 l (a.length + b.length) h hI.gd (by omega) (by omega)) ?_
    rintro _ _ ⟨rfl, rfl, hk⟩
    rw [hlt, hv] at hk ⊢
    refine run ?_
    refine ret_cut (rown (gval a * gval b).toNat).length (retv ⟨k4, rfl, ?_⟩)
    rw [rInts, ← List.map_take, hk]; rfl

theorem ret_view {R : V → Hp → Prop} {v v2 : V} {h : Hp} (hq : ∀ F u, Rep F v u → Rep F v2 u) (hr : Ret R v2 h) : Ret R v h :=
  .gen (fun a b => ∀ F u, Rep F a u → Rep F b u) v v2 h h (fun base F w hs => ⟨F, FLe.refl F, hs, fun a b hab u hu => hab F u hu⟩) hq hr
theorem nilrow_tup {F : Fro} {x : V} {u : Value} (h : Rep F (.tup [vnil, x]) u) : Rep F (.tup [.row 1 [], x]) u := by
  cases h with
  | tup _ us hl =>
    cases hus : us.toList with
    | nil => rw [hus] at hl; cases hl
    | cons a r =>
      rw [hus] at hl
      cases hl with
      | cons _ _ _ _ h1 h2 => exact .tup _ _ (by rw [hus]; exact .cons _ _ _ _ (h1.weak (.nilrow 1)) h2)
theorem rown_lt {m n : Nat} (h : (rown m).length < (rown n).length) : m < n := by
  by_cases hc : m < n
  · exact hc
  · have := rown_len (show n ≤ m by omega); omega

set_option maxHeartbeats 4000000 in
theorem over_calls (m n : Nat) (h : Hp) (hn0 : 0 < n) (hm : (rown m).length ≤ 1000000000) (hn : (rown n).length ≤ 1000000000) : VCalls Try.prog 50 [.row 1 (rInts .u64 (rown m)), .row 1 (rInts .u64 (rown n))] h (fun v h' => v = .tup [.row 1 (rInts .u64 (rown (m / n))), .row 1 (rInts .u64 (rown (m % n)))] ∧ h' = h) := by
  have ga := rown_gd m
  have gb := rown_gd n
  have va := rown_val m
  have vb := rown_val n
  have hbne := rown_ne (n := n) (by omega)
  have hbpos : 0 < (rown n).length := List.length_pos_iff.2 hbne
  refine xc k50 rfl ?_
  refine run ?_
  refine br_d (fun hb1 => ?_) (fun hb1 => ?_)
  · have hlt := rown_lt (m := m) (n := n) (by omega)
    refine run ?_
    refine ret_view (fun F u hu => nilrow_tup hu) (retv ⟨?_, rfl⟩)
    rw [Nat.div_eq_of_lt hlt, Nat.mod_eq_of_lt hlt, rown_zero]; rfl
  refine run ?_
  refine br_d (fun hb2 => ?_) (fun hb2 => ?_)
  · have hb1l : (rown n).length = 1 := by omega
    have hb0 : (rown n).getD 0 0 = n := by
      have := gval_take_succ (rown n) 0
      rw [show 0 + 1 = (rown n).length by omega, List.take_length, vb] at this
      simp [gval, gp_zero] at this
      rw [this]; simp
    have g0 := gb.getD 0
    rw [hb0] at g0
    refine run ?_
    rw [hb0]
    refine VCalls.use (shared_calls (rown m) n h ga (by omega) (by omega)) ?_
    rintro _ _ ⟨rfl, rfl⟩
    rw [va, ← Int.natCast_ediv, ← Int.natCast_emod, Int.toNat_natCast]
    refine run ?_
    have hmod := Nat.mod_lt m hn0
    refine VCalls.use (short_row [((m % n : Nat) : Int)] _ (fun x hx => by simp at hx; omega) (by simp)) ?_
    rintro _ _ ⟨rfl, rfl⟩
    refine run ?_
    refine retv ⟨?_, rfl⟩
    simp [gval]; rfl
  have hla : (rown n).length ≤ (rown m).length := by omega
  have hn2 : 2 ≤ (rown n).length := by omega
  obtain ⟨s0, hvl, hul, hlt⟩ := Sc.mk' (m := m) (n := n) (by omega) hla
  have htop := rown_top (v := n) (by omega)
  have hg := gb.getD ((rown n).length - 1)
  have hi : (((rown n).length : Int) - 1).toNat = (rown n).length - 1 := by omega
  rw [← hi] at s0 hvl hul hlt htop hg
  refine run ?_
  generalize hs : 1000000000 / ((rown n).getD (((rown n).length : Int) - 1).toNat 0 + 1) = s at *
  obtain ⟨S, rfl⟩ := Int.eq_ofNat_of_zero_le (show 0 ≤ s by omega)
  rw [Int.toNat_natCast] at hvl hul hlt
  have hsg : Gd [(S : Int)] := fun x hx => by simp at hx; omega
  have hsv : gval [(S : Int)] = S := by simp [gval]
  have hSp : 0 < S := by omega
  refine VCalls.use (times_own (rown m) [(S : Int)] _ ga hsg (by omega) (by simp)) ?_
  rintro _ _ ⟨k1, rfl, rfl⟩
  rw [va, hsv, ← Int.natCast_mul, Int.toNat_natCast]
  refine run ?_
  refine VCalls.use (times_calls (rown n) [(S : Int)] _ gb hsg (by omega) (by simp)) ?_
  rintro _ _ ⟨rfl, rfl⟩
  rw [vb, hsv, ← Int.natCast_mul, Int.toNat_natCast]
  have gu := rown_gd (m * S)
  have gv := rown_gd (n * S)
  have vu := rown_val (m * S)
  have vv := rown_val (n * S)
  have hV0 : 0 < n * S := Nat.mul_pos hn0 hSp
  have htv := rown_top (v := n * S) (by omega)
  refine runto 8 ?_
  refine jn (fun x : Nat × List Int => [(0, .row 1 (rInts .u64 (rown m))), (8, .v (.int .u64 S)), (9, .osl 1 x.1 0 ((rown m).length + 1)), (10, .row 1 (rInts .u64 (rown (n * S))))]) (fun x => (x.1, .blk 1 (rInts .u64 x.2)) :: h)
    (fun x => x.2.length = (rown m).length + 1 ∧ Gd x.2 ∧ gval x.2 = ((m * S : Nat) : Int)) ?_ ?_
  · refine run ?_
    refine lp (fun x : Nat × Nat × List Int => [(0, .row 1 (rInts .u64 (rown m))), (8, .v (.int .u64 S)), (9, .osl 1 x.1 0 x.2.1), (10, .row 1 (rInts .u64 (rown (n * S))))]) (fun x => (x.1, .blk 1 (rInts .u64 x.2.2)) :: h)
      (fun x => x.2.2.length = x.2.1 ∧ x.2.1 ≤ (rown m).length + 1 ∧ Gd x.2.2 ∧ gval x.2.2 = ((m * S : Nat) : Int)) (fun x => (rown m).length + 1 - x.2.1)
      (wkx (k1, (rown (m * S)).length, rown (m * S)) ⟨rfl, hul, gu, vu⟩ fits rfl) ?_
    rintro ⟨k, t, L⟩ ⟨e1, e2, e3, e4⟩
    dsimp only at *
    refine run ?_
    refine br_d (fun hc => ?_) (fun hc => ?_)
    · refine run ?_
      refine new_k fun k2 => ?_
      refine run ?_
      refine wkx (k2, t + 1, L ++ [0]) ⟨⟨by simp [e1], by dsimp only; omega, e3.snoc (by omega), ?_⟩, by dsimp only; omega⟩ fits rfl
      dsimp only
      rw [gval_snoc, e4]; omega
    · have : t = (rown m).length + 1 := by omega
      subst this
      refine run ?_
      refine wkx (k, L) ⟨e1, e3, e4⟩ fits rfl
  clear k1
  rintro ⟨k1, L0⟩ ⟨hL1, hL2, hL3⟩
  dsimp only at *
  refine run ?_
  rw [hvl]
  refine run ?_
  refine new_k fun k3 => ?_
  rw [show (((rown m).length + 1 : Nat) - ((rown n).length : Int)).toNat = (rown m).length + 1 - (rown n).length by omega]
  rw [hvl] at htv
  generalize hvd : rown (n * S) = v at *
  generalize hNd : (rown m).length + 1 = N at *
  generalize hnd : (rown n).length = nl at *
  refine run ?_
  refine lp (fun x : Nat × List Int × List Int => [(8, .v (.int .u64 S)), (9, .osl 1 k1 0 N), (10, .row 1 (rInts .u64 v)), (11, int nl), (12, .osl 1 k3 0 (N - nl)), (13, int ((x.1 : Int) - 1))])
    (fun x => (k1, .blk 1 (rInts .u64 x.2.1)) :: (k3, .blk 1 (rInts .u64 x.2.2)) :: h)
    (fun x => OvI ((m * S : Nat) : Int) ((n * S : Nat) : Int) nl N x.1 x.2.1 x.2.2) (fun x => x.1)
    (.perm _ _ _ (List.Perm.swap _ _ _) (wkx (N - nl, L0, List.replicate (N - nl) 0) (OvI.zero hL1 hL2 hL3 hlt) fits rfl)) ?_
  rintro ⟨j, L, l⟩ hO
  dsimp only at *
  have ol := hO.len
  have oll := hO.ll
  have ojl := hO.jl
  refine run ?_
  refine br_d (fun hc => ?_) (fun hc => ?_)
  · have hgs := hO.gs gv hvl hn2 vv.symm (by omega) (by omega) htv
    have h0 := hgs.1
    have hz := hgs.2
    clear hgs
    have i0 : ((j : Int) - 1 + nl).toNat = j - 1 + nl := by omega
    have i1 : ((j : Int) - 1 + nl - 1).toNat = j - 1 + nl - 1 := by omega
    have i2 : ((j : Int) - 1 + nl - 2).toNat = j - 1 + nl - 2 := by omega
    have i3 : ((nl : Int) - 2).toNat = nl - 2 := by omega
    have y0 := hO.gd.getD (j - 1 + nl)
    have y1 := hO.gd.getD (j - 1 + nl - 1)
    rw [← i0] at y0
    rw [← i1] at y1
    rw [← i2, ← i1, ← i0, ← hi, ← i3] at h0
    have hl1 := h0.hle
    have hvt := h0.vtb
    have hv2 := h0.v2b
    have hu2 := h0.u2b
    have hG0 := Gu.zero h0
    have hG0l := hG0.le h0
    have hr0 := hG0.r0
    refine runto 17 ?_
    generalize hqd : gval (L.drop (j - 1)) / ((n * S : Nat) : Int) = q at *
    refine jn (fun g : Int => [(8, .v (.int .u64 S)), (9, .osl 1 k1 0 N), (10, .row 1 (rInts .u64 v)), (11, int nl), (12, .osl 1 k3 0 (N - nl)), (13, int ((j : Int) - 1)), (15, .v (.int .u64 g))])
      (fun _ => (k1, .blk 1 (rInts .u64 L)) :: (k3, .blk 1 (rInts .u64 l)) :: h) (fun g => (0 ≤ g ∧ g < 1000000000) ∧ (g = q ∨ g = q + 1)) ?_ ?_
    · refine run ?_
      refine lp (fun x : Int × Int => [(8, .v (.int .u64 S)), (9, .osl 1 k1 0 N), (10, .row 1 (rInts .u64 v)), (11, int nl), (12, .osl 1 k3 0 (N - nl)), (13, int ((j : Int) - 1)), (15, .v (.int .u64 x.1)), (16, .v (.int .u64 x.2))])
        (fun _ => (k1, .blk 1 (rInts .u64 L)) :: (k3, .blk 1 (rInts .u64 l)) :: h)
        (fun x => Gu q (v.getD ((nl : Int) - 1).toNat 0) (L.getD ((j : Int) - 1 + nl).toNat 0 * 1000000000 + L.getD ((j : Int) - 1 + nl - 1).toNat 0) x.1 x.2) (fun x => x.1.toNat)
        (wkx (_, _) hG0 fits rfl) ?_
      rintro ⟨g, r⟩ hG
      dsimp only at *
      have hgl : 0 ≤ g ∧ g < 2000000000 := (hqd ▸ hG : Gu (gval (L.drop (j - 1)) / ((n * S : Nat) : Int)) _ _ g r).le h0
      have hgr := hG.r0
      have x1 : 0 ≤ g * v.getD ((nl : Int) - 2).toNat 0 := Int.mul_nonneg hgl.1 hv2.1
      have x2 : g * v.getD ((nl : Int) - 2).toNat 0 ≤ 2000000000 * 1000000000 := Int.mul_le_mul (by omega) (by omega) hv2.1 (by omega)
      have fin : ¬ (r < 1000000000 ∧ (1000000000 ≤ g ∨ r * 1000000000 + L.getD ((j : Int) - 1 + nl - 2).toNat 0 < g * v.getD ((nl : Int) - 2).toNat 0)) → (0 ≤ g ∧ g < 1000000000) ∧ (g = q ∨ g = q + 1) := fun hh => by
        have := (hqd ▸ hG : Gu (gval (L.drop (j - 1)) / ((n * S : Nat) : Int)) _ _ g r).done h0 hh
        rw [hqd] at this
        exact ⟨by omega, this.2⟩
      have nxt : (1000000000 ≤ g ∨ r * 1000000000 + L.getD ((j : Int) - 1 + nl - 2).toNat 0 < g * v.getD ((nl : Int) - 2).toNat 0) → Gu q (v.getD ((nl : Int) - 1).toNat 0) (L.getD ((j : Int) - 1 + nl).toNat 0 * 1000000000 + L.getD ((j : Int) - 1 + nl - 1).toNat 0) (g - 1) (r + v.getD ((nl : Int) - 1).toNat 0) ∧ 1 ≤ g := fun hh => by
        have := (hqd ▸ hG : Gu (gval (L.drop (j - 1)) / ((n * S : Nat) : Int)) _ _ g r).step h0 hh
        rw [hqd] at this
        exact this
      refine run ?_
      refine br_d (fun hr => ?_) (fun hr => ?_)
      · refine run ?_
        refine br_d (fun hB => ?_) (fun hB => ?_)
        · obtain ⟨z1, z2⟩ := nxt (.inl (by omega))
          refine run ?_
          refine wkx (g - 1, r + v.getD ((nl : Int) - 1).toNat 0) ⟨z1, by dsimp only; omega⟩ fits rfl
        · refine run ?_
          refine br_d (fun hC => ?_) (fun hC => ?_)
          · obtain ⟨z1, z2⟩ := nxt (.inr (by omega))
            refine run ?_
            refine wkx (g - 1, r + v.getD ((nl : Int) - 1).toNat 0) ⟨z1, by dsimp only; omega⟩ fits rfl
          · refine run ?_
            refine wkx g (fin (by omega)) fits rfl
      · refine run ?_
        refine wkx g (fin (by omega)) fits rfl
    rintro g ⟨hg1, hg2⟩
    have i4 : ((j : Int) - 1).toNat = j - 1 := by omega
    have i5 : ((j : Int) - 1 + nl + 1).toNat - ((j : Int) - 1).toNat = nl + 1 := by omega
    refine run ?_
    rw [i5, i4]
    refine VCalls.use (take_calls k1 (j - 1) (nl + 1) L v g _ hO.gd gv (by omega) (by omega) hg1 (by omega)) ?_
    rintro _ _ ⟨e, M, rfl, rfl, hT⟩
    have hVp : (0 : Int) < ((n * S : Nat) : Int) := by omega
    obtain ⟨t1, t2, t3⟩ := hO.took gv hvl vv.symm hVp (by omega) (by omega) hz (by rw [hqd]; exact hg2) hT
    have hqq := h0.q
    rw [hqd] at t3 hqq
    have hMl : M.length = N := by rw [hT.len, ol]
    rcases t3 with ⟨rfl, rfl, t4⟩ | ⟨rfl, rfl, t4⟩
    · refine run ?_
      rw [i4]
      refine wkx (j - 1, M, l.set (j - 1) _) ⟨hO.next hVp (by omega) hqd.symm ⟨hqq.1, hqq.2.1⟩ hT.gd hMl t1 t4, by dsimp only; omega⟩ fits rfl
    · refine run ?_
      rw [i5, i4]
      refine VCalls.use (give_calls k1 (j - 1) (nl + 1) M v _ hT.gd gv (by omega) (by omega) (by omega)) ?_
      rintro _ _ ⟨c, M2, rfl, rfl, hGv⟩
      obtain ⟨w1, w2⟩ := hO.gave gv hvl vv.symm hVp (by omega) (by omega) hT.low t1 t2 hMl t4 hGv
      refine run ?_
      rw [i4]
      refine wkx (j - 1, M2, l.set (j - 1) _) ⟨hO.next hVp (by omega) (q := q) hqd.symm ⟨hqq.1, hqq.2.1⟩ hGv.gd (by rw [hGv.len, hMl]) w1 w2, by dsimp only; omega⟩ fits ?_
      rw [show q + 1 - 1 = q by omega]
  · have hj0 : j = 0 := by omega
    subst hj0
    obtain ⟨q1, q2⟩ := hO.done (by omega)
    have hLl : gval (L.take nl) = ((m * S : Nat) : Int) % ((n * S : Nat) : Int) := by
      have p1 := gval_parts L nl (by omega)
      have p2 := hO.lt
      have p3 := gval_lt gv
      rw [vv, hvl] at p3
      rw [gp_zero, Int.one_mul] at p2
      have p4 := gval_nonneg (hO.gd.drop nl)
      have p5 := gval_nonneg (hO.gd.take nl)
      have p6 : gval (L.drop nl) = 0 := by
        by_cases hz : gval (L.drop nl) = 0
        · exact hz
        · have : gp nl * 1 ≤ gp nl * gval (L.drop nl) := Int.mul_le_mul_of_nonneg_left (by omega) (by have := gp_pos nl; omega)
          omega
      rw [p6] at p1
      omega
    have hmd : ((m * S : Nat) : Int) % ((n * S : Nat) : Int) = ((m % n * S : Nat) : Int) := by rw [← Int.natCast_emod, Nat.mul_mod_mul_right]
    have hdv : ((m * S : Nat) : Int) / ((n * S : Nat) : Int) = ((m / n : Nat) : Int) := by rw [← Int.natCast_ediv, Nat.mul_div_mul_right _ _ hSp]
    refine run ?_
    refine VCalls.use (short_calls k1 L nl _ hO.gd (by omega) (by omega)) ?_
    rintro _ _ ⟨rfl, rfl, hk⟩
    rw [hLl, hmd, Int.toNat_natCast] at hk ⊢
    refine run ?_
    have hle : (rown (m % n * S)).length ≤ L.length := by rw [← hk, List.length_take]; omega
    refine VCalls.fz0 (.cons _ _ _ _ (.osl 0 _ (by rw [rInts_length]; omega)) (.cons _ _ _ _ (.same _) .nil)) ?_
    have he : ((rInts .u64 L).drop 0).take (rown (m % n * S)).length = rInts .u64 (rown (m % n * S)) := by rw [List.drop_zero, rInts, ← List.map_take, hk]; rfl
    rw [he]
    refine VCalls.use (shared_calls (rown (m % n * S)) S _ (rown_gd _) (by omega) (by omega)) ?_
    rintro _ _ ⟨rfl, rfl⟩
    rw [rown_val, show ((m % n * S : Nat) : Int) / (S : Int) = ((m % n : Nat) : Int) by rw [← Int.natCast_ediv, Nat.mul_div_cancel _ hSp], Int.toNat_natCast]
    refine run ?_
    refine VCalls.use (short_calls k3 l (N - nl) _ hO.gl (by omega) (by omega)) ?_
    rintro _ _ ⟨rfl, rfl, hk2⟩
    rw [List.take_of_length_le (by omega : l.length ≤ N - nl), q1, hdv, Int.toNat_natCast] at hk2 ⊢
    refine run ?_
    have hle2 : (rown (m / n)).length ≤ l.length := by rw [← hk2, List.length_take]; omega
    refine ret_fz (.tup _ _ _ _ (.osl 0 _ (by rw [rInts_length]; omega)) (.tup _ _ _ _ (.same _) .tup0)) (retv ⟨?_, rfl⟩)
    rw [List.drop_zero, rInts, ← List.map_take, hk2]; rfl
end Go.Proofs.Ytpiihodkonegbaa
/- Walks of the package tens: Div, Mod. -/
namespace Go.Proofs.Ytpiihodkonegbaa
open Go.XW Go.XW.DU Go.XW.DR
open Go.XW.DI hiding fm body sgn sizeI digs

/-- The quotient toward zero, and what it leaves. -/
def qd (y z : Int) : Int := if decide (y < 0) != decide (z < 0) then -((y.natAbs / z.natAbs : Nat) : Int) else (y.natAbs / z.natAbs : Nat)
def md (y z : Int) : Int := if decide (y < 0) then -((y.natAbs % z.natAbs : Nat) : Int) else (y.natAbs % z.natAbs : Nat)
/-- What is answered of two texts of which the second one isn't to be 0. -/
def divV (f : Int → Int → Int) (a b : List UInt8) : V := if fm a = true ∧ fm b = true then if b = [48] then .tup [vstr [], int 10] else .tup [vstr (en (f (zv a) (zv b))), int 0] else .tup [vstr [], int 1]
def bothV (a b : List UInt8) : V := if fm a = true ∧ fm b = true then if b = [48] then .tup [vstr [], vstr [], int 10] else .tup [vstr (en (qd (zv a) (zv b))), vstr (en (md (zv a) (zv b))), int 0] else .tup [vstr [], vstr [], int 1]

theorem both_calls (a b : List UInt8) (h : Hp) (ha : a.length ≤ 100000000) (hb : b.length ≤ 100000000) : VCalls Try.prog 60 [vstr a, vstr b] h (fun v h' => v = bothV a b ∧ h' = h) := by
  refine xc k60 rfl ?_
  refine run ?_
  refine VCalls.use (formed_calls a _ (by omega)) ?_
  rintro _ _ ⟨rfl, rfl⟩
  unfold bothV
  cases hfa : fm a with
  | false => refine run ?_; exact retv ⟨rfl, rfl⟩
  | true =>
    refine run ?_
    refine VCalls.use (formed_calls b _ (by omega)) ?_
    rintro _ _ ⟨rfl, rfl⟩
    cases hfb : fm b with
    | false => refine run ?_; exact retv ⟨rfl, rfl⟩
    | true =>
      rw [if_pos ⟨rfl, rfl⟩]
      refine run ?_
      refine br_d (fun h0 => ?_) (fun h0 => ?_)
      · refine run ?_
        rw [if_pos h0]
        exact retv ⟨rfl, rfl⟩
      rw [if_neg h0]
      generalize hy : zv a = y
      generalize hz : zv b = z
      obtain rfl : a = en y := hy ▸ en_of_fm hfa
      obtain rfl : b = en z := hz ▸ en_of_fm hfb
      have hz0 : z ≠ 0 := fun hc => h0 ((en_eq0 z).2 hc)
      have h1 := dc_le_en y
      have h2 := dc_le_en z
      have h4 := rown_dc y.natAbs
      have h5 := rown_dc z.natAbs
      have h6 := dc_mono (Nat.div_le_self y.natAbs z.natAbs)
      have h7 := dc_mono (Nat.mod_le y.natAbs z.natAbs)
      have h8 := rown_dc (y.natAbs / z.natAbs)
      have h9 := rown_dc (y.natAbs % z.natAbs)
      refine run ?_
      refine VCalls.use (split_calls (en y) _ (en_ne y) (by omega)) ?_
      rintro _ _ ⟨rfl, rfl⟩
      refine run ?_
      refine VCalls.use (split_calls (en z) _ (en_ne z) (by omega)) ?_
      rintro _ _ ⟨rfl, rfl⟩
      rw [body_en, body_en, decide_eq_decide.2 (head_en y), decide_eq_decide.2 (head_en z)]
      refine run ?_
      refine VCalls.use (row_dc _ _ (by omega)) ?_
      rintro _ _ ⟨rfl, rfl⟩
      refine run ?_
      refine VCalls.use (row_dc _ _ (by omega)) ?_
      rintro _ _ ⟨rfl, rfl⟩
      refine run ?_
      refine VCalls.use (over_calls _ _ _ (by omega) (by omega) (by omega)) ?_
      rintro _ _ ⟨rfl, rfl⟩
      refine run ?_
      refine VCalls.use (written_rown _ _ (by omega)) ?_
      rintro _ _ ⟨rfl, rfl⟩
      refine run ?_
      refine VCalls.use (signed_calls _ _ _ (by omega)) ?_
      rintro _ _ ⟨rfl, rfl⟩
      refine run ?_
      refine VCalls.use (written_rown _ _ (by omega)) ?_
      rintro _ _ ⟨rfl, rfl⟩
      refine run ?_
      refine VCalls.use (signed_calls _ _ _ (by omega)) ?_
      rintro _ _ ⟨rfl, rfl⟩
      refine run ?_
      refine retv ⟨?_, rfl⟩
      rw [sgn_dc, sgn_dc]
      rfl

theorem div_calls (a b : List UInt8) (h : Hp) (ha : a.length ≤ 100000000) (hb : b.length ≤ 100000000) : VCalls Try.prog 30 [vstr a, vstr b] h (fun v h' => v = divV qd a b ∧ h' = h) := by
  refine xc k30 rfl ?_
  refine run ?_
  refine VCalls.use (both_calls a b _ ha hb) ?_
  rintro _ _ ⟨rfl, rfl⟩
  unfold bothV divV
  by_cases h1 : fm a = true ∧ fm b = true
  · rw [if_pos h1, if_pos h1]
    by_cases h2 : b = [48]
    · rw [if_pos h2, if_pos h2]; refine run ?_; exact retv ⟨rfl, rfl⟩
    · rw [if_neg h2, if_neg h2]; refine run ?_; exact retv ⟨rfl, rfl⟩
  · rw [if_neg h1, if_neg h1]; refine run ?_; exact retv ⟨rfl, rfl⟩
theorem mod_calls (a b : List UInt8) (h : Hp) (ha : a.length ≤ 100000000) (hb : b.length ≤ 100000000) : VCalls Try.prog 32 [vstr a, vstr b] h (fun v h' => v = divV md a b ∧ h' = h) := by
  refine xc k32 rfl ?_
  refine run ?_
  refine VCalls.use (both_calls a b _ ha hb) ?_
  rintro _ _ ⟨rfl, rfl⟩
  unfold bothV divV
  by_cases h1 : fm a = true ∧ fm b = true
  · rw [if_pos h1, if_pos h1]
    by_cases h2 : b = [48]
    · rw [if_pos h2, if_pos h2]; refine run ?_; exact retv ⟨rfl, rfl⟩
    · rw [if_neg h2, if_neg h2]; refine run ?_; exact retv ⟨rfl, rfl⟩
  · rw [if_neg h1, if_neg h1]; refine run ?_; exact retv ⟨rfl, rfl⟩
end Go.Proofs.Ytpiihodkonegbaa
