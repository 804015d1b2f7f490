/- Walks of the package tens: what is a number, its parts, its order. -/
import Derived.Test.YtpiihodkonegbaaC0
import Derived.Test.YtpiihodkonegbaaXH
import Derived.Test.YtpiihodkonegbaaP1
set_option linter.unusedVariables false
namespace Go.Proofs.Ytpiihodkonegbaa
open Go.XW Go.XW.DU

theorem head_getD {l : List UInt8} (h : l ≠ []) : l.head? = some (l.getD 0 0) := by
  cases l with
  | nil => exact absurd rfl h
  | cons a l => rfl
theorem u8n (n : Nat) (c : UInt8) (hn : n < 256) : ((c.toNat : Int) = (n : Int)) ↔ c = UInt8.ofNat n := by
  constructor
  · intro h
    apply UInt8.toNat_inj.1
    have : c.toNat = n := by omega
    rw [this]; simp; omega
  · rintro rfl; simp; omega
theorem body_len (l : List UInt8) : (body l).length ≤ l.length := by unfold body; split <;> simp
theorem digs_step (l : List UInt8) (k : Nat) (hk : k < l.length) : digs (l.take (k + 1)) = (digs (l.take k) && digB (l.getD k 0)) := by
  rw [List.take_add_one]
  simp only [digs, List.getD, List.all_append]
  simp [hk]
theorem digs_take (l : List UInt8) (k : Nat) (h : digs (l.take k) = false) : digs l = false := by
  rw [← List.take_append_drop k l, digs, List.all_append]
  unfold digs at h
  rw [h]; rfl

theorem b45 (c : UInt8) : ((c.toNat : Int) = 45) ↔ c = 45 := u8n 45 c (by omega)
theorem b48 (c : UInt8) : ((c.toNat : Int) = 48) ↔ c = 48 := u8n 48 c (by omega)

theorem formed_calls (l : List UInt8) (h : Hp) (hm : l.length ≤ 9223372036854775807) : VCalls Try.prog 37 [vstr l] h (fun v h' => v = vbool (fm l) ∧ h' = h) := by
  refine xc k37 rfl ?_
  refine runto 3 ?_
  refine br_d (fun hb => ?_) (fun h0 => ?_)
  · refine run ?_
    subst hb
    exact .now _ _ ⟨rfl, rfl⟩
  refine runto 3 ?_
  refine jn (fun bs => [(0, vstr bs)]) (fun _ => h) (fun bs => bs = body l) ?_ ?_
  · refine run ?_
    refine br_nd (fun hb => ?_) (fun hb => ?_)
    · have hl : 0 < l.length := List.length_pos_iff.2 hb
      refine run ?_
      refine br_d (fun hc => ?_) (fun hc => ?_)
      · refine run ?_
        refine wkx _ ?_ fits rfl
        rw [body, if_pos (by rw [head_getD hb, (b45 _).1 hc])]
      · refine run ?_
        refine wkx _ ?_ fits rfl
        rw [body, if_neg (by rw [head_getD hb]; intro he; exact hc ((b45 _).2 (Option.some.inj he)))]
    · refine run ?_
      refine wkx _ ?_ fits rfl
      subst hb; rfl
  · rintro bs rfl
    have hbl := body_len l
    have hf : fm l = (decide (body l ≠ [] ∧ (body l).head? ≠ some 48) && digs (body l)) := by rw [fm]; simp [h0]
    rw [hf]
    generalize body l = bs at *
    refine run ?_
    refine br_d (fun hb => ?_) (fun hne => ?_)
    · refine run ?_
      subst hb; exact .now _ _ ⟨rfl, rfl⟩
    have hl : 0 < bs.length := List.length_pos_iff.2 hne
    refine run ?_
    refine br_d (fun hc => ?_) (fun hc => ?_)
    · refine run ?_
      have : bs.head? = some 48 := by rw [head_getD hne, (b48 _).1 hc]
      refine .now _ _ ⟨?_, rfl⟩
      simp [this]; rfl
    have hh : bs.head? ≠ some 48 := by rw [head_getD hne]; intro he; exact hc ((b48 _).2 (Option.some.inj he))
    refine run ?_
    refine lp (fun k : Nat => [(0, vstr bs), (23, int bs.length), (24, int k)]) (fun _ => h) (fun k => k ≤ bs.length ∧ digs (bs.take k) = true) (fun k => bs.length - k) (wkx 0 ⟨by omega, rfl⟩ fits rfl) ?_
    rintro k ⟨hk, hd⟩
    refine run ?_
    refine br_d (fun hlt => ?_) (fun hlt => ?_)
    · refine run ?_
      refine br_d (fun hc => ?_) (fun hc => ?_)
      · refine run ?_
        refine .now _ _ ⟨?_, rfl⟩
        have : digs bs = false := digs_take bs (k + 1) (by rw [digs_step bs k (by omega), hd]; generalize bs.getD k 0 = c at *; simp [digB]; omega)
        simp [this]; rfl
      refine run ?_
      refine br_d (fun hc2 => ?_) (fun hc2 => ?_)
      · refine run ?_
        refine .now _ _ ⟨?_, rfl⟩
        have : digs bs = false := digs_take bs (k + 1) (by rw [digs_step bs k (by omega), hd]; generalize bs.getD k 0 = c at *; simp [digB]; omega)
        simp [this]; rfl
      · refine run ?_
        refine wkx (k + 1) ⟨⟨by omega, ?_⟩, by omega⟩ fits rfl
        rw [digs_step bs k (by omega), hd]; generalize bs.getD k 0 = c at *; simp [digB]; omega
    · refine run ?_
      refine .now _ _ ⟨?_, rfl⟩
      have : digs bs = true := by rw [List.take_of_length_le (by omega)] at hd; exact hd
      simp [this, hne, hh]; rfl

theorem split_calls (l : List UInt8) (h : Hp) (hne : l ≠ []) (hm : l.length ≤ 9223372036854775807) : VCalls Try.prog 42 [vstr l] h (fun v h' => v = .tup [vbool (decide (l.head? = some 45)), vstr (body l)] ∧ h' = h) := by
  have hl : 0 < l.length := List.length_pos_iff.2 hne
  refine xc k42 rfl ?_
  refine run ?_
  refine br_d (fun hc => ?_) (fun hc => ?_)
  · have h1 : l.head? = some 45 := by rw [head_getD hne, (b45 _).1 hc]
    refine run ?_
    rw [body, if_pos h1]
    exact .now _ _ ⟨by simp [h1]; rfl, rfl⟩
  · have h1 : ¬ l.head? = some 45 := by rw [head_getD hne]; intro he; exact hc ((b45 _).2 (Option.some.inj he))
    refine run ?_
    rw [body, if_neg h1]
    exact .now _ _ ⟨by simp [h1]; rfl, rfl⟩

theorem size_calls (a b : List UInt8) (h : Hp) (hm : a.length ≤ 9223372036854775807) (hm2 : b.length ≤ 9223372036854775807) : VCalls Try.prog 43 [vstr a, vstr b] h (fun v h' => v = int (sizeI a b) ∧ h' = h) := by
  refine xc k43 rfl ?_
  refine run ?_
  refine br_nd (fun hb => ?_) (fun hb => ?_)
  · refine run ?_
    have h1 : a.length ≠ b.length := by omega
    rw [sizeI, if_pos h1]
    refine .now _ _ ⟨?_, rfl⟩
    show int _ = int _
    congr 2; split <;> omega
  · have h1 : ¬ a.length ≠ b.length := by omega
    refine run ?_
    refine ⟨fun hb => ?_, fun hb => ?_⟩
    · refine run ?_
      rw [sizeI, if_neg h1, if_pos hb]; exact .now _ _ ⟨rfl, rfl⟩
    · refine run ?_
      refine ⟨fun hb2 => ?_, fun hb2 => ?_⟩
      · refine run ?_
        rw [sizeI, if_neg h1, if_neg (by simp [hb]), if_pos hb2]; exact .now _ _ ⟨rfl, rfl⟩
      · refine run ?_
        rw [sizeI, if_neg h1, if_neg (by simp [hb]), if_neg (by simp [hb2])]; exact .now _ _ ⟨rfl, rfl⟩

theorem signed_calls (b : Bool) (l : List UInt8) (h : Hp) (hm : l.length < 9223372036854775807) : VCalls Try.prog 46 [vbool b, vstr l] h (fun v h' => v = vstr (sgn b l) ∧ h' = h) := by
  refine xc k46 rfl ?_
  cases b with
  | false =>
    refine run ?_
    exact .now _ _ ⟨rfl, rfl⟩
  | true =>
    refine run ?_
    refine br_nd (fun hb => ?_) (fun hb => ?_)
    · refine run ?_
      rw [sgn, if_pos ⟨rfl, hb⟩]; exact .now _ _ ⟨rfl, rfl⟩
    · refine run ?_
      rw [sgn, if_neg (fun h => h.2 hb)]; exact .now _ _ ⟨rfl, rfl⟩

theorem text_calls (ns : List Int) (k0 n : Nat) (h : Hp) (hn : ns.length = n) (hl : 0 < n) (hm : n ≤ 9223372036854775807) : VCalls Try.prog 67 [.osl 1 k0 0 n] ((k0, .blk 1 (rInts .u8 ns)) :: h) (fun v h' => v = vstr (ofNums (DI.strip ns)) ∧ h' = (k0, .blk 1 (rInts .u8 ns)) :: h) := by
  refine xc k67 rfl ?_
  refine run ?_
  refine lp (fun k : Nat => [(0, .osl 1 k0 0 n), (3, int k)]) (fun _ => (k0, .blk 1 (rInts .u8 ns)) :: h) (fun k => k < n ∧ DI.strip ns = DI.strip (ns.drop k)) (fun k => n - k) (wkx 0 ⟨hl, rfl⟩ fits rfl) ?_
  rintro k ⟨hk, hst⟩
  refine run ?_
  refine br_d (fun hb => ?_) (fun hb => ?_)
  · refine run ?_
    refine br_d (fun hc => ?_) (fun hc => ?_)
    · refine run ?_
      refine wkx (k + 1) ⟨⟨by omega, ?_⟩, by omega⟩ fits rfl
      rw [hst]; exact DI.strip_step ns k (by omega) hc
    · refine run ?_
      refine retv ⟨?_, rfl⟩
      rw [hst, DI.strip_end ns k (by omega) (fun hh => hc hh.2), show k + (n - k) = n by omega, List.take_of_length_le (by omega)]
      rfl
  · refine run ?_
    refine retv ⟨?_, rfl⟩
    rw [hst, DI.strip_end ns k (by omega) (fun hh => hb (by omega)), show k + (n - k) = n by omega, List.take_of_length_le (by omega)]
    rfl
end Go.Proofs.Ytpiihodkonegbaa
/- Walks of the package tens: the sum and the difference of digits. -/
namespace Go.Proofs.Ytpiihodkonegbaa
open Go.XW Go.XW.DU Go.XW.DI

theorem plus_calls (a b : List UInt8) (h : Hp) (ha : Dig (nums a)) (hb0 : Dig (nums b)) (hm : a.length ≤ 1000000000000) (hm2 : b.length ≤ 1000000000000) : VCalls Try.prog 53 [vstr a, vstr b] h (fun v h' => v = vstr (dc (dval (nums a) + dval (nums b)).toNat) ∧ h' = h) := by
  refine xc k53 rfl ?_
  refine runto 1 ?_
  refine jn (fun x : List UInt8 × List UInt8 => [(0, vstr x.1), (1, vstr x.2)]) (fun _ => h) (fun x => Dig (nums x.1) ∧ Dig (nums x.2) ∧ x.2.length ≤ x.1.length ∧ x.1.length ≤ 1000000000000 ∧ dval (nums x.1) + dval (nums x.2) = dval (nums a) + dval (nums b)) ?_ ?_
  · refine run ?_
    refine br_d (fun hb => ?_) (fun hb => ?_)
    · refine run ?_
      exact wkx (b, a) ⟨hb0, ha, by dsimp only; omega, hm2, by dsimp only; omega⟩ fits rfl
    · refine run ?_
      exact wkx (a, b) ⟨ha, hb0, by dsimp only; omega, hm, rfl⟩ fits rfl
  rintro ⟨a', b'⟩ ⟨ha', hb', hl, hla, hv⟩
  dsimp only at *
  rw [← hv]
  clear hv ha hb0 hm hm2 a b
  have hna := nums_length a'
  have hnb := nums_length b'
  refine run ?_
  refine new_k fun k1 => ?_
  refine run ?_
  refine new_k fun k2 => ?_
  refine run ?_
  refine new_k fun k3 => ?_
  refine run ?_
  refine lp (fun x : Nat × Int × List Int => [(0, vstr a'), (1, vstr b'), (5, .osl 1 k3 0 (1 + a'.length)), (6, .v (.int .u8 x.2.1)), (7, int x.1)]) (fun x => (k3, .blk 1 (rInts .u8 x.2.2)) :: h) (fun x => PlusI (nums a') (nums b') x.1 x.2.1 x.2.2) (fun x => a'.length + 1 - x.1)
    (wkx (1, 0, 48 :: nums a') (PlusI.zero _ _ ha') fits rfl) ?_
  rintro ⟨i, c, ns⟩ hI
  dsimp only at *
  have hi1 := hI.i1; have hi2 := hI.i2; have hc := hI.c1; have hlen := hI.len
  have hat : (((1 + a'.length : Nat) : Int) - (i : Int)).toNat = a'.length + 1 - i := by omega
  refine run ?_
  refine br_d (fun hb => ?_) (fun hb => ?_)
  · have hx := hI.dig.getD (k := (((1 + a'.length : Nat) : Int) - (i : Int)).toNat) (by omega)
    have hia : i ≤ a'.length := by omega
    refine run ?_
    refine br_d (fun hib => ?_) (fun hib => ?_)
    · have hy := hb'.getD (k := ((b'.length : Int) - (i : Int)).toNat) (by omega)
      rw [nums_getD] at hy
      have hbt : ((b'.length : Int) - (i : Int)).toNat = b'.length - i := by omega
      refine run ?_
      refine br_d (fun hb => ?_) (fun hb => ?_)
      · refine run ?_
        refine wkx (i + 1, 1, _) ⟨?_, ?_⟩ fits rfl
        · dsimp only
          simp only [hbt, hat] at hx hy hb ⊢
          rw [← hna] at hx hb ⊢
          exact hI.step (by omega) (x := ((b'.getD (b'.length - i) 0).toNat : Int) - 48) (by rw [if_pos (by omega), hnb, nums_getD]) (by omega) (.inr rfl) (by omega)
        · dsimp only; omega
      · refine run ?_
        refine wkx (i + 1, 0, _) ⟨?_, ?_⟩ fits rfl
        · dsimp only
          simp only [hbt, hat] at hx hy hb ⊢
          rw [← hna] at hx hb ⊢
          exact hI.step (by omega) (x := ((b'.getD (b'.length - i) 0).toNat : Int) - 48) (by rw [if_pos (by omega), hnb, nums_getD]) (by omega) (.inl rfl) (by omega)
        · dsimp only; omega
    · refine run ?_
      refine br_d (fun hb => ?_) (fun hb => ?_)
      · refine run ?_
        refine wkx (i + 1, 1, _) ⟨?_, ?_⟩ fits rfl
        · dsimp only
          simp only [hat] at hx hb ⊢
          rw [← hna] at hx hb ⊢
          exact hI.step (by omega) (x := 0) (if_neg (by omega)).symm (by omega) (.inr rfl) (by omega)
        · dsimp only; omega
      · refine run ?_
        refine wkx (i + 1, 0, _) ⟨?_, ?_⟩ fits rfl
        · dsimp only
          simp only [hat] at hx hb ⊢
          rw [← hna] at hx hb ⊢
          exact hI.step (by omega) (x := 0) (if_neg (by omega)).symm (by omega) (.inl rfl) (by omega)
        · dsimp only; omega
  · obtain ⟨h0, hd, hv⟩ := hI.done (by omega) (by omega)
    refine run ?_
    rw [h0]
    refine VCalls.use (text_calls _ k3 _ h (by rw [List.length_set]; omega) (by omega) (by omega)) ?_
    rintro _ _ ⟨rfl, rfl⟩
    refine run ?_
    refine ret1 (retv ⟨?_, rfl⟩)
    rw [strip_eq hd (by intro hc; have := congrArg List.length hc; rw [List.length_set, hlen] at this; simp at this), hv]
    rfl
end Go.Proofs.Ytpiihodkonegbaa
/- Walks of the reference of layer 1: what is a number; numbers read; their order. -/
namespace Go.Proofs.Ytpiihodkonegbaa
open Go.XW Go.XW.DU

/-- How many bytes a sign takes. -/
def sg (l : List UInt8) : Nat := if l.head? = some 45 then 1 else 0
theorem body_sg (l : List UInt8) : body l = l.drop (sg l) := by unfold body sg; split <;> simp
theorem sg_le (l : List UInt8) : sg l ≤ l.length := by
  unfold sg; split
  · cases l with
    | nil => simp at *
    | cons a l => simp
  · omega

theorem rformed_calls (l : List UInt8) (h : Hp) (hm : l.length ≤ 9223372036854775807) : VCalls Try.prog 39 [vstr l] h (fun v h' => v = vbool (fm l) ∧ h' = h) := by
  refine xc k39 rfl ?_
  refine runto 2 ?_
  refine jn (fun x : Nat => [(0, vstr l), (3, int x)]) (fun _ => h) (fun x => x = sg l) ?_ ?_
  · refine run ?_
    refine br_d (fun hb => ?_) (fun hb => ?_)
    · refine run ?_
      refine br_d (fun hc => ?_) (fun hc => ?_)
      · refine run ?_
        refine wkx 1 ?_ fits rfl
        rw [sg, if_pos (by rw [head_getD (by rintro rfl; simp at hb), (b45 _).1 hc])]
      · refine run ?_
        refine wkx 0 ?_ fits rfl
        rw [sg, if_neg (by rw [head_getD (by rintro rfl; simp at hb)]; intro he; exact hc ((b45 _).2 (Option.some.inj he)))]
    · refine run ?_
      refine wkx 0 ?_ fits rfl
      cases l with
      | nil => rfl
      | cons a l => simp at hb
  rintro x hx
  have hsl := sg_le l
  have hbl : (body l).length = l.length - sg l := by rw [body_sg]; simp
  have hg : ∀ j, (body l).getD j 0 = l.getD (x + j) 0 := fun j => by rw [body_sg, hx]; simp [List.getD]
  refine run ?_
  refine br_d (fun hb => ?_) (fun hb => ?_)
  · refine run ?_
    have h0 : body l = [] := List.length_eq_zero_iff.1 (by omega)
    refine .now _ _ ⟨?_, rfl⟩
    have h1 : ¬ l = [48] := by rintro rfl; simp [body] at h0
    simp [fm, h0, h1]; rfl
  refine run ?_
  refine lp (fun k : Nat => [(0, vstr l), (3, int x), (4, int k)]) (fun _ => h) (fun k => x ≤ k ∧ k ≤ l.length ∧ digs ((body l).take (k - x)) = true) (fun k => l.length - k) (wkx x ⟨by omega, by omega, by simp [digs]⟩ fits rfl) ?_
  rintro k ⟨hk1, hk2, hd⟩
  refine run ?_
  refine br_d (fun hlt => ?_) (fun hlt => ?_)
  · have hst : digs ((body l).take (k + 1 - x)) = digB (l.getD k 0) := by
      have := digs_step (body l) (k - x) (by omega)
      rw [hd, hg, show x + (k - x) = k by omega, show k - x + 1 = k + 1 - x by omega] at this
      simpa using this
    have hno : digB (l.getD k 0) = false → fm l = false := fun hf => by
      have h2 : digs (body l) = false := digs_take _ _ (hst.trans hf)
      have h1 : ¬ l = [48] := by rintro rfl; simp [body, digs, digB] at h2
      simp [fm, h1, h2]
    refine run ?_
    refine br_d (fun hc => ?_) (fun hc => ?_)
    · refine run ?_
      refine .now _ _ ⟨?_, rfl⟩
      rw [hno (by generalize l.getD k 0 = c at *; simp [digB]; omega)]; rfl
    refine run ?_
    refine br_d (fun hc2 => ?_) (fun hc2 => ?_)
    · refine run ?_
      refine .now _ _ ⟨?_, rfl⟩
      rw [hno (by generalize l.getD k 0 = c at *; simp [digB]; omega)]; rfl
    · refine run ?_
      refine wkx (k + 1) ⟨⟨by omega, by omega, ?_⟩, by omega⟩ fits rfl
      rw [hst]; generalize l.getD k 0 = c at *; simp [digB]; omega
  · have hdg : digs (body l) = true := by rw [List.take_of_length_le (by omega)] at hd; exact hd
    have hne : body l ≠ [] := by intro h0; rw [h0] at hbl; simp at hbl; omega
    have hhd : (body l).head? = some (l.getD x 0) := by rw [head_getD hne, hg]; rfl
    have hf : fm l = (decide (l = [48]) || decide (l.getD x 0 ≠ 48)) := by simp [fm, hdg, hne, hhd]
    refine run ?_
    refine br_nd (fun hc => ?_) (fun hc => ?_)
    · refine run ?_
      refine .now _ _ ⟨?_, rfl⟩
      have : l.getD x 0 ≠ 48 := fun he => hc ((b48 _).2 he)
      rw [hf, decide_eq_true this, Bool.or_true]; rfl
    · refine run ?_
      refine .now _ _ ⟨?_, rfl⟩
      rw [hf, (b48 _).1 hc]; simp; rfl
end Go.Proofs.Ytpiihodkonegbaa
/- Walks of the reference of layer 1: numbers as their digits, the lowest first. -/
namespace Go.Proofs.Ytpiihodkonegbaa
open Go.XW Go.XW.DU
open Go.XW.DI hiding fm body sgn sizeI digs

def numD (b : Bool) (ds : List Int) : V := .agg [vbool b, .row 1 (rInts .i64 ds)]
def numV (z : Int) : V := numD (decide (z < 0)) (lod z.natAbs)

theorem lval_take0 {ds : List Int} {n : Nat} (hn : n < ds.length) (h0 : ds.getD n 0 = 0) : lval (ds.take (n + 1)) = lval (ds.take n) := by
  rw [take_getD hn, lval_append, h0]; simp [lval]
theorem lod_trim {ds : List Int} (hd : Dg ds) {n : Nat} (hn : n ≤ ds.length) (hv : lval (ds.take n) = lval ds) (hl : n = 0 ∨ ds.getD (n - 1) 0 ≠ 0) : ds.take n = lod (lval ds).toNat := by
  rw [← hv]
  refine lod_unique (fun x hx => hd x (List.mem_of_mem_take hx)) ?_
  rcases hl with rfl | hl
  · exact .inl (by simp)
  · by_cases h0 : n = 0
    · subst h0; exact .inl (by simp)
    · refine .inr ?_
      rw [List.getLast?_eq_getElem?, List.length_take, show min n ds.length = n by omega, List.getElem?_take, if_pos (by omega)]
      have : n - 1 < ds.length := by omega
      intro he
      apply hl
      simp [List.getD, he]

theorem trim_calls (b : Bool) (ds : List Int) (h : Hp) (hd : Dg ds) (hm : ds.length ≤ 1000000000000000) : VCalls Try.prog 49 [numD b ds] h (fun v h' => v = numV (if b then - lval ds else lval ds) ∧ h' = h) := by
  refine xc k49 rfl ?_
  refine run ?_
  refine new_k fun k1 => ?_
  refine run ?_
  refine new_k fun k2 => ?_
  refine runto 2 ?_
  refine jn (fun n : Nat => [(1, .ptr 2 k1 0 0), (2, .ptr 2 k2 0 0), (3, int n)]) (fun _ => (k2, .blk 2 [[vbool false, vnil]]) :: (k1, .blk 2 [[vbool b, .row 1 (rInts .i64 ds)]]) :: h) (fun n => n ≤ ds.length ∧ ds.take n = lod (lval ds).toNat) ?_ ?_
  · refine run ?_
    refine lp (fun n : Nat => [(1, .ptr 2 k1 0 0), (2, .ptr 2 k2 0 0), (3, int n)]) (fun _ => (k2, .blk 2 [[vbool false, vnil]]) :: (k1, .blk 2 [[vbool b, .row 1 (rInts .i64 ds)]]) :: h) (fun n => n ≤ ds.length ∧ lval (ds.take n) = lval ds) (fun n => n) (wkx ds.length ⟨by omega, by rw [List.take_of_length_le (Nat.le_refl _)]⟩ fits rfl) ?_
    rintro n ⟨hn, hv⟩
    have key : ¬ (0 < n ∧ ds.getD (n - 1) 0 = 0) → ds.take n = lod (lval ds).toNat := fun hh => lod_trim hd hn hv (by by_cases h0 : n = 0; exact .inl h0; exact .inr fun he => hh ⟨by omega, he⟩)
    have hi : ((n : Int) - 1).toNat = n - 1 := by omega
    refine run ?_
    refine br_d (fun hb => ?_) (fun hb => ?_)
    · refine run ?_
      refine br_d (fun hc => ?_) (fun hc => ?_)
      · refine run ?_
        refine wkx (n - 1) ⟨⟨by omega, ?_⟩, by omega⟩ fits rfl
        rw [hi] at hc
        rw [← hv, show n = (n - 1) + 1 by omega, lval_take0 (by omega) hc]
        rfl
      · refine run ?_
        refine wkx n ⟨by omega, key fun hh => hc (by rw [hi]; exact hh.2)⟩ fits rfl
    · refine run ?_
      refine wkx n ⟨by omega, key fun hh => hb (by omega)⟩ fits rfl
  rintro n ⟨hn, hk⟩
  have hnn := lval_nonneg hd
  have hll : (lod (lval ds).toNat).length = n := by rw [← hk]; simp; omega
  have h0 : 0 < lval ds ↔ 0 < n := by
    by_cases h0 : lval ds = 0
    · rw [h0] at hll; simp [lod_zero] at hll; omega
    · have := lod_ne (n := (lval ds).toNat) (by omega)
      have : n ≠ 0 := fun hc => this (List.length_eq_zero_iff.1 (by omega))
      omega
  cases b with
  | true =>
    refine run ?_
    refine ret1 (ret1 (retv ⟨?_, rfl⟩))
    have e2 : (lval ds).toNat = (-lval ds).natAbs := by omega
    show V.agg [vbool (decide ((0 : Int) < n)), .row 1 (rInts .i64 ((ds.take n).drop 0))] = numV (- lval ds)
    rw [List.drop_zero, hk, numV, numD, e2, show decide ((0 : Int) < n) = decide (-lval ds < 0) from decide_eq_decide.2 (by omega)]
  | false =>
    refine run ?_
    refine ret1 (ret1 (retv ⟨?_, rfl⟩))
    have e2 : (lval ds).toNat = (lval ds).natAbs := by omega
    show V.agg [vbool false, .row 1 (rInts .i64 ((ds.take n).drop 0))] = numV (lval ds)
    rw [List.drop_zero, hk, numV, numD, e2, decide_eq_false (show ¬ lval ds < 0 by omega)]

theorem dgs_drop (ns : List Int) (j : Nat) (hj : j < ns.length) : dgs (ns.drop j) = dgs (ns.drop (j + 1)) ++ [ns.getD j 0 - 48] := by
  rw [drop_getD hj]; simp [dgs]
theorem en_dig (z : Int) : Dig (nums (body (en z))) := by rw [body_en, nums_dc]; exact decs_dig _
theorem en_digD (z : Int) (j : Nat) (hj : sg (en z) ≤ j) (hl : j < (en z).length) : 48 ≤ ((en z).getD j 0).toNat ∧ ((en z).getD j 0).toNat ≤ 57 := by
  have h1 := (en_dig z).getD (k := j - sg (en z)) (by rw [nums_length, body_sg, List.length_drop]; omega)
  rw [nums_getD, body_sg] at h1
  have h2 : ((en z).drop (sg (en z))).getD (j - sg (en z)) 0 = (en z).getD j 0 := by simp only [List.getD, List.getElem?_drop]; congr 2; omega
  rw [h2] at h1; omega
theorem sg_en (z : Int) : sg (en z) = if z < 0 then 1 else 0 := by
  unfold sg
  by_cases h : z < 0
  · rw [if_pos h, if_pos ((head_en z).2 h)]
  · rw [if_neg h, if_neg (fun hc => h ((head_en z).1 hc))]
theorem en_head45 (z : Int) : (((en z).getD 0 0).toNat : Int) = 45 ↔ z < 0 := by
  rw [b45, ← head_en, head_getD (en_ne z)]; simp

theorem read_calls (z : Int) (h : Hp) (hm : (en z).length ≤ 1000000000000) : VCalls Try.prog 45 [vstr (en z)] h (fun v h' => v = numV z ∧ h' = h) := by
  refine xc k45 rfl ?_
  refine run ?_
  refine new_k fun k1 => ?_
  refine run ?_
  refine new_k fun k2 => ?_
  refine runto 3 ?_
  have hp : 0 < (en z).length := List.length_pos_iff.2 (en_ne z)
  have hsg := sg_en z
  have hsl := sg_le (en z)
  refine jn (fun x : Nat => [(0, vstr (en z)), (2, .ptr 2 k1 0 0), (3, .ptr 2 k2 0 0), (4, int x)]) (fun x => (k2, .blk 2 [[vbool (decide (z < 0)), vnil]]) :: (k1, .blk 2 [[vbool false, vnil]]) :: h) (fun x => x = sg (en z)) ?_ ?_
  · refine run ?_
    refine br_d (fun hc => ?_) (fun hc => ?_)
    · have hz := (en_head45 z).1 hc
      refine run ?_
      refine wkx 1 (by rw [hsg, if_pos hz]) fits (by rw [decide_eq_true hz])
    · have hz : ¬ z < 0 := fun hz => hc ((en_head45 z).2 hz)
      refine run ?_
      refine wkx 0 (by rw [hsg, if_neg hz]) fits (by rw [decide_eq_false hz])
  rintro x hx
  refine run ?_
  have hnl := nums_length (en z)
  refine lp (fun x2 : Nat × Nat × List Int => [(0, vstr (en z)), (2, .ptr 2 k1 0 0), (3, .ptr 2 k2 0 0), (4, int x), (5, int ((x2.2.1 : Int) - 1))])
    (fun x2 => (x2.1, .blk 1 (rInts .i64 x2.2.2)) :: (k2, .blk 2 [[vbool (decide (z < 0)), .osl 1 x2.1 0 x2.2.2.length]]) :: (k1, .blk 2 [[vbool false, vnil]]) :: h)
    (fun x2 => x ≤ x2.2.1 ∧ x2.2.1 ≤ (en z).length ∧ x2.2.2 = dgs ((nums (en z)).drop x2.2.1)) (fun x2 => x2.2.1)
    (wkn 1 fun k3 => wkh hrs (wkx (k3, (en z).length, []) ⟨by dsimp only; omega, by dsimp only; omega, by rw [List.drop_of_length_le (by dsimp only; omega)]; rfl⟩ fits rfl)) ?_
  rintro ⟨k3, j, ds⟩ ⟨h1, h2, h3⟩
  dsimp only at *
  have hdl : ds.length = (en z).length - j := by rw [h3, dgs_length, List.length_drop, hnl]
  refine run ?_
  refine br_d (fun hb => ?_) (fun hb => ?_)
  · have hd := en_digD z ((j : Int) - 1).toNat (by omega) (by omega)
    have hj : ((j : Int) - 1).toNat = j - 1 := by omega
    refine run ?_
    refine new_k fun k4 => ?_
    refine run ?_
    refine wkx (k4, j - 1, ds ++ [(((en z).getD ((j : Int) - 1).toNat 0).toNat : Int) - 48]) ⟨⟨by dsimp only; omega, by dsimp only; omega, ?_⟩, by dsimp only; omega⟩ fits ?_
    · dsimp only
      rw [dgs_drop _ (j - 1) (by omega), hj, nums_getD, show j - 1 + 1 = j by omega, h3]
    · simp only [List.length_append]; rfl
  · refine run ?_
    have hj : j = sg (en z) := by omega
    have hds : ds = dgs (nums (body (en z))) := by rw [h3, hj, body_sg, nums_drop]
    have hv : lval ds = z.natAbs := by rw [hds, body_en, nums_dc]; exact decs_val _
    have hdg : Dg ds := by rw [hds]; exact (en_dig z).dg
    refine VCalls.fz0 (.cons _ _ _ _ (.agg _ _ _ _ (.same _) (.agg _ _ _ _ (.all _ (by simp [rInts])) .agg0)) .nil) ?_
    refine VCalls.use (trim_calls _ ds _ hdg (by omega)) ?_
    rintro _ _ ⟨rfl, rfl⟩
    rw [hv]
    have e : (if decide (z < 0) then -(z.natAbs : Int) else z.natAbs) = z := by by_cases hz : z < 0 <;> simp [hz] <;> omega
    rw [e]
    refine run ?_
    refine ret1 (ret1 (retv ⟨rfl, rfl⟩))
end Go.Proofs.Ytpiihodkonegbaa
/- Walks of both sides of layer 1: the order of numbers. -/
namespace Go.Proofs.Ytpiihodkonegbaa
open Go.XW Go.XW.DU
open Go.XW.DI hiding fm body sgn sizeI digs

theorem rsize_calls (m n : Nat) (h : Hp) (hm : (lod m).length ≤ 1000000000000000) (hn : (lod n).length ≤ 1000000000000000) : VCalls Try.prog 56 [.row 1 (rInts .i64 (lod m)), .row 1 (rInts .i64 (lod n))] h (fun v h' => v = int (cmpI m n) ∧ h' = h) := by
  refine xc k56 rfl ?_
  have ha := lod_dg m
  have hb := lod_dg n
  have va := lod_val m
  have vb := lod_val n
  have hlt : (lod m).length < (lod n).length → m < n := fun hh => by
    by_cases hc : m < n
    · exact hc
    · have := lod_len (m := n) (n := m) (by omega); omega
  have hgt : (lod n).length < (lod m).length → n < m := fun hh => by
    by_cases hc : n < m
    · exact hc
    · have := lod_len (m := m) (n := n) (by omega); omega
  generalize lod m = a at *
  generalize lod n = b at *
  refine run ?_
  refine br_nd (fun hne => ?_) (fun heq => ?_)
  · refine run ?_
    refine br_d (fun hc => ?_) (fun hc => ?_)
    · have := hlt (by omega)
      refine run ?_
      refine .now _ _ ⟨?_, rfl⟩
      rw [cmpI, if_pos (by omega)]; rfl
    · have := hgt (by omega)
      refine run ?_
      refine .now _ _ ⟨?_, rfl⟩
      rw [cmpI, if_neg (by omega), if_pos (by omega)]; rfl
  refine run ?_
  refine lp (fun j : Nat => [(0, .row 1 (rInts .i64 a)), (1, .row 1 (rInts .i64 b)), (5, int ((j : Int) - 1))]) (fun _ => h) (fun j => j ≤ a.length ∧ a.drop j = b.drop j) (fun j => j) (wkx a.length ⟨by omega, by rw [List.drop_of_length_le (by omega), List.drop_of_length_le (by omega)]⟩ fits rfl) ?_
  rintro j ⟨hj, hd⟩
  refine run ?_
  refine br_d (fun hc => ?_) (fun hc => ?_)
  · have hi : ((j : Int) - 1).toNat = j - 1 := by omega
    have hdd : a.drop (j - 1 + 1) = b.drop (j - 1 + 1) := by rw [show j - 1 + 1 = j by omega]; exact hd
    refine run ?_
    refine br_d (fun hc2 => ?_) (fun hc2 => ?_)
    · rw [hi] at hc2
      have := lval_lt_of ha hb (by omega) (by omega) hdd hc2
      refine run ?_
      refine .now _ _ ⟨?_, rfl⟩
      rw [cmpI, if_pos (by omega)]; rfl
    refine run ?_
    refine br_d (fun hc3 => ?_) (fun hc3 => ?_)
    · rw [hi] at hc3
      have := lval_lt_of hb ha (by omega) (by omega) hdd.symm hc3
      refine run ?_
      refine .now _ _ ⟨?_, rfl⟩
      rw [cmpI, if_neg (by omega), if_pos (by omega)]; rfl
    · refine run ?_
      rw [hi] at hc2 hc3
      refine wkx (j - 1) ⟨⟨by omega, ?_⟩, by omega⟩ fits rfl
      rw [drop_getD (ns := a) (by omega), drop_getD (ns := b) (by omega), hdd, show a.getD (j - 1) 0 = b.getD (j - 1) 0 by omega]
  · refine run ?_
    refine .now _ _ ⟨?_, rfl⟩
    have : j = 0 := by omega
    subst this
    have he : a = b := hd
    have : m = n := by rw [he] at va; omega
    subst this
    rw [cmpI, if_neg (by omega), if_neg (by omega)]; rfl

theorem rorder_calls (y z : Int) (h : Hp) (hy : (lod y.natAbs).length ≤ 1000000000000000) (hz : (lod z.natAbs).length ≤ 1000000000000000) : VCalls Try.prog 44 [numV y, numV z] h (fun v h' => v = int (cmpI y z) ∧ h' = h) := by
  refine xc k44 rfl ?_
  refine run ?_
  refine new_k fun k1 => ?_
  refine run ?_
  refine new_k fun k2 => ?_
  refine run ?_
  refine ⟨fun hb => ?_, fun hb => ?_⟩
  · refine run ?_
    refine br_d (fun hc => ?_) (fun hc => ?_)
    · refine run ?_
      refine ret1 (ret1 (retv ⟨?_, rfl⟩))
      have : ¬ z < 0 := by simpa [hc] using hb
      rw [cmpI, if_pos (by omega)]; rfl
    · refine run ?_
      refine ret1 (ret1 (retv ⟨?_, rfl⟩))
      have : z < 0 := by simpa [hc] using hb
      rw [cmpI, if_neg (by omega), if_pos (by omega)]; rfl
  · have hyz : y < 0 ↔ z < 0 := by simpa using hb
    refine run ?_
    refine br_d (fun hc => ?_) (fun hc => ?_)
    · refine run ?_
      refine VCalls.use (rsize_calls _ _ _ hy hz) ?_
      rintro _ _ ⟨rfl, rfl⟩
      have hr : cmpI y z = - cmpI y.natAbs z.natAbs := by
        have := hyz.1 hc
        unfold cmpI
        split <;> split <;> (try split) <;> (try split) <;> omega
      have hbd : -1 ≤ cmpI y.natAbs z.natAbs ∧ cmpI y.natAbs z.natAbs ≤ 1 := by unfold cmpI; split <;> (try split) <;> omega
      refine run ?_
      refine ret1 (ret1 (retv ⟨?_, rfl⟩))
      rw [hr]
      exact vint_eq (by omega)
    · refine run ?_
      refine VCalls.use (rsize_calls _ _ _ hy hz) ?_
      rintro _ _ ⟨rfl, rfl⟩
      refine run ?_
      refine ret1 (ret1 (retv ⟨?_, rfl⟩))
      have hr : cmpI y z = cmpI y.natAbs z.natAbs := by
        have : ¬ z < 0 := fun hh => hc (hyz.2 hh)
        unfold cmpI
        split <;> split <;> (try split) <;> (try split) <;> omega
      rw [hr]; rfl

theorem lod_decs (n : Nat) : (lod n).length ≤ (decs n).length := by
  unfold decs; split
  · rename_i h; subst h; rw [lod_zero]; simp
  · simp
theorem lod_en (z : Int) : (lod z.natAbs).length ≤ (en z).length := by
  have := lod_decs z.natAbs
  have := dc_le_en z
  rw [dc_length] at this
  omega

def cmpV (a b : List UInt8) : V := if fm a = true ∧ fm b = true then .tup [int (cmpI (zv a) (zv b)), int 0] else .tup [int 0, int 1]

theorem rcmp_calls (a b : List UInt8) (h : Hp) (ha : a.length ≤ 1000000000000) (hb : b.length ≤ 1000000000000) : VCalls Try.prog 16 [vstr a, vstr b] h (fun v h' => v = cmpV a b ∧ h' = h) := by
  refine xc k16 rfl ?_
  refine run ?_
  refine VCalls.use (rformed_calls a _ (by omega)) ?_
  rintro _ _ ⟨rfl, rfl⟩
  unfold cmpV
  cases hfa : fm a with
  | false => refine run ?_; exact retv ⟨rfl, rfl⟩
  | true =>
    refine run ?_
    refine VCalls.use (rformed_calls b _ (by omega)) ?_
    rintro _ _ ⟨rfl, rfl⟩
    cases hfb : fm b with
    | false => refine run ?_; exact retv ⟨rfl, rfl⟩
    | true =>
      generalize hy : zv a = y
      generalize hz : zv b = z
      obtain rfl : a = en y := hy ▸ en_of_fm hfa
      obtain rfl : b = en z := hz ▸ en_of_fm hfb
      refine run ?_
      refine VCalls.use (read_calls y _ (by omega)) ?_
      rintro _ _ ⟨rfl, rfl⟩
      refine run ?_
      refine VCalls.use (read_calls z _ (by omega)) ?_
      rintro _ _ ⟨rfl, rfl⟩
      have h1 := lod_en y
      have h2 := lod_en z
      refine run ?_
      refine VCalls.use (rorder_calls y z _ (by omega) (by omega)) ?_
      rintro _ _ ⟨rfl, rfl⟩
      refine run ?_
      exact retv ⟨rfl, rfl⟩

theorem cmp_calls (a b : List UInt8) (h : Hp) (ha : a.length ≤ 1000000000000) (hb : b.length ≤ 1000000000000) : VCalls Try.prog 15 [vstr a, vstr b] h (fun v h' => v = cmpV a b ∧ h' = h) := by
  refine xc k15 rfl ?_
  refine run ?_
  refine VCalls.use (formed_calls a _ (by omega)) ?_
  rintro _ _ ⟨rfl, rfl⟩
  unfold cmpV
  cases hfa : fm a with
  | false => refine run ?_; exact retv ⟨rfl, rfl⟩
  | true =>
    refine run ?_
    refine VCalls.use (formed_calls b _ (by omega)) ?_
    rintro _ _ ⟨rfl, rfl⟩
    cases hfb : fm b with
    | false => refine run ?_; exact retv ⟨rfl, rfl⟩
    | true =>
      generalize hy : zv a = y
      generalize hz : zv b = z
      obtain rfl : a = en y := hy ▸ en_of_fm hfa
      obtain rfl : b = en z := hz ▸ en_of_fm hfb
      have h1 := dc_le_en y
      have h2 := dc_le_en z
      refine run ?_
      refine VCalls.use (split_calls (en y) _ (en_ne y) (by omega)) ?_
      rintro _ _ ⟨rfl, rfl⟩
      refine run ?_
      refine VCalls.use (split_calls (en z) _ (en_ne z) (by omega)) ?_
      rintro _ _ ⟨rfl, rfl⟩
      rw [body_en, body_en, decide_eq_decide.2 (head_en y), decide_eq_decide.2 (head_en z)]
      refine run ?_
      refine br_d (fun hb => ?_) (fun hb => ?_)
      · refine run ?_
        refine br_d (fun hb2 => ?_) (fun hb2 => ?_)
        · refine run ?_
          refine VCalls.use (size_calls _ _ _ (by omega) (by omega)) ?_
          rintro _ _ ⟨rfl, rfl⟩
          refine run ?_
          refine retv ⟨?_, rfl⟩
          rw [if_pos ⟨rfl, rfl⟩, sizeI_dc, show cmpI z.natAbs y.natAbs = cmpI y z from by unfold cmpI; split <;> split <;> (try split) <;> (try split) <;> omega]; rfl
        · refine run ?_
          refine retv ⟨?_, rfl⟩
          rw [if_pos ⟨rfl, rfl⟩, cmpI, if_pos (by omega)]; rfl
      · refine run ?_
        refine br_d (fun hb2 => ?_) (fun hb2 => ?_)
        · refine run ?_
          refine retv ⟨?_, rfl⟩
          rw [if_pos ⟨rfl, rfl⟩, cmpI, if_neg (by omega), if_pos (by omega)]; rfl
        · refine run ?_
          refine VCalls.use (size_calls _ _ _ (by omega) (by omega)) ?_
          rintro _ _ ⟨rfl, rfl⟩
          refine run ?_
          refine retv ⟨?_, rfl⟩
          rw [if_pos ⟨rfl, rfl⟩, sizeI_dc, show cmpI y.natAbs z.natAbs = cmpI y z from by unfold cmpI; split <;> split <;> (try split) <;> (try split) <;> omega]; rfl

theorem order_calls (a b : List UInt8) (h : Hp) (ha : a.length ≤ 1000000000000) (hb : b.length ≤ 1000000000000) : VCalls Try.prog 6 [vstr a, vstr b] h (fun v h' => v = vbool true ∧ h' = h) := by
  refine xc k6 rfl ?_
  refine run ?_
  refine VCalls.use (cmp_calls a b _ ha hb) ?_
  rintro _ _ ⟨rfl, rfl⟩
  have hc : ∃ x y, cmpV a b = .tup [int x, int y] := by unfold cmpV; split <;> exact ⟨_, _, rfl⟩
  obtain ⟨x, y, hc⟩ := hc
  rw [hc]
  refine run ?_
  refine VCalls.use (rcmp_calls a b _ ha hb) ?_
  rintro _ _ ⟨rfl, rfl⟩
  rw [hc]
  refine run ?_
  refine VCalls.use (cmp_calls [50] [49] _ (by simp) (by simp)) ?_
  rintro _ _ ⟨rfl, rfl⟩
  have hk : cmpV [50] [49] = .tup [int 1, int 0] := by
    have h2 : fm [50] = true := by decide
    have h1 : fm [49] = true := by decide
    rw [cmpV, if_pos ⟨h2, h1⟩]; rfl
  rw [hk]
  refine run ?_
  refine retv ⟨?_, rfl⟩
  simp; rfl
end Go.Proofs.Ytpiihodkonegbaa
/- Walks of the package tens: the difference of digits. -/
namespace Go.Proofs.Ytpiihodkonegbaa
open Go.XW Go.XW.DU
open Go.XW.DI hiding fm body sgn sizeI digs

theorem minus_calls (a b : List UInt8) (h : Hp) (ha : Dig (nums a)) (hb0 : Dig (nums b)) (hne : a ≠ []) (hl : b.length ≤ a.length) (hv : dval (nums b) ≤ dval (nums a)) (hm : a.length ≤ 1000000000000) : VCalls Try.prog 57 [vstr a, vstr b] h (fun v h' => v = vstr (dc (dval (nums a) - dval (nums b)).toNat) ∧ h' = h) := by
  refine xc k57 rfl ?_
  have hna := nums_length a
  have hnb := nums_length b
  have hpos : 0 < a.length := List.length_pos_iff.2 hne
  refine run ?_
  refine new_k fun k1 => ?_
  refine run ?_
  refine lp (fun x : Nat × Int × List Int => [(1, vstr b), (5, .osl 1 k1 0 a.length), (6, .v (.int .u8 x.2.1)), (7, int x.1)]) (fun x => (k1, .blk 1 (rInts .u8 x.2.2)) :: h) (fun x => MinusI (nums a) (nums b) x.1 x.2.1 x.2.2) (fun x => a.length + 1 - x.1)
    (wkx (1, 0, nums a) (MinusI.zero _ _ ha) fits rfl) ?_
  rintro ⟨i, c, ns⟩ hI
  dsimp only at *
  have hi1 := hI.i1; have hi2 := hI.i2; have hc := hI.c1; have hlen := hI.len
  have hat : ((a.length : Int) - (i : Int)).toNat = a.length - i := by omega
  refine run ?_
  refine br_d (fun hb => ?_) (fun hb => ?_)
  · have hia : i ≤ a.length := by omega
    have hx := ha.getD (k := a.length - i) (by omega)
    have hnsa := hI.at (by omega)
    rw [hna] at hnsa
    refine runto 8 ?_
    refine jn (fun t : Int => [(1, vstr b), (5, .osl 1 k1 0 a.length), (6, .v (.int .u8 c)), (7, int i), (8, int ((a.length : Int) - i)), (9, .v (.int .u8 t))]) (fun _ => (k1, .blk 1 (rInts .u8 ns)) :: h) (fun t => t = c + (if i ≤ b.length then (nums b).getD (b.length - i) 0 - 48 else 0)) ?_ ?_
    · refine run ?_
      refine br_d (fun hib => ?_) (fun hib => ?_)
      · have hy := hb0.getD (k := b.length - i) (by omega)
        have hbt : ((b.length : Int) - (i : Int)).toNat = b.length - i := by omega
        rw [nums_getD] at hy
        have hy2 := hy
        rw [← hbt] at hy2
        refine run ?_
        refine wkx (c + (((b.getD ((b.length : Int) - (i : Int)).toNat 0).toNat : Int) - 48)) ?_ fits rfl
        rw [if_pos (by omega), nums_getD, hbt]
      · refine run ?_
        refine wkx c ?_ fits rfl
        rw [if_neg (by omega)]; omega
    rintro t ht
    have hx2 : 0 ≤ t - c ∧ t - c ≤ 9 := by
      rw [ht]; split
      · have hy := hb0.getD (k := b.length - i) (by omega); omega
      · omega
    have hnx : 48 ≤ ns.getD ((a.length : Int) - (i : Int)).toNat 0 ∧ ns.getD ((a.length : Int) - (i : Int)).toNat 0 ≤ 57 := by rw [hat, hnsa]; exact hx
    refine run ?_
    have hst : ∀ (u c2 : Int), 48 ≤ u ∧ u ≤ 57 → c2 = 0 ∨ c2 = 1 → u = (nums a).getD (a.length - i) 0 + 10 * c2 - c - (t - c) → MinusI (nums a) (nums b) (i + 1) c2 (ns.set (a.length - i) u) := fun u c2 e1 e2 e3 => by
      have := hI.step (by omega) (x := t - c) (u := u) (c2 := c2) (by rw [hnb, ht]; omega) e1 e2 (by rw [hna]; exact e3)
      rwa [hna] at this
    refine br_d (fun hc2 => ?_) (fun hc2 => ?_)
    · refine run ?_
      refine wkx (i + 1, 1, _) ⟨?_, by dsimp only; omega⟩ fits rfl
      dsimp only
      simp only [hat] at hc2 hnx ⊢
      exact hst _ _ (by omega) (.inr rfl) (by omega)
    · refine run ?_
      refine wkx (i + 1, 0, _) ⟨?_, by dsimp only; omega⟩ fits rfl
      dsimp only
      simp only [hat] at hc2 hnx ⊢
      exact hst _ _ (by omega) (.inl rfl) (by omega)
  · have hv2 := hI.done (by omega) (by omega) hb0 hv
    refine run ?_
    refine VCalls.use (text_calls _ k1 _ h (by omega) (by omega) (by omega)) ?_
    rintro _ _ ⟨rfl, rfl⟩
    refine run ?_
    refine ret1 (retv ⟨?_, rfl⟩)
    rw [strip_eq hI.dig (by rintro rfl; simp at hlen; omega), hv2]
    rfl

theorem minus_dc (m n : Nat) (h : Hp) (hle : n ≤ m) (hm : (dc m).length ≤ 1000000000000) : VCalls Try.prog 57 [vstr (dc m), vstr (dc n)] h (fun v h' => v = vstr (dc (m - n)) ∧ h' = h) := by
  have hmn := decs_len_le hle
  have := minus_calls (dc m) (dc n) h (by rw [nums_dc]; exact decs_dig m) (by rw [nums_dc]; exact decs_dig n) (dc_ne m) (by rw [dc_length, dc_length]; exact hmn) (by rw [nums_dc, nums_dc, decs_val, decs_val]; omega) hm
  rw [nums_dc, nums_dc, decs_val, decs_val, show ((m : Int) - n).toNat = m - n by omega] at this
  exact this
theorem plus_dc (m n : Nat) (h : Hp) (hm : (dc m).length ≤ 1000000000000) (hn : (dc n).length ≤ 1000000000000) : VCalls Try.prog 53 [vstr (dc m), vstr (dc n)] h (fun v h' => v = vstr (dc (m + n)) ∧ h' = h) := by
  have := plus_calls (dc m) (dc n) h (by rw [nums_dc]; exact decs_dig m) (by rw [nums_dc]; exact decs_dig n) hm hn
  rw [nums_dc, nums_dc, decs_val, decs_val, show ((m : Int) + n).toNat = m + n by omega] at this
  exact this
end Go.Proofs.Ytpiihodkonegbaa
/- Walks of the package tens: Neg, Abs, Add, Sub. -/
namespace Go.Proofs.Ytpiihodkonegbaa
open Go.XW Go.XW.DU
open Go.XW.DI hiding fm body sgn sizeI digs

/-- What is answered of one text, of two texts. -/
def unV (f : Int → Int) (a : List UInt8) : V := if fm a = true then .tup [vstr (en (f (zv a))), int 0] else .tup [vstr [], int 1]
def binV (f : Int → Int → Int) (a b : List UInt8) : V := if fm a = true ∧ fm b = true then .tup [vstr (en (f (zv a) (zv b))), int 0] else .tup [vstr [], int 1]

theorem dc_len {n k : Nat} (h : (n : Int) < 10 ^ k) (hk : 0 < k) : (dc n).length ≤ k := by rw [dc_length]; exact decs_len_lt h hk
theorem dc_high (n : Nat) : (n : Int) < 10 ^ (dc n).length := by rw [dc_length]; exact decs_high n
theorem dc_pos (n : Nat) : 0 < (dc n).length := List.length_pos_iff.2 (dc_ne n)
theorem dc_add_len (m n : Nat) : (dc (m + n)).length ≤ (dc m).length + (dc n).length := by
  have h1 := dc_high m; have h2 := dc_high n; have h3 := dc_pos m; have h4 := dc_pos n
  refine dc_len ?_ (by omega)
  rw [Int.pow_add]
  have h5 : (10 : Int) ≤ 10 ^ (dc m).length := by have := p10_le (j := 1) (k := (dc m).length) h3; simpa using this
  have h6 : (10 : Int) ≤ 10 ^ (dc n).length := by have := p10_le (j := 1) (k := (dc n).length) h4; simpa using this
  generalize (10 : Int) ^ (dc m).length = p at *
  generalize (10 : Int) ^ (dc n).length = q at *
  have h7 : 10 * q ≤ p * q := Int.mul_le_mul_of_nonneg_right h5 (by omega)
  have h8 : p * 10 ≤ p * q := Int.mul_le_mul_of_nonneg_left h6 (by omega)
  have := Int.natCast_add m n
  omega
theorem dc_mono {m n : Nat} (h : m ≤ n) : (dc m).length ≤ (dc n).length := by rw [dc_length, dc_length]; exact decs_len_le h
theorem en_len (z : Int) : (en z).length = (dc z.natAbs).length + (if z < 0 then 1 else 0) := by
  unfold en dc
  rw [ofNums_length, ofNums_length]
  by_cases h : z < 0
  · rw [enc_neg h, if_pos h]; rfl
  · rw [enc_nonneg h, if_neg h]; rfl
theorem en_neg_len (z : Int) : (en (-z)).length ≤ (en z).length + 1 := by
  rw [en_len, en_len, show (-z).natAbs = z.natAbs by omega]; split <;> omega
theorem en_add_len (y z : Int) : (en (y + z)).length ≤ (en y).length + (en z).length + 1 := by
  rw [en_len, en_len, en_len]
  have := dc_mono (show (y + z).natAbs ≤ y.natAbs + z.natAbs by omega)
  have := dc_add_len y.natAbs z.natAbs
  split <;> omega

theorem neg_calls (a : List UInt8) (h : Hp) (ha : a.length ≤ 1000000000000) : VCalls Try.prog 17 [vstr a] h (fun v h' => v = unV (fun z => -z) a ∧ h' = h) := by
  refine xc k17 rfl ?_
  refine run ?_
  refine VCalls.use (formed_calls a _ (by omega)) ?_
  rintro _ _ ⟨rfl, rfl⟩
  unfold unV
  cases hfa : fm a with
  | false => refine run ?_; exact retv ⟨rfl, rfl⟩
  | true =>
    generalize hy : zv a = y
    obtain rfl : a = en y := hy ▸ en_of_fm hfa
    have h1 := dc_le_en y
    refine run ?_
    refine VCalls.use (split_calls (en y) _ (en_ne y) (by omega)) ?_
    rintro _ _ ⟨rfl, rfl⟩
    rw [body_en, decide_eq_decide.2 (head_en y)]
    refine run ?_
    refine VCalls.use (signed_calls _ _ _ (by omega)) ?_
    rintro _ _ ⟨rfl, rfl⟩
    refine run ?_
    refine retv ⟨?_, rfl⟩
    rw [if_pos rfl, sgn_dc, show (if (!decide (y < 0)) = true then -(y.natAbs : Int) else y.natAbs) = -y by by_cases hy : y < 0 <;> simp [hy] <;> omega]
    rfl

theorem abs_calls (a : List UInt8) (h : Hp) (ha : a.length ≤ 1000000000000) : VCalls Try.prog 20 [vstr a] h (fun v h' => v = unV (fun z => z.natAbs) a ∧ h' = h) := by
  refine xc k20 rfl ?_
  refine run ?_
  refine VCalls.use (formed_calls a _ (by omega)) ?_
  rintro _ _ ⟨rfl, rfl⟩
  unfold unV
  cases hfa : fm a with
  | false => refine run ?_; exact retv ⟨rfl, rfl⟩
  | true =>
    generalize hy : zv a = y
    obtain rfl : a = en y := hy ▸ en_of_fm hfa
    refine run ?_
    refine VCalls.use (split_calls (en y) _ (en_ne y) (by omega)) ?_
    rintro _ _ ⟨rfl, rfl⟩
    rw [body_en]
    refine run ?_
    refine retv ⟨?_, rfl⟩
    rw [if_pos rfl, en_nat]
    rfl

theorem add_calls (a b : List UInt8) (h : Hp) (ha : a.length ≤ 100000000000) (hb : b.length ≤ 100000000000) : VCalls Try.prog 24 [vstr a, vstr b] h (fun v h' => v = binV (fun y z => y + z) a b ∧ h' = h) := by
  refine xc k24 rfl ?_
  refine run ?_
  refine VCalls.use (formed_calls a _ (by omega)) ?_
  rintro _ _ ⟨rfl, rfl⟩
  unfold binV
  cases hfa : fm a with
  | false => refine run ?_; exact retv ⟨rfl, rfl⟩
  | true =>
    refine run ?_
    refine VCalls.use (formed_calls b _ (by omega)) ?_
    rintro _ _ ⟨rfl, rfl⟩
    cases hfb : fm b with
    | false => refine run ?_; exact retv ⟨rfl, rfl⟩
    | true =>
      generalize hy : zv a = y
      generalize hz : zv b = z
      obtain rfl : a = en y := hy ▸ en_of_fm hfa
      obtain rfl : b = en z := hz ▸ en_of_fm hfb
      have h1 := dc_le_en y
      have h2 := dc_le_en z
      have h3 := dc_add_len y.natAbs z.natAbs
      rw [if_pos ⟨rfl, rfl⟩]
      refine run ?_
      refine VCalls.use (split_calls (en y) _ (en_ne y) (by omega)) ?_
      rintro _ _ ⟨rfl, rfl⟩
      refine run ?_
      refine VCalls.use (split_calls (en z) _ (en_ne z) (by omega)) ?_
      rintro _ _ ⟨rfl, rfl⟩
      rw [body_en, body_en, decide_eq_decide.2 (head_en y), decide_eq_decide.2 (head_en z)]
      refine run ?_
      refine ⟨fun hq => ?_, fun hq => ?_⟩
      · have hq2 : y < 0 ↔ z < 0 := by simpa using hq
        refine run ?_
        refine VCalls.use (plus_dc _ _ _ (by omega) (by omega)) ?_
        rintro _ _ ⟨rfl, rfl⟩
        refine run ?_
        refine VCalls.use (signed_calls _ _ _ (by omega)) ?_
        rintro _ _ ⟨rfl, rfl⟩
        refine run ?_
        refine retv ⟨?_, rfl⟩
        rw [sgn_dc, show (if decide (y < 0) = true then -((y.natAbs + z.natAbs : Nat) : Int) else (y.natAbs + z.natAbs : Nat)) = y + z by by_cases hy : y < 0 <;> simp [hy] <;> omega]
        rfl
      · have hq2 : ¬ (y < 0 ↔ z < 0) := by simpa using hq
        refine run ?_
        refine VCalls.use (size_calls _ _ _ (by omega) (by omega)) ?_
        rintro _ _ ⟨rfl, rfl⟩
        rw [sizeI_dc]
        refine run ?_
        refine br_d (fun hc => ?_) (fun hc => ?_)
        · have hlt : y.natAbs < z.natAbs := by unfold cmpI at hc; split at hc <;> (try split at hc) <;> omega
          have h4 := dc_mono (show z.natAbs - y.natAbs ≤ z.natAbs by omega)
          refine run ?_
          refine VCalls.use (minus_dc _ _ _ (by omega) (by omega)) ?_
          rintro _ _ ⟨rfl, rfl⟩
          refine run ?_
          refine VCalls.use (signed_calls _ _ _ (by omega)) ?_
          rintro _ _ ⟨rfl, rfl⟩
          refine run ?_
          refine retv ⟨?_, rfl⟩
          rw [sgn_dc, show (if decide (z < 0) = true then -((z.natAbs - y.natAbs : Nat) : Int) else (z.natAbs - y.natAbs : Nat)) = y + z by by_cases hy : z < 0 <;> simp [hy] <;> omega]
          rfl
        · have hlt : z.natAbs ≤ y.natAbs := by unfold cmpI at hc; split at hc <;> (try split at hc) <;> omega
          have h4 := dc_mono (show y.natAbs - z.natAbs ≤ y.natAbs by omega)
          refine run ?_
          refine VCalls.use (minus_dc _ _ _ (by omega) (by omega)) ?_
          rintro _ _ ⟨rfl, rfl⟩
          refine run ?_
          refine VCalls.use (signed_calls _ _ _ (by omega)) ?_
          rintro _ _ ⟨rfl, rfl⟩
          refine run ?_
          refine retv ⟨?_, rfl⟩
          rw [sgn_dc, show (if decide (y < 0) = true then -((y.natAbs - z.natAbs : Nat) : Int) else (y.natAbs - z.natAbs : Nat)) = y + z by by_cases hy : y < 0 <;> simp [hy] <;> omega]
          rfl

theorem zv_en (z : Int) : zv (en z) = z := en_inj (en_of_fm (fm_en z)).symm

theorem sub_calls (a b : List UInt8) (h : Hp) (ha : a.length ≤ 10000000000) (hb : b.length ≤ 10000000000) : VCalls Try.prog 26 [vstr a, vstr b] h (fun v h' => v = binV (fun y z => y - z) a b ∧ h' = h) := by
  refine xc k26 rfl ?_
  refine run ?_
  refine VCalls.use (neg_calls b _ (by omega)) ?_
  rintro _ _ ⟨rfl, rfl⟩
  unfold unV
  cases hfb : fm b with
  | false =>
    refine run ?_
    refine retv ⟨?_, rfl⟩
    rw [binV, if_neg (by simp [hfb])]; rfl
  | true =>
    generalize hz : zv b = z
    obtain rfl : b = en z := hz ▸ en_of_fm hfb
    have h1 := en_neg_len z
    rw [if_pos rfl]
    refine run ?_
    refine VCalls.use (add_calls a (en (-z)) _ (by omega) (by omega)) ?_
    rintro _ _ ⟨rfl, rfl⟩
    unfold binV
    cases hfa : fm a with
    | false => refine run ?_; exact retv ⟨rfl, rfl⟩
    | true =>
      rw [if_pos ⟨rfl, fm_en _⟩, if_pos ⟨rfl, fm_en _⟩, zv_en, zv_en]
      refine run ?_
      exact retv ⟨rfl, rfl⟩
end Go.Proofs.Ytpiihodkonegbaa
/- Walks of the reference of layer 1: sums and differences. -/
namespace Go.Proofs.Ytpiihodkonegbaa
open Go.XW Go.XW.DU
open Go.XW.DI hiding fm body sgn sizeI digs

theorem digit_calls (ds : List Int) (i : Nat) (h : Hp) (hm : ds.length ≤ 1000000000000000) : VCalls Try.prog 68 [.row 1 (rInts .i64 ds), int i] h (fun v h' => v = int (ds.getD i 0) ∧ h' = h) := by
  refine xc k68 rfl ?_
  refine run ?_
  refine br_d (fun hb => ?_) (fun hb => ?_)
  · refine run ?_
    exact retv ⟨rfl, rfl⟩
  · refine run ?_
    refine retv ⟨?_, rfl⟩
    have : ds.getD i 0 = 0 := by simp [List.getD, List.getElem?_eq_none (show ds.length ≤ i by omega)]
    rw [this]; rfl

theorem rsum_calls (a b : List Int) (h : Hp) (ha : Dg a) (hb : Dg b) (hm : a.length ≤ 1000000000000) (hm2 : b.length ≤ 1000000000000) : VCalls Try.prog 69 [.row 1 (rInts .i64 a), .row 1 (rInts .i64 b)] h (fun v h' => v = .row 1 (rInts .i64 (sumL a b)) ∧ h' = h) := by
  refine xc k69 rfl ?_
  refine run ?_
  refine lp (fun x : Nat × Nat × Int × List Int => [(0, .row 1 (rInts .i64 a)), (1, .row 1 (rInts .i64 b)), (5, .osl 1 x.1 0 x.2.1), (6, int x.2.2.1), (7, int x.2.1)]) (fun x => (x.1, .blk 1 (rInts .i64 x.2.2.2)) :: h) (fun x => SumI a b x.2.1 x.2.2.1 x.2.2.2) (fun x => max a.length b.length + 1 - x.2.1)
    (wkn 1 fun k => wkx (k, 0, 0, []) (SumI.zero a b) fits rfl) ?_
  rintro ⟨k, i, c, l⟩ hI
  dsimp only at *
  have hlen := hI.len
  have hc := hI.c1
  have htop := hI.top
  have xa := dg_getD ha i
  have xb := dg_getD hb i
  refine runto 4 ?_
  refine jn (fun _ : Unit => [(0, .row 1 (rInts .i64 a)), (1, .row 1 (rInts .i64 b)), (5, .osl 1 k 0 i), (6, int c), (7, int i)]) (fun _ => (k, .blk 1 (rInts .i64 l)) :: h) (fun _ => i < a.length ∨ i < b.length ∨ 0 < c) ?_ ?_
  · refine run ?_
    refine br_d (fun hb1 => ?_) (fun hb1 => ?_)
    · refine run ?_
      exact wkx () (.inl (by omega)) fits rfl
    refine run ?_
    refine br_d (fun hb2 => ?_) (fun hb2 => ?_)
    · refine run ?_
      exact wkx () (.inr (.inl (by omega))) fits rfl
    refine run ?_
    refine br_d (fun hb3 => ?_) (fun hb3 => ?_)
    · refine run ?_
      exact wkx () (.inr (.inr (by omega))) fits rfl
    refine run ?_
    have hd := hI.done ha hb (by omega)
    refine .fz _ _ [] h k 1 _ (.all i (by rw [rInts_length]; exact hlen)) (retv ⟨?_, rfl⟩)
    rw [hd]
  rintro _ hcond
  refine run ?_
  refine VCalls.use (digit_calls a i _ (by omega)) ?_
  rintro _ _ ⟨rfl, rfl⟩
  refine run ?_
  refine VCalls.use (digit_calls b i _ (by omega)) ?_
  rintro _ _ ⟨rfl, rfl⟩
  refine run ?_
  refine new_k fun k2 => ?_
  refine run ?_
  refine wkx (k2, i + 1, (a.getD i 0 + b.getD i 0 + c) / 10, l ++ [(a.getD i 0 + b.getD i 0 + c) % 10]) ⟨hI.step ha hb hcond (d2 := (a.getD i 0 + b.getD i 0 + c) % 10) (c2 := (a.getD i 0 + b.getD i 0 + c) / 10) rfl (by omega) (by omega), ?_⟩ fits rfl
  dsimp only
  omega

theorem rrest_calls (a b : List Int) (h : Hp) (ha : Dg a) (hb : Dg b) (hl : b.length ≤ a.length) (hv : lval b ≤ lval a) (hm : a.length ≤ 1000000000000) : VCalls Try.prog 70 [.row 1 (rInts .i64 a), .row 1 (rInts .i64 b)] h (fun v h' => v = .row 1 (rInts .i64 (restL a b)) ∧ h' = h) := by
  refine xc k70 rfl ?_
  refine run ?_
  refine lp (fun x : Nat × Nat × Int × List Int => [(0, .row 1 (rInts .i64 a)), (1, .row 1 (rInts .i64 b)), (5, .osl 1 x.1 0 x.2.1), (6, int x.2.2.1), (7, int x.2.1)]) (fun x => (x.1, .blk 1 (rInts .i64 x.2.2.2)) :: h) (fun x => RestI a b x.2.1 x.2.2.1 x.2.2.2) (fun x => a.length - x.2.1)
    (wkn 1 fun k => wkx (k, 0, 0, []) (RestI.zero a b) fits rfl) ?_
  rintro ⟨k, i, c, l⟩ hI
  dsimp only at *
  have hlen := hI.len
  have hc := hI.c1
  have hle := hI.le
  have xa := dg_getD ha i
  have xb := dg_getD hb i
  refine run ?_
  refine br_d (fun hb1 => ?_) (fun hb1 => ?_)
  · refine run ?_
    refine .mk _ (digit_calls b i _ (by omega)) ?_
    refine run ?_
    refine br_d (fun hb2 => ?_) (fun hb2 => ?_)
    · refine run ?_
      refine new_k fun k2 => ?_
      refine run ?_
      refine wkx (k2, i + 1, 1, l ++ [a.getD i 0 - b.getD i 0 - c + 10]) ⟨hI.step (by omega) (c2 := 1) (.inr rfl) (by omega) (by omega), by dsimp only; omega⟩ fits rfl
    · refine run ?_
      refine new_k fun k2 => ?_
      refine run ?_
      refine wkx (k2, i + 1, 0, l ++ [a.getD i 0 - b.getD i 0 - c]) ⟨hI.step (by omega) (c2 := 0) (.inl rfl) (by omega) (by omega), by dsimp only; omega⟩ fits rfl
  · refine run ?_
    have hd := hI.done ha hb (by omega) hl hv
    refine .fz _ _ [] h k 1 _ (.all i (by rw [rInts_length]; exact hlen)) (retv ⟨?_, rfl⟩)
    rw [hd]

theorem numV_agg (z : Int) : numV z = .agg [vbool (decide (z < 0)), .row 1 (rInts .i64 (lod z.natAbs))] := rfl
theorem opposite_calls (z : Int) (h : Hp) (hm : (lod z.natAbs).length ≤ 1000000000000) : VCalls Try.prog 48 [numV z] h (fun v h' => v = numV (-z) ∧ h' = h) := by
  refine xc k48 rfl ?_
  refine run ?_
  refine new_k fun k1 => ?_
  refine run ?_
  refine new_k fun k2 => ?_
  refine run ?_
  refine VCalls.use (trim_calls (!decide (z < 0)) (lod z.natAbs) _ (lod_dg _) (by omega)) ?_
  rintro _ _ ⟨rfl, rfl⟩
  rw [lod_val, show (if (!decide (z < 0)) = true then -(z.natAbs : Int) else z.natAbs) = -z by by_cases hy : z < 0 <;> simp [hy] <;> omega]
  refine run ?_
  exact ret1 (ret1 (retv ⟨rfl, rfl⟩))

theorem lod_add_len (m n : Nat) : (lod (m + n)).length ≤ (dc m).length + (dc n).length := by
  have h1 := lod_decs (m + n)
  have h2 := dc_add_len m n
  rw [dc_length] at h2
  omega

theorem radd_calls (y z : Int) (h : Hp) (hm : (lod y.natAbs).length ≤ 100000000000) (hm2 : (lod z.natAbs).length ≤ 100000000000) : VCalls Try.prog 58 [numV y, numV z] h (fun v h' => v = numV (y + z) ∧ h' = h) := by
  have dy := lod_dg y.natAbs
  have dz := lod_dg z.natAbs
  have vy := lod_val y.natAbs
  have vz := lod_val z.natAbs
  have hsl := sumL_length (lod y.natAbs) (lod z.natAbs)
  have hsv := sumL_val dy dz
  have hr1 := restL_length (lod y.natAbs) (lod z.natAbs)
  have hr2 := restL_length (lod z.natAbs) (lod y.natAbs)
  refine xc k58 rfl ?_
  refine run ?_
  refine new_k fun k1 => ?_
  refine run ?_
  refine new_k fun k2 => ?_
  refine run ?_
  refine new_k fun k3 => ?_
  refine run ?_
  refine ⟨fun hq => ?_, fun hq => ?_⟩
  · have hq2 : y < 0 ↔ z < 0 := by simpa using hq
    refine run ?_
    refine .mk _ (rsum_calls _ _ _ dy dz (by omega) (by omega)) ?_
    refine run ?_
    refine .mk _ (trim_calls (decide (y < 0)) (sumL (lod y.natAbs) (lod z.natAbs)) _ (sumL_dg _ _) (by omega)) ?_
    rw [hsv, vy, vz, show (if decide (y < 0) = true then -((y.natAbs : Int) + z.natAbs) else y.natAbs + z.natAbs) = y + z by by_cases hy : y < 0 <;> simp [hy] <;> omega]
    refine run ?_
    exact ret1 (ret1 (ret1 (retv ⟨rfl, rfl⟩)))
  · have hq2 : ¬ (y < 0 ↔ z < 0) := by simpa using hq
    refine run ?_
    refine VCalls.use (rsize_calls y.natAbs z.natAbs _ (by omega) (by omega)) ?_
    rintro _ _ ⟨rfl, rfl⟩
    refine run ?_
    refine br_d (fun hc => ?_) (fun hc => ?_)
    · have hlt : y.natAbs < z.natAbs := by unfold cmpI at hc; split at hc <;> (try split at hc) <;> omega
      have hrv := restL_val dz dy (by omega)
      refine run ?_
      refine .mk _ (rrest_calls _ _ _ dz dy (lod_len (by omega)) (by omega) (by omega)) ?_
      refine run ?_
      refine .mk _ (trim_calls (decide (z < 0)) (restL (lod z.natAbs) (lod y.natAbs)) _ (restL_dg _ _) (by omega)) ?_
      rw [hrv, vy, vz, show (if decide (z < 0) = true then -((z.natAbs : Int) - y.natAbs) else z.natAbs - y.natAbs) = y + z by by_cases hy : z < 0 <;> simp [hy] <;> omega]
      refine run ?_
      exact ret1 (ret1 (ret1 (retv ⟨rfl, rfl⟩)))
    · have hlt : z.natAbs ≤ y.natAbs := by unfold cmpI at hc; split at hc <;> (try split at hc) <;> omega
      have hrv := restL_val dy dz (by omega)
      refine run ?_
      refine .mk _ (rrest_calls _ _ _ dy dz (lod_len (by omega)) (by omega) (by omega)) ?_
      refine run ?_
      refine .mk _ (trim_calls (decide (y < 0)) (restL (lod y.natAbs) (lod z.natAbs)) _ (restL_dg _ _) (by omega)) ?_
      rw [hrv, vy, vz, show (if decide (y < 0) = true then -((y.natAbs : Int) - z.natAbs) else y.natAbs - z.natAbs) = y + z by by_cases hy : y < 0 <;> simp [hy] <;> omega]
      refine run ?_
      exact ret1 (ret1 (ret1 (retv ⟨rfl, rfl⟩)))

theorem write_calls (z : Int) (h : Hp) (hm : (lod z.natAbs).length ≤ 100000000000) : VCalls Try.prog 47 [numV z] h (fun v h' => v = vstr (en z) ∧ h' = h) := by
  have dz := lod_dg z.natAbs
  refine xc k47 rfl ?_
  refine run ?_
  refine new_k fun k1 => ?_
  refine run ?_
  refine br_d (fun hb => ?_) (fun hb => ?_)
  · refine run ?_
    refine ret1 (retv ⟨?_, rfl⟩)
    have : z.natAbs = 0 := by
      by_cases h0 : z.natAbs = 0
      · exact h0
      · exact absurd (List.length_eq_zero_iff.1 (by omega)) (lod_ne h0)
    have : z = 0 := by omega
    subst this; rfl
  have hz0 : z ≠ 0 := by rintro rfl; exact hb (by rw [show Int.natAbs 0 = 0 from rfl, lod_zero]; rfl)
  have he : enc z = (if z < 0 then [45] else []) ++ ((lod z.natAbs).map fun d => d + 48).reverse := by
    by_cases h0 : z < 0
    · rw [enc_neg h0, if_pos h0, decs, if_neg (by omega)]; rfl
    · rw [enc_nonneg h0, if_neg h0, decs, if_neg (by omega)]; rfl
  refine runto 4 ?_
  refine jn (fun x : Nat × List Int => [(1, .ptr 2 k1 0 0), (3, .osl 1 x.1 0 x.2.length)]) (fun x => (x.1, .blk 1 (rInts .u8 x.2)) :: (k1, .blk 2 [[vbool (decide (z < 0)), .row 1 (rInts .i64 (lod z.natAbs))]]) :: h) (fun x => x.2 = if z < 0 then [45] else []) ?_ ?_
  · refine run ?_
    refine br_d (fun hz => ?_) (fun hz => ?_)
    · refine run ?_
      refine new_k fun k2 => ?_
      refine run ?_
      exact wkx (k2, [45]) (if_pos hz).symm fits rfl
    · refine run ?_
      exact wkn 1 fun k2 => wkx (k2, []) (if_neg hz).symm fits rfl
  rintro ⟨k, bs⟩ hbs
  dsimp only at *
  have hbl : bs.length ≤ 1 := by rw [hbs]; split <;> simp
  rw [← hbs] at he
  refine run ?_
  refine lp (fun x : Nat × Nat × List Int => [(1, .ptr 2 k1 0 0), (3, .osl 1 x.1 0 x.2.2.length), (4, int ((x.2.1 : Int) - 1))]) (fun x => (x.1, .blk 1 (rInts .u8 x.2.2)) :: (k1, .blk 2 [[vbool (decide (z < 0)), .row 1 (rInts .i64 (lod z.natAbs))]]) :: h)
    (fun x => x.2.1 ≤ (lod z.natAbs).length ∧ x.2.2 = bs ++ (((lod z.natAbs).drop x.2.1).map fun d => d + 48).reverse) (fun x => x.2.1)
    (wkx (k, (lod z.natAbs).length, bs) ⟨by dsimp only; omega, by dsimp only; rw [List.drop_of_length_le (by omega)]; simp⟩ fits rfl) ?_
  rintro ⟨k, j, cs⟩ ⟨hj, hcs⟩
  dsimp only at *
  have hcl : cs.length = bs.length + ((lod z.natAbs).length - j) := by rw [hcs]; simp
  refine run ?_
  refine br_d (fun hc => ?_) (fun hc => ?_)
  · have hi : ((j : Int) - 1).toNat = j - 1 := by omega
    have hdd := dg_getD dz ((j : Int) - 1).toNat
    refine run ?_
    refine new_k fun k3 => ?_
    refine run ?_
    refine wkx (k3, j - 1, cs ++ [48 + (lod z.natAbs).getD ((j : Int) - 1).toNat 0]) ⟨⟨by dsimp only; omega, ?_⟩, by dsimp only; omega⟩ fits ?_
    · dsimp only
      rw [hcs, hi, drop_getD (ns := lod z.natAbs) (k := j - 1) (by omega), show j - 1 + 1 = j by omega, List.map_cons, List.reverse_cons, List.append_assoc, Int.add_comm 48]
    · rfl
  · have hj0 : j = 0 := by omega
    subst hj0
    refine run ?_
    refine ret1 (ret1 (retv ⟨?_, rfl⟩))
    rw [List.drop_zero] at hcs
    rw [en, he, ← hcs]
    show vstr (ofNums (cs.take (0 + cs.length))) = _
    rw [Nat.zero_add, List.take_length]
end Go.Proofs.Ytpiihodkonegbaa
/- Walks of the reference of layer 1: Neg, Abs, Add, Sub. -/
namespace Go.Proofs.Ytpiihodkonegbaa
open Go.XW Go.XW.DU
open Go.XW.DI hiding fm body sgn sizeI digs

theorem rneg_calls (a : List UInt8) (h : Hp) (ha : a.length ≤ 10000000000) : VCalls Try.prog 18 [vstr a] h (fun v h' => v = unV (fun z => -z) a ∧ h' = h) := by
  refine xc k18 rfl ?_
  refine run ?_
  refine VCalls.use (rformed_calls a _ (by omega)) ?_
  rintro _ _ ⟨rfl, rfl⟩
  unfold unV
  cases hfa : fm a with
  | false => refine run ?_; exact retv ⟨rfl, rfl⟩
  | true =>
    generalize hy : zv a = y
    obtain rfl : a = en y := hy ▸ en_of_fm hfa
    have h1 := lod_en y
    refine run ?_
    refine VCalls.use (read_calls y _ (by omega)) ?_
    rintro _ _ ⟨rfl, rfl⟩
    refine run ?_
    refine VCalls.use (opposite_calls y _ (by omega)) ?_
    rintro _ _ ⟨rfl, rfl⟩
    refine run ?_
    refine VCalls.use (write_calls (-y) _ (by rw [show (-y).natAbs = y.natAbs by omega]; omega)) ?_
    rintro _ _ ⟨rfl, rfl⟩
    refine run ?_
    exact retv ⟨rfl, rfl⟩

theorem rabs_calls (a : List UInt8) (h : Hp) (ha : a.length ≤ 10000000000) : VCalls Try.prog 21 [vstr a] h (fun v h' => v = unV (fun z => z.natAbs) a ∧ h' = h) := by
  refine xc k21 rfl ?_
  refine run ?_
  refine VCalls.use (rformed_calls a _ (by omega)) ?_
  rintro _ _ ⟨rfl, rfl⟩
  unfold unV
  cases hfa : fm a with
  | false => refine run ?_; exact retv ⟨rfl, rfl⟩
  | true =>
    generalize hy : zv a = y
    obtain rfl : a = en y := hy ▸ en_of_fm hfa
    have h1 := lod_en y
    refine run ?_
    refine VCalls.use (read_calls y _ (by omega)) ?_
    rintro _ _ ⟨rfl, rfl⟩
    refine run ?_
    refine VCalls.use (trim_calls false (lod y.natAbs) _ (lod_dg _) (by omega)) ?_
    rintro _ _ ⟨rfl, rfl⟩
    rw [show (if false = true then - lval (lod y.natAbs) else lval (lod y.natAbs)) = (y.natAbs : Int) from by rw [lod_val]; rfl]
    refine run ?_
    refine VCalls.use (write_calls (y.natAbs : Int) _ (by simp only [Int.natAbs_natCast]; omega)) ?_
    rintro _ _ ⟨rfl, rfl⟩
    refine run ?_
    exact retv ⟨rfl, rfl⟩

theorem lod_len_add (y z : Int) : (lod (y + z).natAbs).length ≤ (en y).length + (en z).length := by
  have h1 := lod_decs (y + z).natAbs
  have h2 := dc_mono (show (y + z).natAbs ≤ y.natAbs + z.natAbs by omega)
  have h3 := dc_add_len y.natAbs z.natAbs
  have h4 := dc_le_en y
  have h5 := dc_le_en z
  rw [dc_length] at h2
  omega

theorem rAdd_calls (a b : List UInt8) (h : Hp) (ha : a.length ≤ 10000000000) (hb : b.length ≤ 10000000000) : VCalls Try.prog 25 [vstr a, vstr b] h (fun v h' => v = binV (fun y z => y + z) a b ∧ h' = h) := by
  refine xc k25 rfl ?_
  refine run ?_
  refine VCalls.use (rformed_calls a _ (by omega)) ?_
  rintro _ _ ⟨rfl, rfl⟩
  unfold binV
  cases hfa : fm a with
  | false => refine run ?_; exact retv ⟨rfl, rfl⟩
  | true =>
    refine run ?_
    refine VCalls.use (rformed_calls b _ (by omega)) ?_
    rintro _ _ ⟨rfl, rfl⟩
    cases hfb : fm b with
    | false => refine run ?_; exact retv ⟨rfl, rfl⟩
    | true =>
      generalize hy : zv a = y
      generalize hz : zv b = z
      obtain rfl : a = en y := hy ▸ en_of_fm hfa
      obtain rfl : b = en z := hz ▸ en_of_fm hfb
      have h1 := lod_en y
      have h2 := lod_en z
      have h3 := lod_len_add y z
      refine run ?_
      refine VCalls.use (read_calls y _ (by omega)) ?_
      rintro _ _ ⟨rfl, rfl⟩
      refine run ?_
      refine VCalls.use (read_calls z _ (by omega)) ?_
      rintro _ _ ⟨rfl, rfl⟩
      refine run ?_
      refine VCalls.use (radd_calls y z _ (by omega) (by omega)) ?_
      rintro _ _ ⟨rfl, rfl⟩
      refine run ?_
      refine VCalls.use (write_calls (y + z) _ (by omega)) ?_
      rintro _ _ ⟨rfl, rfl⟩
      refine run ?_
      exact retv ⟨rfl, rfl⟩

theorem rSub_calls (a b : List UInt8) (h : Hp) (ha : a.length ≤ 10000000000) (hb : b.length ≤ 10000000000) : VCalls Try.prog 27 [vstr a, vstr b] h (fun v h' => v = binV (fun y z => y - z) a b ∧ h' = h) := by
  refine xc k27 rfl ?_
  refine run ?_
  refine VCalls.use (rformed_calls a _ (by omega)) ?_
  rintro _ _ ⟨rfl, rfl⟩
  unfold binV
  cases hfa : fm a with
  | false => refine run ?_; exact retv ⟨rfl, rfl⟩
  | true =>
    refine run ?_
    refine VCalls.use (rformed_calls b _ (by omega)) ?_
    rintro _ _ ⟨rfl, rfl⟩
    cases hfb : fm b with
    | false => refine run ?_; exact retv ⟨rfl, rfl⟩
    | true =>
      generalize hy : zv a = y
      generalize hz : zv b = z
      obtain rfl : a = en y := hy ▸ en_of_fm hfa
      obtain rfl : b = en z := hz ▸ en_of_fm hfb
      have h1 := lod_en y
      have h2 := lod_en z
      have h3 := lod_len_add y (-z)
      have h4 := en_neg_len z
      have h5 : (-z).natAbs = z.natAbs := by omega
      refine run ?_
      refine VCalls.use (read_calls y _ (by omega)) ?_
      rintro _ _ ⟨rfl, rfl⟩
      refine run ?_
      refine VCalls.use (read_calls z _ (by omega)) ?_
      rintro _ _ ⟨rfl, rfl⟩
      refine run ?_
      refine VCalls.use (opposite_calls z _ (by omega)) ?_
      rintro _ _ ⟨rfl, rfl⟩
      refine run ?_
      refine VCalls.use (radd_calls y (-z) _ (by omega) (by rw [h5]; omega)) ?_
      rintro _ _ ⟨rfl, rfl⟩
      refine run ?_
      refine VCalls.use (write_calls (y + -z) _ (by omega)) ?_
      rintro _ _ ⟨rfl, rfl⟩
      refine run ?_
      exact retv ⟨rfl, rfl⟩
end Go.Proofs.Ytpiihodkonegbaa
/- Walks of the reference of layer 1: the product. -/
namespace Go.Proofs.Ytpiihodkonegbaa
open Go.XW Go.XW.DU
open Go.XW.DI hiding fm body sgn sizeI digs

theorem sign_mul (y z : Int) : (if (decide (y < 0) != decide (z < 0)) = true then -((y.natAbs : Int) * z.natAbs) else (y.natAbs : Int) * z.natAbs) = y * z := by
  by_cases hy : y < 0 <;> by_cases hz : z < 0
  · rw [show (y.natAbs : Int) = -y by omega, show (z.natAbs : Int) = -z by omega]; simp [hy, hz, Int.neg_mul_neg]
  · rw [show (y.natAbs : Int) = -y by omega, show (z.natAbs : Int) = z by omega]; simp [hy, hz, Int.neg_mul]
  · rw [show (y.natAbs : Int) = y by omega, show (z.natAbs : Int) = -z by omega]; simp [hy, hz, Int.mul_neg]
  · rw [show (y.natAbs : Int) = y by omega, show (z.natAbs : Int) = z by omega]; simp [hy, hz]

theorem rtimes_calls (y z : Int) (h : Hp) (hm : (lod y.natAbs).length ≤ 10000000000) (hm2 : (lod z.natAbs).length ≤ 10000000000) : VCalls Try.prog 55 [numV y, numV z] h (fun v h' => v = numV (y * z) ∧ h' = h) := by
  have dy := lod_dg y.natAbs
  have dz := lod_dg z.natAbs
  have vy := lod_val y.natAbs
  have vz := lod_val z.natAbs
  rw [numV_agg, numV_agg]
  generalize lod y.natAbs = a at *
  generalize lod z.natAbs = b at *
  refine xc k55 rfl ?_
  refine run ?_
  refine new_k fun k1 => ?_
  refine run ?_
  refine new_k fun k2 => ?_
  refine run ?_
  refine new_k fun k3 => ?_
  refine run ?_
  refine new_k fun k4 => ?_
  refine run ?_
  refine lp (fun x : Nat × List Int => [(2, .ptr 2 k1 0 0), (3, .ptr 2 k2 0 0), (4, .ptr 2 k3 0 0), (5, .osl 1 k4 0 (a.length + b.length + 1)), (6, int x.1)])
    (fun x => (k4, .blk 1 (rInts .i64 x.2)) :: (k3, .blk 2 [[vbool false, vnil]]) :: (k2, .blk 2 [[vbool (decide (z < 0)), .row 1 (rInts .i64 b)]]) :: (k1, .blk 2 [[vbool (decide (y < 0)), .row 1 (rInts .i64 a)]]) :: h)
    (fun x => TimI a b x.1 x.2) (fun x => a.length - x.1) (wkx (0, List.replicate (a.length + b.length + 1) 0) (TimI.zero a b) fits ?_) ?_
  · rw [show ((a.length : Int) + b.length + 1).toNat = a.length + b.length + 1 by omega]
  rintro ⟨i, l⟩ hI
  dsimp only at *
  have hlen := hI.len
  have hle := hI.le
  refine run ?_
  refine br_d (fun hb1 => ?_) (fun hb1 => ?_)
  · refine run ?_
    refine lp (fun x : Nat × Int × List Int => [(2, .ptr 2 k1 0 0), (3, .ptr 2 k2 0 0), (4, .ptr 2 k3 0 0), (5, .osl 1 k4 0 (a.length + b.length + 1)), (6, int i), (7, int x.2.1), (8, int x.1)])
      (fun x => (k4, .blk 1 (rInts .i64 x.2.2)) :: (k3, .blk 2 [[vbool false, vnil]]) :: (k2, .blk 2 [[vbool (decide (z < 0)), .row 1 (rInts .i64 b)]]) :: (k1, .blk 2 [[vbool (decide (y < 0)), .row 1 (rInts .i64 a)]]) :: h)
      (fun x => TimJ a b i x.1 x.2.1 x.2.2) (fun x => a.length + b.length + 1 - x.1) (wkx (0, 0, l) (TimJ.zero hI (by omega)) fits rfl) ?_
    rintro ⟨k, c, l2⟩ hJ
    dsimp only at *
    have hlen2 := hJ.len
    have hik := hJ.ik
    have hc := hJ.c1
    refine run ?_
    refine br_d (fun hb2 => ?_) (fun hb2 => ?_)
    · obtain ⟨hd, hst⟩ := hJ.step dy dz (by omega) (d := l2.getD (i + k) 0 + a.getD i 0 * b.getD k 0 + c) rfl
      have x1 := dg_getD hJ.dg (i + k)
      have x2 := dg_getD dy i
      have x3 := dg_getD dz k
      have x4 : 0 ≤ a.getD i 0 * b.getD k 0 := Int.mul_nonneg x2.1 x3.1
      have x5 : a.getD i 0 * b.getD k 0 ≤ 9 * 9 := Int.mul_le_mul x2.2 x3.2 x3.1 (by omega)
      have hikn : ((i : Int) + (k : Int)).toNat = i + k := by omega
      rw [← hikn] at x1
      refine run ?_
      refine .mk _ (digit_calls b k _ (by omega)) ?_
      refine run ?_
      rw [← hikn] at hst
      refine wkx (k + 1, _, _) ⟨hst, by dsimp only; omega⟩ fits rfl
    · refine run ?_
      refine wkx (i + 1, l2) ⟨hJ.done dy dz (by omega) (by omega), by dsimp only; omega⟩ fits rfl
  · have hv := hI.done (by omega)
    refine run ?_
    refine VCalls.fz0 (.cons _ _ _ _ (.agg _ _ _ _ (.same _) (.agg _ _ _ _ (.all _ (by rw [rInts_length]; exact hlen)) .agg0)) .nil) ?_
    refine VCalls.use (trim_calls _ l _ hI.dg (by omega)) ?_
    rintro _ _ ⟨rfl, rfl⟩
    have hs : (if (decide (y < 0) != decide (z < 0)) = true then - lval l else lval l) = y * z := by
      rw [hv, vy, vz]; exact sign_mul y z
    rw [hs]
    refine run ?_
    refine ret1 (ret1 (ret1 (retv ⟨rfl, rfl⟩)))

theorem dc_mul_len (m n : Nat) : (dc (m * n)).length ≤ (dc m).length + (dc n).length := by
  have h1 := dc_high m; have h2 := dc_high n; have h3 := dc_pos m; have h4 := dc_pos n
  refine dc_len ?_ (by omega)
  rw [Int.pow_add, Int.natCast_mul]
  have h5 : (m : Int) * n ≤ m * 10 ^ (dc n).length := Int.mul_le_mul_of_nonneg_left (by omega) (by omega)
  have h6 : (m : Int) * 10 ^ (dc n).length < 10 ^ (dc m).length * 10 ^ (dc n).length := Int.mul_lt_mul_of_pos_right h1 (p10_pos _)
  omega
theorem lod_len_mul (y z : Int) : (lod (y * z).natAbs).length ≤ (en y).length + (en z).length := by
  have h1 := lod_decs (y * z).natAbs
  have h3 := dc_mul_len y.natAbs z.natAbs
  have h4 := dc_le_en y
  have h5 := dc_le_en z
  rw [Int.natAbs_mul] at *
  rw [dc_length] at h3
  omega
theorem en_mul_len (y z : Int) : (en (y * z)).length ≤ (en y).length + (en z).length + 1 := by
  rw [en_len, en_len, en_len, Int.natAbs_mul]
  have := dc_mul_len y.natAbs z.natAbs
  split <;> omega

theorem rMul_calls (a b : List UInt8) (h : Hp) (ha : a.length ≤ 10000000000) (hb : b.length ≤ 10000000000) : VCalls Try.prog 29 [vstr a, vstr b] h (fun v h' => v = binV (fun y z => y * z) a b ∧ h' = h) := by
  refine xc k29 rfl ?_
  refine run ?_
  refine VCalls.use (rformed_calls a _ (by omega)) ?_
  rintro _ _ ⟨rfl, rfl⟩
  unfold binV
  cases hfa : fm a with
  | false => refine run ?_; exact retv ⟨rfl, rfl⟩
  | true =>
    refine run ?_
    refine VCalls.use (rformed_calls b _ (by omega)) ?_
    rintro _ _ ⟨rfl, rfl⟩
    cases hfb : fm b with
    | false => refine run ?_; exact retv ⟨rfl, rfl⟩
    | true =>
      generalize hy : zv a = y
      generalize hz : zv b = z
      obtain rfl : a = en y := hy ▸ en_of_fm hfa
      obtain rfl : b = en z := hz ▸ en_of_fm hfb
      have h1 := lod_en y
      have h2 := lod_en z
      have h3 := lod_len_mul y z
      refine run ?_
      refine VCalls.use (read_calls y _ (by omega)) ?_
      rintro _ _ ⟨rfl, rfl⟩
      refine run ?_
      refine VCalls.use (read_calls z _ (by omega)) ?_
      rintro _ _ ⟨rfl, rfl⟩
      refine run ?_
      refine VCalls.use (rtimes_calls y z _ (by omega) (by omega)) ?_
      rintro _ _ ⟨rfl, rfl⟩
      refine run ?_
      refine VCalls.use (write_calls (y * z) _ (by omega)) ?_
      rintro _ _ ⟨rfl, rfl⟩
      refine run ?_
      exact retv ⟨rfl, rfl⟩
end Go.Proofs.Ytpiihodkonegbaa
