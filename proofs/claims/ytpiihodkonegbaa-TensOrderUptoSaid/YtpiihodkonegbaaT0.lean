/- Walks of the package tens: what is a number, its parts, its order. -/
import Derived.Test.YtpiihodkonegbaaC0
import Derived.Test.YtpiihodkonegbaaXH
import Derived.Test.YtpiihodkonegbaaM1
namespace Go.Proofs.Ytpiihodkonegbaa
open Go.XW Go.XW.DU

theorem head_getD {l : List UInt8} (h : l ≠ []) : l.head? = some (l.getD 0 0) := by
  cases l with
  | nil => exact absurd rfl h
  | cons a l => rfl
theorem u8n (n : Nat) (c : UInt8) (hn : n < 256) : ((c.toNat : Int) = (n : Int)) ↔ c = UInt8.ofNat n := by
  constructor
  · intro h
    apply UInt8.toNat_inj.1
    have : c.toNat = n := by omega
    rw [this]; simp; omega
  · rintro rfl; simp; omega
theorem body_len (l : List UInt8) : (body l).length ≤ l.length := by unfold body; split <;> simp
theorem digs_step (l : List UInt8) (k : Nat) (hk : k < l.length) : digs (l.take (k + 1)) = (digs (l.take k) && digB (l.getD k 0)) := by
  rw [List.take_add_one]
  simp only [digs, List.getD, List.all_append]
  simp [hk]
theorem digs_take (l : List UInt8) (k : Nat) (h : digs (l.take k) = false) : digs l = false := by
  rw [← List.take_append_drop k l, digs, List.all_append]
  unfold digs at h
  rw [h]; rfl

theorem b45 (c : UInt8) : ((c.toNat : Int) = 45) ↔ c = 45 := u8n 45 c (by omega)
theorem b48 (c : UInt8) : ((c.toNat : Int) = 48) ↔ c = 48 := u8n 48 c (by omega)

theorem formed_calls (l : List UInt8) (h : Hp) (hm : l.length ≤ 9223372036854775807) : VCalls Try.prog 37 [vstr l] h (fun v h' => v = vbool (fm l) ∧ h' = h) := by
  refine xc k37 rfl ?_
  refine runto 3 ?_
  refine br_d (fun hb => ?_) (fun h0 => ?_)
  · refine run ?_
    subst hb
    exact .now _ _ ⟨rfl, rfl⟩
  refine runto 3 ?_
  refine jn (fun bs => [(0, vstr bs)]) (fun _ => h) (fun bs => bs = body l) ?_ ?_
  · refine run ?_
    refine br_nd (fun hb => ?_) (fun hb => ?_)
    · have hl : 0 < l.length := List.length_pos_iff.2 hb
      refine run ?_
      refine br_d (fun hc => ?_) (fun hc => ?_)
      · refine run ?_
        refine wkx _ ?_ fits rfl
        rw [body, if_pos (by rw [head_getD hb, (b45 _).1 hc])]
      · refine run ?_
        refine wkx _ ?_ fits rfl
        rw [body, if_neg (by rw [head_getD hb]; intro he; exact hc ((b45 _).2 (Option.some.inj he)))]
    · refine run ?_
      refine wkx _ ?_ fits rfl
      subst hb; rfl
  · rintro bs rfl
    have hbl := body_len l
    have hf : fm l = (decide (body l ≠ [] ∧ (body l).head? ≠ some 48) && digs (body l)) := by rw [fm]; simp [h0]
    rw [hf]
    generalize body l = bs at *
    refine run ?_
    refine br_d (fun hb => ?_) (fun hne => ?_)
    · refine run ?_
      subst hb; exact .now _ _ ⟨rfl, rfl⟩
    have hl : 0 < bs.length := List.length_pos_iff.2 hne
    refine run ?_
    refine br_d (fun hc => ?_) (fun hc => ?_)
    · refine run ?_
      have : bs.head? = some 48 := by rw [head_getD hne, (b48 _).1 hc]
      refine .now _ _ ⟨?_, rfl⟩
      simp [this]; rfl
    have hh : bs.head? ≠ some 48 := by rw [head_getD hne]; intro he; exact hc ((b48 _).2 (Option.some.inj he))
    refine run ?_
    refine lp (fun k : Nat => [(0, vstr bs), (23, int bs.length), (24, int k)]) (fun _ => h) (fun k => k ≤ bs.length ∧ digs (bs.take k) = true) (fun k => bs.length - k) (wkx 0 ⟨by omega, rfl⟩ fits rfl) ?_
    rintro k ⟨hk, hd⟩
    refine run ?_
    refine br_d (fun hlt => ?_) (fun hlt => ?_)
    · refine run ?_
      refine br_d (fun hc => ?_) (fun hc => ?_)
      · refine run ?_
        refine .now _ _ ⟨?_, rfl⟩
        have : digs bs = false := digs_take bs (k + 1) (by rw [digs_step bs k (by omega), hd]; generalize bs.getD k 0 = c at *; simp [digB]; omega)
        simp [this]; rfl
      refine run ?_
      refine br_d (fun hc2 => ?_) (fun hc2 => ?_)
      · refine run ?_
        refine .now _ _ ⟨?_, rfl⟩
        have : digs bs = false := digs_take bs (k + 1) (by rw [digs_step bs k (by omega), hd]; generalize bs.getD k 0 = c at *; simp [digB]; omega)
        simp [this]; rfl
      · refine run ?_
        refine wkx (k + 1) ⟨⟨by omega, ?_⟩, by omega⟩ fits rfl
        rw [digs_step bs k (by omega), hd]; generalize bs.getD k 0 = c at *; simp [digB]; omega
    · refine run ?_
      refine .now _ _ ⟨?_, rfl⟩
      have : digs bs = true := by rw [List.take_of_length_le (by omega)] at hd; exact hd
      simp [this, hne, hh]; rfl

theorem split_calls (l : List UInt8) (h : Hp) (hne : l ≠ []) (hm : l.length ≤ 9223372036854775807) : VCalls Try.prog 42 [vstr l] h (fun v h' => v = .tup [vbool (decide (l.head? = some 45)), vstr (body l)] ∧ h' = h) := by
  have hl : 0 < l.length := List.length_pos_iff.2 hne
  refine xc k42 rfl ?_
  refine run ?_
  refine br_d (fun hc => ?_) (fun hc => ?_)
  · have h1 : l.head? = some 45 := by rw [head_getD hne, (b45 _).1 hc]
    refine run ?_
    rw [body, if_pos h1]
    exact .now _ _ ⟨by simp [h1]; rfl, rfl⟩
  · have h1 : ¬ l.head? = some 45 := by rw [head_getD hne]; intro he; exact hc ((b45 _).2 (Option.some.inj he))
    refine run ?_
    rw [body, if_neg h1]
    exact .now _ _ ⟨by simp [h1]; rfl, rfl⟩

theorem size_calls (a b : List UInt8) (h : Hp) (hm : a.length ≤ 9223372036854775807) (hm2 : b.length ≤ 9223372036854775807) : VCalls Try.prog 43 [vstr a, vstr b] h (fun v h' => v = int (sizeI a b) ∧ h' = h) := by
  refine xc k43 rfl ?_
  refine run ?_
  refine br_nd (fun hb => ?_) (fun hb => ?_)
  · refine run ?_
    have h1 : a.length ≠ b.length := by omega
    rw [sizeI, if_pos h1]
    refine .now _ _ ⟨?_, rfl⟩
    show int _ = int _
    congr 2; split <;> omega
  · have h1 : ¬ a.length ≠ b.length := by omega
    refine run ?_
    refine ⟨fun hb => ?_, fun hb => ?_⟩
    · refine run ?_
      rw [sizeI, if_neg h1, if_pos hb]; exact .now _ _ ⟨rfl, rfl⟩
    · refine run ?_
      refine ⟨fun hb2 => ?_, fun hb2 => ?_⟩
      · refine run ?_
        rw [sizeI, if_neg h1, if_neg (by simp [hb]), if_pos hb2]; exact .now _ _ ⟨rfl, rfl⟩
      · refine run ?_
        rw [sizeI, if_neg h1, if_neg (by simp [hb]), if_neg (by simp [hb2])]; exact .now _ _ ⟨rfl, rfl⟩

theorem signed_calls (b : Bool) (l : List UInt8) (h : Hp) (hm : l.length < 9223372036854775807) : VCalls Try.prog 46 [vbool b, vstr l] h (fun v h' => v = vstr (sgn b l) ∧ h' = h) := by
  refine xc k46 rfl ?_
  cases b with
  | false =>
    refine run ?_
    exact .now _ _ ⟨rfl, rfl⟩
  | true =>
    refine run ?_
    refine br_nd (fun hb => ?_) (fun hb => ?_)
    · refine run ?_
      rw [sgn, if_pos ⟨rfl, hb⟩]; exact .now _ _ ⟨rfl, rfl⟩
    · refine run ?_
      rw [sgn, if_neg (fun h => h.2 hb)]; exact .now _ _ ⟨rfl, rfl⟩

theorem text_calls (ns : List Int) (k0 n : Nat) (h : Hp) (hn : ns.length = n) (hl : 0 < n) (hm : n ≤ 9223372036854775807) : VCalls Try.prog 67 [.osl 1 k0 0 n] ((k0, .blk 1 (rInts .u8 ns)) :: h) (fun v h' => v = vstr (ofNums (DI.strip ns)) ∧ h' = (k0, .blk 1 (rInts .u8 ns)) :: h) := by
  refine xc k67 rfl ?_
  refine run ?_
  refine lp (fun k : Nat => [(0, .osl 1 k0 0 n), (3, int k)]) (fun _ => (k0, .blk 1 (rInts .u8 ns)) :: h) (fun k => k < n ∧ DI.strip ns = DI.strip (ns.drop k)) (fun k => n - k) (wkx 0 ⟨hl, rfl⟩ fits rfl) ?_
  rintro k ⟨hk, hst⟩
  refine run ?_
  refine br_d (fun hb => ?_) (fun hb => ?_)
  · refine run ?_
    refine br_d (fun hc => ?_) (fun hc => ?_)
    · refine run ?_
      refine wkx (k + 1) ⟨⟨by omega, ?_⟩, by omega⟩ fits rfl
      rw [hst]; exact DI.strip_step ns k (by omega) hc
    · refine run ?_
      refine retv ⟨?_, rfl⟩
      rw [hst, DI.strip_end ns k (by omega) (fun hh => hc hh.2), show k + (n - k) = n by omega, List.take_of_length_le (by omega)]
      rfl
  · refine run ?_
    refine retv ⟨?_, rfl⟩
    rw [hst, DI.strip_end ns k (by omega) (fun hh => hb (by omega)), show k + (n - k) = n by omega, List.take_of_length_le (by omega)]
    rfl
end Go.Proofs.Ytpiihodkonegbaa
