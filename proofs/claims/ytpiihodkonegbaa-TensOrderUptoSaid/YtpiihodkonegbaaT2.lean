/- Walks of the reference of layer 1: what is a number; numbers read; their order. -/
import Derived.Test.YtpiihodkonegbaaT0
namespace Go.Proofs.Ytpiihodkonegbaa
open Go.XW Go.XW.DU

/-- How many bytes a sign takes. -/
def sg (l : List UInt8) : Nat := if l.head? = some 45 then 1 else 0
theorem body_sg (l : List UInt8) : body l = l.drop (sg l) := by unfold body sg; split <;> simp
theorem sg_le (l : List UInt8) : sg l ≤ l.length := by
  unfold sg; split
  · cases l with
    | nil => simp at *
    | cons a l => simp
  · omega

theorem rformed_calls (l : List UInt8) (h : Hp) (hm : l.length ≤ 9223372036854775807) : VCalls Try.prog 39 [vstr l] h (fun v h' => v = vbool (fm l) ∧ h' = h) := by
  refine xc k39 rfl ?_
  refine runto 2 ?_
  refine jn (fun x : Nat => [(0, vstr l), (3, int x)]) (fun _ => h) (fun x => x = sg l) ?_ ?_
  · refine run ?_
    refine br_d (fun hb => ?_) (fun hb => ?_)
    · refine run ?_
      refine br_d (fun hc => ?_) (fun hc => ?_)
      · refine run ?_
        refine wkx 1 ?_ fits rfl
        rw [sg, if_pos (by rw [head_getD (by rintro rfl; simp at hb), (b45 _).1 hc])]
      · refine run ?_
        refine wkx 0 ?_ fits rfl
        rw [sg, if_neg (by rw [head_getD (by rintro rfl; simp at hb)]; intro he; exact hc ((b45 _).2 (Option.some.inj he)))]
    · refine run ?_
      refine wkx 0 ?_ fits rfl
      cases l with
      | nil => rfl
      | cons a l => simp at hb
  rintro x hx
  have hsl := sg_le l
  have hbl : (body l).length = l.length - sg l := by rw [body_sg]; simp
  have hg : ∀ j, (body l).getD j 0 = l.getD (x + j) 0 := fun j => by rw [body_sg, hx]; simp [List.getD]
  refine run ?_
  refine br_d (fun hb => ?_) (fun hb => ?_)
  · refine run ?_
    have h0 : body l = [] := List.length_eq_zero_iff.1 (by omega)
    refine .now _ _ ⟨?_, rfl⟩
    have h1 : ¬ l = [48] := by rintro rfl; simp [body] at h0
    simp [fm, h0, h1]; rfl
  refine run ?_
  refine lp (fun k : Nat => [(0, vstr l), (3, int x), (4, int k)]) (fun _ => h) (fun k => x ≤ k ∧ k ≤ l.length ∧ digs ((body l).take (k - x)) = true) (fun k => l.length - k) (wkx x ⟨by omega, by omega, by simp [digs]⟩ fits rfl) ?_
  rintro k ⟨hk1, hk2, hd⟩
  refine run ?_
  refine br_d (fun hlt => ?_) (fun hlt => ?_)
  · have hst : digs ((body l).take (k + 1 - x)) = digB (l.getD k 0) := by
      have := digs_step (body l) (k - x) (by omega)
      rw [hd, hg, show x + (k - x) = k by omega, show k - x + 1 = k + 1 - x by omega] at this
      simpa using this
    have hno : digB (l.getD k 0) = false → fm l = false := fun hf => by
      have h2 : digs (body l) = false := digs_take _ _ (hst.trans hf)
      have h1 : ¬ l = [48] := by rintro rfl; simp [body, digs, digB] at h2
      simp [fm, h1, h2]
    refine run ?_
    refine br_d (fun hc => ?_) (fun hc => ?_)
    · refine run ?_
      refine .now _ _ ⟨?_, rfl⟩
      rw [hno (by generalize l.getD k 0 = c at *; simp [digB]; omega)]; rfl
    refine run ?_
    refine br_d (fun hc2 => ?_) (fun hc2 => ?_)
    · refine run ?_
      refine .now _ _ ⟨?_, rfl⟩
      rw [hno (by generalize l.getD k 0 = c at *; simp [digB]; omega)]; rfl
    · refine run ?_
      refine wkx (k + 1) ⟨⟨by omega, by omega, ?_⟩, by omega⟩ fits rfl
      rw [hst]; generalize l.getD k 0 = c at *; simp [digB]; omega
  · have hdg : digs (body l) = true := by rw [List.take_of_length_le (by omega)] at hd; exact hd
    have hne : body l ≠ [] := by intro h0; rw [h0] at hbl; simp at hbl; omega
    have hhd : (body l).head? = some (l.getD x 0) := by rw [head_getD hne, hg]; rfl
    have hf : fm l = (decide (l = [48]) || decide (l.getD x 0 ≠ 48)) := by simp [fm, hdg, hne, hhd]
    refine run ?_
    refine br_nd (fun hc => ?_) (fun hc => ?_)
    · refine run ?_
      refine .now _ _ ⟨?_, rfl⟩
      have : l.getD x 0 ≠ 48 := fun he => hc ((b48 _).2 he)
      rw [hf, decide_eq_true this, Bool.or_true]; rfl
    · refine run ?_
      refine .now _ _ ⟨?_, rfl⟩
      rw [hf, (b48 _).1 hc]; simp; rfl
end Go.Proofs.Ytpiihodkonegbaa
