/- Walks of the reference of layer 1: what is a number; numbers read; their order. -/
import Derived.Test.YtpiicncihccheaaDoorT0
namespace Go.Proofs.YtpiicncihccheaaDoor
open Go.XW Go.XW.DU
/- "hallmark/hallmarkref01.Formed" -/
def c31 : S :=
  (.hook 0 (.op (some 2) (.p (.mv (.const (.bool false))))
  (.hook 1 (.op (some 3) (.p (.mv (.const (.int .i64 0))))
  (.sq 2
    (.hook 2 (.op (some 5) (.p (.mv (.tmp 0)))
    (.op (some 6) (.p (.lens (.tmp 5)))
    (.op (some 7) (.p (.bin .gtr (.tmp 6) (.const (.int .i64 0))))
    (.op (some 8) (.p (.mv (.tmp 7)))
    (.g 8 true (some 9) (.p (.mv (.tmp 0)))
    (.g 8 true (some 10) (.p (.sidx (.tmp 9) (.const (.int .i64 0))))
    (.g 8 true (some 11) (.p (.bin .eql (.tmp 10) (.const (.int .u8 45))))
    (.op (some 12) (.p (.pick (.tmp 8) (.tmp 11) (.const (.bool false))))
    (.ite (.tmp 12)
      (.hook 3 (.op (some 3) (.p (.mv (.const (.int .i64 1))))
      .done))
      .done))))))))))
  (.sq 4
    (.hook 4 (.op (some 13) (.p (.mv (.tmp 3)))
    (.op (some 14) (.p (.mv (.tmp 0)))
    (.op (some 15) (.p (.lens (.tmp 14)))
    (.op (some 16) (.p (.bin .eql (.tmp 13) (.tmp 15)))
    (.ite (.tmp 16)
      (.hook 5 (.op (some 2) (.p (.mv (.const (.bool false))))
      .ret))
      .done))))))
  (.sq 6
    (.hook 6 (.op (some 17) (.p (.mv (.tmp 3)))
    (.op (some 4) (.p (.mv (.tmp 17)))
    (.block 0
      (.loop
        (.sq 7
          (.hook 7 (.op (some 18) (.p (.mv (.tmp 4)))
          (.op (some 19) (.p (.mv (.tmp 0)))
          (.op (some 20) (.p (.lens (.tmp 19)))
          (.op (some 21) (.p (.bin .lss (.tmp 18) (.tmp 20)))
          (.ite (.tmp 21)
            .done
            (.exit 0)))))))
        (.sq 9
          (.block 1
            (.hook 9 (.op (some 24) (.p (.mv (.tmp 0)))
            (.op (some 25) (.p (.mv (.tmp 4)))
            (.op (some 26) (.p (.sidx (.tmp 24) (.tmp 25)))
            (.op (some 27) (.p (.bin .lss (.tmp 26) (.const (.int .u8 48))))
            (.op (some 28) (.p (.mv (.tmp 27)))
            (.g 28 false (some 29) (.p (.mv (.tmp 0)))
            (.g 28 false (some 30) (.p (.mv (.tmp 4)))
            (.g 28 false (some 31) (.p (.sidx (.tmp 29) (.tmp 30)))
            (.g 28 false (some 32) (.p (.bin .gtr (.tmp 31) (.const (.int .u8 57))))
            (.op (some 33) (.p (.pick (.tmp 28) (.const (.bool true)) (.tmp 32)))
            (.ite (.tmp 33)
              (.hook 10 (.op (some 2) (.p (.mv (.const (.bool false))))
              .ret))
              .done)))))))))))))
        (.hook 8 (.op (some 22) (.p (.mv (.tmp 4)))
        (.op (some 23) (.p (.bin .add (.tmp 22) (.const (.int .i64 1))))
        (.op (some 4) (.p (.mv (.tmp 23)))
        .done)))))))))))
  (.hook 11 (.op (some 34) (.p (.mv (.tmp 0)))
  (.op (some 35) (.p (.mv (.tmp 3)))
  (.op (some 36) (.p (.sidx (.tmp 34) (.tmp 35)))
  (.op (some 37) (.p (.bin .neq (.tmp 36) (.const (.int .u8 48))))
  (.op (some 38) (.p (.mv (.tmp 37)))
  (.g 38 false (some 39) (.p (.mv (.tmp 0)))
  (.g 38 false (some 40) (.p (.bin .eql (.tmp 39) (.const (.string ⟨#[48]⟩))))
  (.op (some 41) (.p (.pick (.tmp 38) (.const (.bool true)) (.tmp 40)))
  (.op (some 2) (.p (.mv (.tmp 41)))
  .ret)))))))))))))))))
theorem k31 : compF Tryd.prog 31 = some (c31, [(.t 2)], 42) := by kernel_rfl

/-- How many bytes a sign takes. -/
def sg (l : List UInt8) : Nat := if l.head? = some 45 then 1 else 0
theorem body_sg (l : List UInt8) : body l = l.drop (sg l) := by unfold body sg; split <;> simp
theorem sg_le (l : List UInt8) : sg l ≤ l.length := by
  unfold sg; split
  · cases l with
    | nil => simp at *
    | cons a l => simp
  · omega

theorem r1formed_calls (l : List UInt8) (h : Hp) (hm : l.length ≤ 9223372036854775807) : VCalls Tryd.prog 31 [vstr l] h (fun v h' => v = vbool (fm l) ∧ h' = h) := by
  refine xc k31 rfl ?_
  refine runto 2 ?_
  refine jn (fun x : Nat => [(0, vstr l), (3, int x)]) (fun _ => h) (fun x => x = sg l) ?_ ?_
  · refine run ?_
    refine br_d (fun hb => ?_) (fun hb => ?_)
    · refine run ?_
      refine br_d (fun hc => ?_) (fun hc => ?_)
      · refine run ?_
        refine wkx 1 ?_ fits rfl
        rw [sg, if_pos (by rw [head_getD (by rintro rfl; simp at hb), (b45 _).1 hc])]
      · refine run ?_
        refine wkx 0 ?_ fits rfl
        rw [sg, if_neg (by rw [head_getD (by rintro rfl; simp at hb)]; intro he; exact hc ((b45 _).2 (Option.some.inj he)))]
    · refine run ?_
      refine wkx 0 ?_ fits rfl
      cases l with
      | nil => rfl
      | cons a l => simp at hb
  rintro x hx
  have hsl := sg_le l
  have hbl : (body l).length = l.length - sg l := by rw [body_sg]; simp
  have hg : ∀ j, (body l).getD j 0 = l.getD (x + j) 0 := fun j => by rw [body_sg, hx]; simp [List.getD]
  refine run ?_
  refine br_d (fun hb => ?_) (fun hb => ?_)
  · refine run ?_
    have h0 : body l = [] := List.length_eq_zero_iff.1 (by omega)
    refine .now _ _ ⟨?_, rfl⟩
    have h1 : ¬ l = [48] := by rintro rfl; simp [body] at h0
    simp [fm, h0, h1]; rfl
  refine run ?_
  refine lp (fun k : Nat => [(0, vstr l), (3, int x), (4, int k)]) (fun _ => h) (fun k => x ≤ k ∧ k ≤ l.length ∧ digs ((body l).take (k - x)) = true) (fun k => l.length - k) (wkx x ⟨by omega, by omega, by simp [digs]⟩ fits rfl) ?_
  rintro k ⟨hk1, hk2, hd⟩
  refine run ?_
  refine br_d (fun hlt => ?_) (fun hlt => ?_)
  · have hst : digs ((body l).take (k + 1 - x)) = digB (l.getD k 0) := by
      have := digs_step (body l) (k - x) (by omega)
      rw [hd, hg, show x + (k - x) = k by omega, show k - x + 1 = k + 1 - x by omega] at this
      simpa using this
    have hno : digB (l.getD k 0) = false → fm l = false := fun hf => by
      have h2 : digs (body l) = false := digs_take _ _ (hst.trans hf)
      have h1 : ¬ l = [48] := by rintro rfl; simp [body, digs, digB] at h2
      simp [fm, h1, h2]
    refine run ?_
    refine br_d (fun hc => ?_) (fun hc => ?_)
    · refine run ?_
      refine .now _ _ ⟨?_, rfl⟩
      rw [hno (by generalize l.getD k 0 = c at *; simp [digB]; omega)]; rfl
    refine run ?_
    refine br_d (fun hc2 => ?_) (fun hc2 => ?_)
    · refine run ?_
      refine .now _ _ ⟨?_, rfl⟩
      rw [hno (by generalize l.getD k 0 = c at *; simp [digB]; omega)]; rfl
    · refine run ?_
      refine wkx (k + 1) ⟨⟨by omega, by omega, ?_⟩, by omega⟩ fits rfl
      rw [hst]; generalize l.getD k 0 = c at *; simp [digB]; omega
  · have hdg : digs (body l) = true := by rw [List.take_of_length_le (by omega)] at hd; exact hd
    have hne : body l ≠ [] := by intro h0; rw [h0] at hbl; simp at hbl; omega
    have hhd : (body l).head? = some (l.getD x 0) := by rw [head_getD hne, hg]; rfl
    have hf : fm l = (decide (l = [48]) || decide (l.getD x 0 ≠ 48)) := by simp [fm, hdg, hne, hhd]
    refine run ?_
    refine br_nd (fun hc => ?_) (fun hc => ?_)
    · refine run ?_
      refine .now _ _ ⟨?_, rfl⟩
      have : l.getD x 0 ≠ 48 := fun he => hc ((b48 _).2 he)
      rw [hf, decide_eq_true this, Bool.or_true]; rfl
    · refine run ?_
      refine .now _ _ ⟨?_, rfl⟩
      rw [hf, (b48 _).1 hc]; simp; rfl
end Go.Proofs.YtpiicncihccheaaDoor
