/- Walks of the package tens: what is a number, its parts, its order. -/
import Derived.Test.YtpiicncihccheaaGreatDoorProg
import Derived.Test.YtpiicncihccheaaGreatDoorXH
import Derived.Test.YtpiicncihccheaaGreatDoorM1
namespace Go.Proofs.YtpiicncihccheaaGreatDoor
open Go.XW Go.XW.DU
/- "hallmark/tens.Formed" -/
def c58 : S :=
  (.hook 0 (.op (some 2) (.p (.mv (.const (.bool false))))
  (.sq 1
    (.hook 1 (.op (some 4) (.p (.mv (.tmp 0)))
    (.op (some 5) (.p (.bin .eql (.tmp 4) (.const (.string ⟨#[48]⟩))))
    (.ite (.tmp 5)
      (.hook 2 (.op (some 2) (.p (.mv (.const (.bool true))))
      .ret))
      .done))))
  (.sq 3
    (.hook 3 (.op (some 6) (.p (.mv (.tmp 0)))
    (.op (some 7) (.p (.bin .neq (.tmp 6) (.const (.string ⟨#[]⟩))))
    (.op (some 8) (.p (.mv (.tmp 7)))
    (.g 8 true (some 9) (.p (.mv (.tmp 0)))
    (.g 8 true (some 10) (.p (.sidx (.tmp 9) (.const (.int .i64 0))))
    (.g 8 true (some 11) (.p (.bin .eql (.tmp 10) (.const (.int .u8 45))))
    (.op (some 12) (.p (.pick (.tmp 8) (.tmp 11) (.const (.bool false))))
    (.ite (.tmp 12)
      (.hook 4 (.op (some 13) (.p (.mv (.tmp 0)))
      (.op (some 14) (.p (.ssl (.tmp 13) (some (.const (.int .i64 1))) none))
      (.op (some 0) (.p (.mv (.tmp 14)))
      .done))))
      .done)))))))))
  (.sq 5
    (.hook 5 (.op (some 15) (.p (.mv (.tmp 0)))
    (.op (some 16) (.p (.bin .eql (.tmp 15) (.const (.string ⟨#[]⟩))))
    (.op (some 17) (.p (.mv (.tmp 16)))
    (.g 17 false (some 18) (.p (.mv (.tmp 0)))
    (.g 17 false (some 19) (.p (.sidx (.tmp 18) (.const (.int .i64 0))))
    (.g 17 false (some 20) (.p (.bin .eql (.tmp 19) (.const (.int .u8 48))))
    (.op (some 21) (.p (.pick (.tmp 17) (.const (.bool true)) (.tmp 20)))
    (.ite (.tmp 21)
      (.hook 6 (.op (some 2) (.p (.mv (.const (.bool false))))
      .ret))
      .done)))))))))
  (.sq 7
    (.hook 7 (.op (some 22) (.p (.mv (.tmp 0)))
    (.op (some 23) (.p (.lens (.tmp 22)))
    (.op (some 24) (.p (.mv (.const (.int .i64 0))))
    (.block 0
      (.loop
        (.hook 8 (.op (some 25) (.p (.bin .lss (.tmp 24) (.tmp 23)))
        (.sq 0
          (.ite (.tmp 25)
            .done
            (.exit 0))
        (.sq 9
          (.block 1
            (.hook 9 (.op (some 26) (.p (.mv (.tmp 24)))
            (.op (some 3) (.p (.mv (.tmp 26)))
            (.hook 10 (.op (some 27) (.p (.mv (.tmp 0)))
            (.op (some 28) (.p (.mv (.tmp 3)))
            (.op (some 29) (.p (.sidx (.tmp 27) (.tmp 28)))
            (.op (some 30) (.p (.bin .lss (.tmp 29) (.const (.int .u8 48))))
            (.op (some 31) (.p (.mv (.tmp 30)))
            (.g 31 false (some 32) (.p (.mv (.tmp 0)))
            (.g 31 false (some 33) (.p (.mv (.tmp 3)))
            (.g 31 false (some 34) (.p (.sidx (.tmp 32) (.tmp 33)))
            (.g 31 false (some 35) (.p (.bin .gtr (.tmp 34) (.const (.int .u8 57))))
            (.op (some 36) (.p (.pick (.tmp 31) (.const (.bool true)) (.tmp 35)))
            (.ite (.tmp 36)
              (.hook 11 (.op (some 2) (.p (.mv (.const (.bool false))))
              .ret))
              .done))))))))))))))))
        (.hook 12 (.op (some 37) (.p (.bin .add (.tmp 24) (.const (.int .i64 1))))
        (.op (some 24) (.p (.mv (.tmp 37)))
        .done)))))))))))))
  (.hook 13 (.op (some 2) (.p (.mv (.const (.bool true))))
  .ret))))))))
theorem k58 : compF Tryz.prog 58 = some (c58, [(.t 2)], 38) := by kernel_rfl

theorem head_getD {l : List UInt8} (h : l ≠ []) : l.head? = some (l.getD 0 0) := by
  cases l with
  | nil => exact absurd rfl h
  | cons a l => rfl
theorem u8n (n : Nat) (c : UInt8) (hn : n < 256) : ((c.toNat : Int) = (n : Int)) ↔ c = UInt8.ofNat n := by
  constructor
  · intro h
    apply UInt8.toNat_inj.1
    have : c.toNat = n := by omega
    rw [this]; simp; omega
  · rintro rfl; simp; omega
theorem body_len (l : List UInt8) : (body l).length ≤ l.length := by unfold body; split <;> simp
theorem digs_step (l : List UInt8) (k : Nat) (hk : k < l.length) : digs (l.take (k + 1)) = (digs (l.take k) && digB (l.getD k 0)) := by
  rw [List.take_add_one]
  simp only [digs, List.getD, List.all_append]
  simp [hk]
theorem digs_take (l : List UInt8) (k : Nat) (h : digs (l.take k) = false) : digs l = false := by
  rw [← List.take_append_drop k l, digs, List.all_append]
  unfold digs at h
  rw [h]; rfl

theorem b45 (c : UInt8) : ((c.toNat : Int) = 45) ↔ c = 45 := u8n 45 c (by omega)
theorem b48 (c : UInt8) : ((c.toNat : Int) = 48) ↔ c = 48 := u8n 48 c (by omega)

theorem tformed_calls (l : List UInt8) (h : Hp) (hm : l.length ≤ 9223372036854775807) : VCalls Tryz.prog 58 [vstr l] h (fun v h' => v = vbool (fm l) ∧ h' = h) := by
  refine xc k58 rfl ?_
  refine runto 3 ?_
  refine br_d (fun hb => ?_) (fun h0 => ?_)
  · refine run ?_
    subst hb
    exact .now _ _ ⟨rfl, rfl⟩
  refine runto 3 ?_
  refine jn (fun bs => [(0, vstr bs)]) (fun _ => h) (fun bs => bs = body l) ?_ ?_
  · refine run ?_
    refine br_nd (fun hb => ?_) (fun hb => ?_)
    · have hl : 0 < l.length := List.length_pos_iff.2 hb
      refine run ?_
      refine br_d (fun hc => ?_) (fun hc => ?_)
      · refine run ?_
        refine wkx _ ?_ fits rfl
        rw [body, if_pos (by rw [head_getD hb, (b45 _).1 hc])]
      · refine run ?_
        refine wkx _ ?_ fits rfl
        rw [body, if_neg (by rw [head_getD hb]; intro he; exact hc ((b45 _).2 (Option.some.inj he)))]
    · refine run ?_
      refine wkx _ ?_ fits rfl
      subst hb; rfl
  · rintro bs rfl
    have hbl := body_len l
    have hf : fm l = (decide (body l ≠ [] ∧ (body l).head? ≠ some 48) && digs (body l)) := by rw [fm]; simp [h0]
    rw [hf]
    generalize body l = bs at *
    refine run ?_
    refine br_d (fun hb => ?_) (fun hne => ?_)
    · refine run ?_
      subst hb; exact .now _ _ ⟨rfl, rfl⟩
    have hl : 0 < bs.length := List.length_pos_iff.2 hne
    refine run ?_
    refine br_d (fun hc => ?_) (fun hc => ?_)
    · refine run ?_
      have : bs.head? = some 48 := by rw [head_getD hne, (b48 _).1 hc]
      refine .now _ _ ⟨?_, rfl⟩
      simp [this]; rfl
    have hh : bs.head? ≠ some 48 := by rw [head_getD hne]; intro he; exact hc ((b48 _).2 (Option.some.inj he))
    refine run ?_
    refine lp (fun k : Nat => [(0, vstr bs), (23, int bs.length), (24, int k)]) (fun _ => h) (fun k => k ≤ bs.length ∧ digs (bs.take k) = true) (fun k => bs.length - k) (wkx 0 ⟨by omega, rfl⟩ fits rfl) ?_
    rintro k ⟨hk, hd⟩
    refine run ?_
    refine br_d (fun hlt => ?_) (fun hlt => ?_)
    · refine run ?_
      refine br_d (fun hc => ?_) (fun hc => ?_)
      · refine run ?_
        refine .now _ _ ⟨?_, rfl⟩
        have : digs bs = false := digs_take bs (k + 1) (by rw [digs_step bs k (by omega), hd]; generalize bs.getD k 0 = c at *; simp [digB]; omega)
        simp [this]; rfl
      refine run ?_
      refine br_d (fun hc2 => ?_) (fun hc2 => ?_)
      · refine run ?_
        refine .now _ _ ⟨?_, rfl⟩
        have : digs bs = false := digs_take bs (k + 1) (by rw [digs_step bs k (by omega), hd]; generalize bs.getD k 0 = c at *; simp [digB]; omega)
        simp [this]; rfl
      · refine run ?_
        refine wkx (k + 1) ⟨⟨by omega, ?_⟩, by omega⟩ fits rfl
        rw [digs_step bs k (by omega), hd]; generalize bs.getD k 0 = c at *; simp [digB]; omega
    · refine run ?_
      refine .now _ _ ⟨?_, rfl⟩
      have : digs bs = true := by rw [List.take_of_length_le (by omega)] at hd; exact hd
      simp [this, hne, hh]; rfl

end Go.Proofs.YtpiicncihccheaaGreatDoor
