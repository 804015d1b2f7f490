/- Walks of what is a number: the reference of layer 3. -/
import Derived.Test.YtpiicncihccheaaGreatDoorT0
namespace Go.Proofs.YtpiicncihccheaaGreatDoor
open Go.XW Go.XW.DU
/- "hallmark/hallmarkref03.Number" -/
def c49 : S :=
  (.hook 0 (.op (some 2) (.p (.mv (.const (.bool false))))
  (.hook 1 (.op (some 5) (.p (.mv (.tmp 0)))
  (.op (some 3) (.p (.mv (.tmp 5)))
  (.sq 2
    (.hook 2 (.op (some 6) (.p (.mv (.tmp 0)))
    (.op (some 7) (.p (.lens (.tmp 6)))
    (.op (some 8) (.p (.bin .gtr (.tmp 7) (.const (.int .i64 0))))
    (.op (some 9) (.p (.mv (.tmp 8)))
    (.g 9 true (some 10) (.p (.mv (.tmp 0)))
    (.g 9 true (some 11) (.p (.sidx (.tmp 10) (.const (.int .i64 0))))
    (.g 9 true (some 12) (.p (.bin .eql (.tmp 11) (.const (.int .u8 45))))
    (.op (some 13) (.p (.pick (.tmp 9) (.tmp 12) (.const (.bool false))))
    (.ite (.tmp 13)
      (.hook 3 (.op (some 14) (.p (.mv (.tmp 0)))
      (.op (some 15) (.p (.ssl (.tmp 14) (some (.const (.int .i64 1))) none))
      (.op (some 3) (.p (.mv (.tmp 15)))
      .done))))
      .done))))))))))
  (.sq 4
    (.hook 4 (.op (some 4) (.p (.mv (.const (.int .i64 0))))
    (.block 0
      (.loop
        (.sq 5
          (.hook 5 (.op (some 16) (.p (.mv (.tmp 4)))
          (.op (some 17) (.p (.mv (.tmp 3)))
          (.op (some 18) (.p (.lens (.tmp 17)))
          (.op (some 19) (.p (.bin .lss (.tmp 16) (.tmp 18)))
          (.ite (.tmp 19)
            .done
            (.exit 0)))))))
        (.sq 7
          (.block 1
            (.hook 7 (.op (some 22) (.p (.mv (.tmp 3)))
            (.op (some 23) (.p (.mv (.tmp 4)))
            (.op (some 24) (.p (.sidx (.tmp 22) (.tmp 23)))
            (.op (some 25) (.p (.bin .lss (.tmp 24) (.const (.int .u8 48))))
            (.op (some 26) (.p (.mv (.tmp 25)))
            (.g 26 false (some 27) (.p (.mv (.tmp 3)))
            (.g 26 false (some 28) (.p (.mv (.tmp 4)))
            (.g 26 false (some 29) (.p (.sidx (.tmp 27) (.tmp 28)))
            (.g 26 false (some 30) (.p (.bin .gtr (.tmp 29) (.const (.int .u8 57))))
            (.op (some 31) (.p (.pick (.tmp 26) (.const (.bool true)) (.tmp 30)))
            (.ite (.tmp 31)
              (.hook 8 (.op (some 2) (.p (.mv (.const (.bool false))))
              .ret))
              .done)))))))))))))
        (.hook 6 (.op (some 20) (.p (.mv (.tmp 4)))
        (.op (some 21) (.p (.bin .add (.tmp 20) (.const (.int .i64 1))))
        (.op (some 4) (.p (.mv (.tmp 21)))
        .done))))))))))
  (.sq 9
    (.hook 9 (.op (some 32) (.p (.mv (.tmp 3)))
    (.op (some 33) (.p (.lens (.tmp 32)))
    (.op (some 34) (.p (.bin .eql (.tmp 33) (.const (.int .i64 0))))
    (.op (some 35) (.p (.mv (.tmp 34)))
    (.g 35 false (some 36) (.p (.mv (.tmp 3)))
    (.g 35 false (some 37) (.p (.sidx (.tmp 36) (.const (.int .i64 0))))
    (.g 35 false (some 38) (.p (.bin .eql (.tmp 37) (.const (.int .u8 48))))
    (.g 35 false (some 39) (.p (.mv (.tmp 38)))
    (.g 39 true (some 40) (.p (.mv (.tmp 0)))
    (.g 39 true (some 41) (.p (.bin .neq (.tmp 40) (.const (.string ⟨#[48]⟩))))
    (.g 35 false (some 42) (.p (.pick (.tmp 39) (.tmp 41) (.const (.bool false))))
    (.op (some 43) (.p (.pick (.tmp 35) (.const (.bool true)) (.tmp 42)))
    (.ite (.tmp 43)
      (.hook 10 (.op (some 2) (.p (.mv (.const (.bool false))))
      .ret))
      .done))))))))))))))
  (.hook 11 (.op (some 2) (.p (.mv (.const (.bool true))))
  .ret))))))))))
theorem k49 : compF Tryz.prog 49 = some (c49, [(.t 2)], 44) := by kernel_rfl
/-- Slots as they stand, but for a text's last one. -/
theorem vstr_eq {a b : List UInt8} (h : a = b) : vstr a = vstr b := by rw [h]
theorem number_calls (l : List UInt8) (h : Hp) (hm : l.length ≤ 9223372036854775807) : VCalls Tryz.prog 49 [vstr l] h (fun v h' => v = vbool (fm l) ∧ h' = h) := by
  refine xc k49 rfl ?_
  refine runto 2 ?_
  refine jn (fun _ : Unit => [(0, vstr l), (3, vstr (body l))]) (fun _ => h) (fun _ => True) ?_ ?_
  · refine run ?_
    refine br_d (fun h0 => ?_) (fun h0 => ?_)
    · have hl : l ≠ [] := List.length_pos_iff.1 (by omega)
      refine run ?_
      refine br_d (fun hc => ?_) (fun hc => ?_)
      · refine run ?_
        refine wkx () trivial (.cons _ _ _ _ rfl rfl (.cons _ _ _ _ rfl (vstr_eq ?_) .nil)) rfl
        rw [body, if_pos (by rw [head_getD hl, (b45 _).1 hc])]
      · refine run ?_
        refine wkx () trivial (.cons _ _ _ _ rfl rfl (.cons _ _ _ _ rfl (vstr_eq ?_) .nil)) rfl
        rw [body, if_neg (by rw [head_getD hl]; intro he; exact hc ((b45 _).2 (Option.some.inj he)))]
    · refine run ?_
      refine wkx () trivial (.cons _ _ _ _ rfl rfl (.cons _ _ _ _ rfl (vstr_eq ?_) .nil)) rfl
      have : l = [] := List.length_eq_zero_iff.1 (by omega)
      subst this; rfl
  rintro ⟨⟩ -
  have hbl := body_len l
  have hf : fm l = (decide (l = [48]) || (decide (body l ≠ [] ∧ (body l).head? ≠ some 48) && digs (body l))) := by rw [fm]
  have hb48 : l = [48] → body l = [48] := fun h => by subst h; rfl
  rw [hf]
  generalize body l = bs at *
  refine run ?_
  refine lp (fun k : Nat => [(0, vstr l), (3, vstr bs), (4, int k)]) (fun _ => h) (fun k => k ≤ bs.length ∧ digs (bs.take k) = true) (fun k => bs.length - k) (wkx 0 ⟨by omega, rfl⟩ fits rfl) ?_
  rintro k ⟨hk, hd⟩
  have hno : ∀ (hlt : k < bs.length), digB (bs.getD k 0) = false → (decide (l = [48]) || (decide (bs ≠ [] ∧ bs.head? ≠ some 48) && digs bs)) = false := by
    intro hlt hx
    have h1 : digs bs = false := digs_take bs (k + 1) (by rw [digs_step bs k hlt, hd, hx]; rfl)
    have h2 : l ≠ [48] := fun he => by rw [hb48 he] at h1; cases h1
    simp [h1, h2]
  refine run ?_
  refine br_d (fun hlt => ?_) (fun hlt => ?_)
  · refine run ?_
    refine br_d (fun hc => ?_) (fun hc => ?_)
    · refine run ?_
      refine retv ⟨?_, rfl⟩
      rw [hno (by omega) (by generalize bs.getD k 0 = c at *; simp [digB]; omega)]; rfl
    refine run ?_
    refine br_d (fun hc2 => ?_) (fun hc2 => ?_)
    · refine run ?_
      refine retv ⟨?_, rfl⟩
      rw [hno (by omega) (by generalize bs.getD k 0 = c at *; simp [digB]; omega)]; rfl
    · refine run ?_
      refine wkx (k + 1) ⟨⟨by omega, ?_⟩, by omega⟩ fits rfl
      rw [digs_step bs k (by omega), hd]; generalize bs.getD k 0 = c at *; simp [digB]; omega
  · have hdd : digs bs = true := by rw [List.take_of_length_le (by omega)] at hd; exact hd
    rw [hdd]
    refine run ?_
    refine br_d (fun h0 => ?_) (fun h0 => ?_)
    · have : bs = [] := List.length_eq_zero_iff.1 (by omega)
      have h2 : l ≠ [48] := fun he => by rw [hb48 he] at this; cases this
      refine run ?_
      refine retv ⟨?_, rfl⟩
      simp [this, h2]; rfl
    have hne : bs ≠ [] := List.length_pos_iff.1 (by omega)
    refine run ?_
    refine br_d (fun hc => ?_) (fun hc => ?_)
    · have h3 : bs.head? = some 48 := by rw [head_getD hne, (b48 _).1 hc]
      refine run ?_
      refine br_nd (fun h4 => ?_) (fun h4 => ?_)
      · refine run ?_
        refine retv ⟨?_, rfl⟩
        simp [h3, h4]; rfl
      · refine run ?_
        refine retv ⟨?_, rfl⟩
        simp [h4]; rfl
    · have hh : bs.head? ≠ some 48 := by rw [head_getD hne]; intro he; exact hc ((b48 _).2 (Option.some.inj he))
      refine run ?_
      refine retv ⟨?_, rfl⟩
      simp [hh, hne]; rfl
end Go.Proofs.YtpiicncihccheaaGreatDoor
