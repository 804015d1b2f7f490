/- Walks of the reference: which values are well shaped; how many parts a value has. -/
import Derived.Test.YtpiicncihccheaaGreatDoorJ1
import Derived.Test.YtpiicncihccheaaGreatDoorD4
import Derived.Test.YtpiicncihccheaaGreatDoorE0
namespace Go.Proofs.YtpiicncihccheaaGreatDoor
open Go.XW Go.XW.DU Go.Lib Go.XW.U
/- "hallmark/hallmarkref03.Rise" -/
def c51 : S :=
  (.hook 0 (.op (some 2) (.p (.mv (.const (.bool false))))
  (.sq 1
    (.hook 1 (.op (some 3) (.p (.mv (.const (.int .i64 0))))
    (.block 0
      (.loop
        (.sq 2
          (.hook 2 (.op (some 4) (.p (.mv (.tmp 3)))
          (.op (some 5) (.p (.mv (.tmp 0)))
          (.op (some 6) (.p (.lenr (.tmp 5)))
          (.op (some 7) (.p (.bin .lss (.tmp 4) (.tmp 6)))
          (.ite (.tmp 7)
            .done
            (.exit 0)))))))
        (.sq 4
          (.block 1
            (.sq 4
              (.hook 4 (.op (some 10) (.p (.mv (.tmp 0)))
              (.op (some 11) (.p (.mv (.tmp 3)))
              (.op (some 12) (.p (.iad 1 (.tmp 10) (.tmp 11)))
              (.op (some 13) (.r (.ld false 1 (.tmp 12)))
              (.op (some 14) (.w (.call 50 [(.tmp 13)]))
              (.op (some 15) (.p (.not (.tmp 14)))
              (.ite (.tmp 15)
                (.hook 5 (.op (some 2) (.p (.mv (.const (.bool false))))
                .ret))
                .done))))))))
            (.hook 6 (.op (some 16) (.p (.mv (.tmp 3)))
            (.op (some 17) (.p (.bin .gtr (.tmp 16) (.const (.int .i64 0))))
            (.op (some 18) (.p (.mv (.tmp 17)))
            (.g 18 true (some 19) (.p (.mv (.tmp 0)))
            (.g 18 true (some 20) (.p (.mv (.tmp 3)))
            (.g 18 true (some 21) (.p (.bin .sub (.tmp 20) (.const (.int .i64 1))))
            (.g 18 true (some 22) (.p (.iad 1 (.tmp 19) (.tmp 21)))
            (.g 18 true (some 23) (.r (.ld false 1 (.tmp 22)))
            (.g 18 true (some 24) (.p (.mv (.tmp 0)))
            (.g 18 true (some 25) (.p (.mv (.tmp 3)))
            (.g 18 true (some 26) (.p (.iad 1 (.tmp 24) (.tmp 25)))
            (.g 18 true (some 27) (.r (.ld false 1 (.tmp 26)))
            (.g 18 true (some 28) (.p (.bin .geq (.tmp 23) (.tmp 27)))
            (.op (some 29) (.p (.pick (.tmp 18) (.tmp 28) (.const (.bool false))))
            (.ite (.tmp 29)
              (.hook 7 (.op (some 2) (.p (.mv (.const (.bool false))))
              .ret))
              .done))))))))))))))))))
        (.hook 3 (.op (some 8) (.p (.mv (.tmp 3)))
        (.op (some 9) (.p (.bin .add (.tmp 8) (.const (.int .i64 1))))
        (.op (some 3) (.p (.mv (.tmp 9)))
        .done))))))))))
  (.hook 8 (.op (some 2) (.p (.mv (.const (.bool true))))
  .ret)))))
theorem k51 : compF Tryz.prog 51 = some (c51, [(.t 2)], 30) := by kernel_rfl
/- "hallmark/hallmarkref03.Formed" -/
def c18 : S :=
  (.hook 0 (.op (some 1) (.w (.box true 5 (.tmp 0)))
  (.op (some 2) (.p (.mv (.const (.bool false))))
  (.sq 1
    (.hook 1 (.op (some 3) (.p (.fad (.tmp 1) 0))
    (.op (some 4) (.r (.ld false 1 (.tmp 3)))
    (.op (some 5) (.p (.bin .lss (.tmp 4) (.const (.int .i64 0))))
    (.op (some 6) (.p (.mv (.tmp 5)))
    (.g 6 false (some 7) (.p (.fad (.tmp 1) 0))
    (.g 6 false (some 8) (.r (.ld false 1 (.tmp 7)))
    (.g 6 false (some 9) (.p (.bin .gtr (.tmp 8) (.const (.int .i64 6))))
    (.op (some 10) (.p (.pick (.tmp 6) (.const (.bool true)) (.tmp 9)))
    (.ite (.tmp 10)
      (.hook 2 (.op (some 2) (.p (.mv (.const (.bool false))))
      .ret))
      .done))))))))))
  (.sq 3
    (.hook 3 (.op (some 11) (.p (.fad (.tmp 1) 0))
    (.op (some 12) (.r (.ld false 1 (.tmp 11)))
    (.op (some 13) (.p (.bin .eql (.tmp 12) (.const (.int .i64 3))))
    (.op (some 14) (.p (.mv (.tmp 13)))
    (.g 14 true (some 15) (.p (.fad (.tmp 1) 1))
    (.g 14 true (some 16) (.r (.ld false 1 (.tmp 15)))
    (.g 14 true (some 17) (.w (.call 49 [(.tmp 16)]))
    (.g 14 true (some 18) (.p (.not (.tmp 17)))
    (.op (some 19) (.p (.pick (.tmp 14) (.tmp 18) (.const (.bool false))))
    (.op (some 20) (.p (.mv (.tmp 19)))
    (.g 20 false (some 21) (.p (.fad (.tmp 1) 0))
    (.g 20 false (some 22) (.r (.ld false 1 (.tmp 21)))
    (.g 20 false (some 23) (.p (.bin .neq (.tmp 22) (.const (.int .i64 3))))
    (.g 20 false (some 24) (.p (.mv (.tmp 23)))
    (.g 24 true (some 25) (.p (.fad (.tmp 1) 1))
    (.g 24 true (some 26) (.r (.ld false 1 (.tmp 25)))
    (.g 24 true (some 27) (.p (.bin .neq (.tmp 26) (.const (.string ⟨#[]⟩))))
    (.g 20 false (some 28) (.p (.pick (.tmp 24) (.tmp 27) (.const (.bool false))))
    (.op (some 29) (.p (.pick (.tmp 20) (.const (.bool true)) (.tmp 28)))
    (.ite (.tmp 29)
      (.hook 4 (.op (some 2) (.p (.mv (.const (.bool false))))
      .ret))
      .done)))))))))))))))))))))
  (.sq 5
    (.hook 5 (.op (some 30) (.p (.fad (.tmp 1) 0))
    (.op (some 31) (.r (.ld false 1 (.tmp 30)))
    (.op (some 32) (.p (.bin .eql (.tmp 31) (.const (.int .i64 4))))
    (.op (some 33) (.p (.mv (.tmp 32)))
    (.g 33 true (some 34) (.p (.fad (.tmp 1) 2))
    (.g 33 true (some 35) (.r (.ld false 1 (.tmp 34)))
    (.g 33 true (some 36) (.w (.call 50 [(.tmp 35)]))
    (.g 33 true (some 37) (.p (.not (.tmp 36)))
    (.op (some 38) (.p (.pick (.tmp 33) (.tmp 37) (.const (.bool false))))
    (.op (some 39) (.p (.mv (.tmp 38)))
    (.g 39 false (some 40) (.p (.fad (.tmp 1) 0))
    (.g 39 false (some 41) (.r (.ld false 1 (.tmp 40)))
    (.g 39 false (some 42) (.p (.bin .neq (.tmp 41) (.const (.int .i64 4))))
    (.g 39 false (some 43) (.p (.mv (.tmp 42)))
    (.g 43 true (some 44) (.p (.fad (.tmp 1) 2))
    (.g 43 true (some 45) (.r (.ld false 1 (.tmp 44)))
    (.g 43 true (some 46) (.p (.bin .neq (.tmp 45) (.const (.string ⟨#[]⟩))))
    (.g 39 false (some 47) (.p (.pick (.tmp 43) (.tmp 46) (.const (.bool false))))
    (.op (some 48) (.p (.pick (.tmp 39) (.const (.bool true)) (.tmp 47)))
    (.ite (.tmp 48)
      (.hook 6 (.op (some 2) (.p (.mv (.const (.bool false))))
      .ret))
      .done)))))))))))))))))))))
  (.sq 7
    (.hook 7 (.op (some 49) (.p (.fad (.tmp 1) 0))
    (.op (some 50) (.r (.ld false 1 (.tmp 49)))
    (.op (some 51) (.p (.bin .lss (.tmp 50) (.const (.int .i64 5))))
    (.op (some 52) (.p (.mv (.tmp 51)))
    (.g 52 true (some 53) (.p (.fad (.tmp 1) 3))
    (.g 52 true (some 54) (.r (.ld false 1 (.tmp 53)))
    (.g 52 true (some 55) (.p (.lenr (.tmp 54)))
    (.g 52 true (some 56) (.p (.bin .gtr (.tmp 55) (.const (.int .i64 0))))
    (.op (some 57) (.p (.pick (.tmp 52) (.tmp 56) (.const (.bool false))))
    (.op (some 58) (.p (.mv (.tmp 57)))
    (.g 58 false (some 59) (.p (.fad (.tmp 1) 0))
    (.g 58 false (some 60) (.r (.ld false 1 (.tmp 59)))
    (.g 58 false (some 61) (.p (.bin .lss (.tmp 60) (.const (.int .i64 6))))
    (.g 58 false (some 62) (.p (.mv (.tmp 61)))
    (.g 62 true (some 63) (.p (.fad (.tmp 1) 4))
    (.g 62 true (some 64) (.r (.ld false 1 (.tmp 63)))
    (.g 62 true (some 65) (.p (.lenr (.tmp 64)))
    (.g 62 true (some 66) (.p (.bin .gtr (.tmp 65) (.const (.int .i64 0))))
    (.g 58 false (some 67) (.p (.pick (.tmp 62) (.tmp 66) (.const (.bool false))))
    (.op (some 68) (.p (.pick (.tmp 58) (.const (.bool true)) (.tmp 67)))
    (.ite (.tmp 68)
      (.hook 8 (.op (some 2) (.p (.mv (.const (.bool false))))
      .ret))
      .done))))))))))))))))))))))
  (.sq 9
    (.hook 9 (.op (some 69) (.p (.fad (.tmp 1) 0))
    (.op (some 70) (.r (.ld false 1 (.tmp 69)))
    (.op (some 71) (.p (.bin .eql (.tmp 70) (.const (.int .i64 6))))
    (.op (some 72) (.p (.mv (.tmp 71)))
    (.g 72 true (some 73) (.p (.fad (.tmp 1) 4))
    (.g 72 true (some 74) (.r (.ld false 1 (.tmp 73)))
    (.g 72 true (some 75) (.p (.lenr (.tmp 74)))
    (.g 72 true (some 76) (.p (.fad (.tmp 1) 3))
    (.g 72 true (some 77) (.r (.ld false 1 (.tmp 76)))
    (.g 72 true (some 78) (.p (.lenr (.tmp 77)))
    (.g 72 true (some 79) (.p (.bin .neq (.tmp 75) (.tmp 78)))
    (.g 72 true (some 80) (.p (.mv (.tmp 79)))
    (.g 80 false (some 81) (.p (.fad (.tmp 1) 4))
    (.g 80 false (some 82) (.r (.ld false 1 (.tmp 81)))
    (.g 80 false (some 83) (.w (.call 51 [(.tmp 82)]))
    (.g 80 false (some 84) (.p (.not (.tmp 83)))
    (.g 72 true (some 85) (.p (.pick (.tmp 80) (.const (.bool true)) (.tmp 84)))
    (.op (some 86) (.p (.pick (.tmp 72) (.tmp 85) (.const (.bool false))))
    (.ite (.tmp 86)
      (.hook 10 (.op (some 2) (.p (.mv (.const (.bool false))))
      .ret))
      .done))))))))))))))))))))
  (.hook 11 (.op (some 87) (.p (.fad (.tmp 1) 3))
  (.op (some 88) (.r (.ld false 1 (.tmp 87)))
  (.op (some 89) (.w (.call 48 [(.tmp 88)]))
  (.op (some 2) (.p (.mv (.tmp 89)))
  .ret)))))))))))))
theorem k18 : compF Tryz.prog 18 = some (c18, [(.t 2)], 90) := by kernel_rfl
/- "hallmark/hallmarkref03.All" -/
def c48 : S :=
  (.hook 0 (.op (some 2) (.p (.mv (.const (.bool false))))
  (.sq 1
    (.hook 1 (.op (some 3) (.p (.mv (.const (.int .i64 0))))
    (.block 0
      (.loop
        (.sq 2
          (.hook 2 (.op (some 4) (.p (.mv (.tmp 3)))
          (.op (some 5) (.p (.mv (.tmp 0)))
          (.op (some 6) (.p (.lenr (.tmp 5)))
          (.op (some 7) (.p (.bin .lss (.tmp 4) (.tmp 6)))
          (.ite (.tmp 7)
            .done
            (.exit 0)))))))
        (.sq 4
          (.block 1
            (.hook 4 (.op (some 10) (.p (.mv (.tmp 0)))
            (.op (some 11) (.p (.mv (.tmp 3)))
            (.op (some 12) (.p (.iad 5 (.tmp 10) (.tmp 11)))
            (.op (some 13) (.r (.ld true 5 (.tmp 12)))
            (.op (some 14) (.w (.call 18 [(.tmp 13)]))
            (.op (some 15) (.p (.not (.tmp 14)))
            (.ite (.tmp 15)
              (.hook 5 (.op (some 2) (.p (.mv (.const (.bool false))))
              .ret))
              .done)))))))))
        (.hook 3 (.op (some 8) (.p (.mv (.tmp 3)))
        (.op (some 9) (.p (.bin .add (.tmp 8) (.const (.int .i64 1))))
        (.op (some 3) (.p (.mv (.tmp 9)))
        .done))))))))))
  (.hook 6 (.op (some 2) (.p (.mv (.const (.bool true))))
  .ret)))))
theorem k48 : compF Tryz.prog 48 = some (c48, [(.t 2)], 16) := by kernel_rfl
/- "hallmark/hallmarkkit.PartsOf" -/
def c22 : S :=
  (.hook 0 (.op (some 2) (.w (.box true 5 (.tmp 0)))
  (.op (some 4) (.p (.mv (.const (.int .i64 0))))
  (.hook 1 (.op (some 5) (.p (.mv (.const (.int .i64 1))))
  (.sq 2
    (.hook 2 (.op (some 6) (.p (.mv (.const (.int .i64 0))))
    (.block 0
      (.loop
        (.sq 3
          (.hook 3 (.op (some 7) (.p (.mv (.tmp 6)))
          (.op (some 8) (.p (.fad (.tmp 2) 3))
          (.op (some 9) (.r (.ld false 1 (.tmp 8)))
          (.op (some 10) (.p (.lenr (.tmp 9)))
          (.op (some 11) (.p (.bin .lss (.tmp 7) (.tmp 10)))
          (.op (some 12) (.p (.mv (.tmp 11)))
          (.g 12 true (some 13) (.p (.mv (.tmp 5)))
          (.g 12 true (some 14) (.p (.mv (.tmp 1)))
          (.g 12 true (some 15) (.p (.bin .leq (.tmp 13) (.tmp 14)))
          (.op (some 16) (.p (.pick (.tmp 12) (.tmp 15) (.const (.bool false))))
          (.ite (.tmp 16)
            .done
            (.exit 0)))))))))))))
        (.sq 5
          (.block 1
            (.hook 5 (.op (some 19) (.p (.mv (.tmp 5)))
            (.op (some 20) (.p (.fad (.tmp 2) 3))
            (.op (some 21) (.r (.ld false 1 (.tmp 20)))
            (.op (some 22) (.p (.mv (.tmp 6)))
            (.op (some 23) (.p (.iad 5 (.tmp 21) (.tmp 22)))
            (.op (some 24) (.r (.ld true 5 (.tmp 23)))
            (.op (some 25) (.p (.mv (.tmp 1)))
            (.op (some 26) (.p (.mv (.tmp 5)))
            (.op (some 27) (.p (.bin .sub (.tmp 25) (.tmp 26)))
            (.op (some 28) (.w (.call 22 [(.tmp 24), (.tmp 27)]))
            (.op (some 29) (.p (.bin .add (.tmp 19) (.tmp 28)))
            (.op (some 5) (.p (.mv (.tmp 29)))
            .done))))))))))))))
        (.hook 4 (.op (some 17) (.p (.mv (.tmp 6)))
        (.op (some 18) (.p (.bin .add (.tmp 17) (.const (.int .i64 1))))
        (.op (some 6) (.p (.mv (.tmp 18)))
        .done))))))))))
  (.hook 6 (.op (some 30) (.p (.mv (.tmp 5)))
  (.op (some 31) (.p (.fad (.tmp 2) 4))
  (.op (some 32) (.r (.ld false 1 (.tmp 31)))
  (.op (some 33) (.p (.lenr (.tmp 32)))
  (.op (some 34) (.p (.bin .add (.tmp 30) (.tmp 33)))
  (.op (some 4) (.p (.mv (.tmp 34)))
  .ret)))))))))))))
theorem k22 : compF Tryz.prog 22 = some (c22, [(.t 4)], 35) := by kernel_rfl
/- "hallmark/hallmarkkit.Fit" -/
def c6 : S :=
  (.hook 0 (.op (some 2) (.p (.mv (.const (.bool false))))
  (.hook 1 (.op (some 3) (.p (.mv (.const (.int .i64 0))))
  (.sq 2
    (.hook 2 (.op (some 4) (.p (.mv (.const (.int .i64 0))))
    (.block 0
      (.loop
        (.sq 3
          (.hook 3 (.op (some 5) (.p (.mv (.tmp 4)))
          (.op (some 6) (.p (.mv (.tmp 0)))
          (.op (some 7) (.p (.lenr (.tmp 6)))
          (.op (some 8) (.p (.bin .lss (.tmp 5) (.tmp 7)))
          (.ite (.tmp 8)
            .done
            (.exit 0)))))))
        (.sq 5
          (.block 1
            (.hook 5 (.op (some 11) (.p (.mv (.tmp 3)))
            (.op (some 12) (.p (.mv (.tmp 0)))
            (.op (some 13) (.p (.mv (.tmp 4)))
            (.op (some 14) (.p (.iad 5 (.tmp 12) (.tmp 13)))
            (.op (some 15) (.r (.ld true 5 (.tmp 14)))
            (.op (some 16) (.p (.mv (.tmp 3)))
            (.op (some 17) (.p (.bin .sub (.const (.int .i64 20000)) (.tmp 16)))
            (.op (some 18) (.w (.call 22 [(.tmp 15), (.tmp 17)]))
            (.op (some 19) (.p (.bin .add (.tmp 11) (.tmp 18)))
            (.op (some 3) (.p (.mv (.tmp 19)))
            (.hook 6 (.op (some 20) (.p (.mv (.tmp 3)))
            (.op (some 21) (.p (.bin .gtr (.tmp 20) (.const (.int .i64 20000))))
            (.ite (.tmp 21)
              (.hook 7 (.op (some 2) (.p (.mv (.const (.bool false))))
              .ret))
              .done))))))))))))))))
        (.hook 4 (.op (some 9) (.p (.mv (.tmp 4)))
        (.op (some 10) (.p (.bin .add (.tmp 9) (.const (.int .i64 1))))
        (.op (some 4) (.p (.mv (.tmp 10)))
        .done))))))))))
  (.hook 8 (.op (some 2) (.p (.mv (.const (.bool true))))
  .ret)))))))
theorem k6 : compF Tryz.prog 6 = some (c6, [(.t 2)], 22) := by kernel_rfl
/- "hallmark/hallmarklaw06.small" -/
def c17 : S :=
  (.hook 0 (.op (some 1) (.w (.box true 5 (.tmp 0)))
  (.op (some 2) (.p (.mv (.const (.bool false))))
  (.hook 1 (.op (some 3) (.r (.ld true 5 (.tmp 1)))
  (.op (some 4) (.l 5 1 [(.int .i64 0), (.string ⟨#[]⟩), (.string ⟨#[]⟩), (.slice none 0 0), (.slice none 0 0)] [(0, (5, (true, (.tmp 3))))])
  (.op (some 5) (.w (.call 6 [(.tmp 4)]))
  (.op (some 2) (.p (.mv (.tmp 5)))
  .ret))))))))
theorem k17 : compF Tryz.prog 17 = some (c17, [(.t 2)], 6) := by kernel_rfl
theorem rrise_calls (ks : List (List UInt8)) (h : Hp) (hk : keysB ks < 2 ^ 40) : VCalls Tryz.prog 51 [.row 1 (ks.map keyC)] h (fun r h' => r = vbool (rise ks) ∧ h' = h) := by
  have hkl := keysB_len ks
  refine xc k51 rfl ?_
  refine run ?_
  refine lp (fun i : Nat => [(0, .row 1 (ks.map keyC)), (3, int i)]) (fun _ => h) (fun i => i ≤ ks.length ∧ Rise ks i) (fun i => ks.length - i) (wkx 0 ⟨by omega, .zero ks⟩ fits rfl) ?_
  rintro i ⟨hi, hr⟩
  refine run ?_
  refine br_d (fun hb => ?_) (fun hb => ?_)
  · have hm : ks.getD i [] ∈ ks := by simp [List.getD, show i < ks.length by omega]
    have hml := keysB_mem hm
    refine run ?_
    refine at_key (by omega) ?_
    refine run ?_
    refine VCalls.use (utf_calls _ h (by omega)) ?_
    rintro _ _ ⟨rfl, rfl⟩
    refine run ?_
    cases hv : validD (ks.getD i []) with
    | false =>
      refine run ?_
      refine retv ⟨?_, rfl⟩
      rw [rise_not (m := i) (by omega) (by intro h; rw [hv] at h; cases h)]; rfl
    | true =>
      refine run ?_
      refine br_d (fun h0 => ?_) (fun h0 => ?_)
      · have e : ((i : Int) - 1).toNat = i - 1 := by omega
        refine run ?_
        rw [e]
        refine at_key (by omega) ?_
        refine run ?_
        refine at_key (by omega) ?_
        refine run ?_
        cases hb2 : Op.bytesLess (ks.getD (i - 1) []) (ks.getD i []) with
        | false =>
          refine run ?_
          refine retv ⟨?_, rfl⟩
          rw [rise_not (m := i) (by omega) (fun _ => ⟨by omega, hb2⟩)]; rfl
        | true =>
          refine run ?_
          exact wkx (i + 1) ⟨⟨by omega, hr.succ hv fun _ => hb2⟩, by omega⟩ fits rfl
      · refine run ?_
        exact wkx (i + 1) ⟨⟨by omega, hr.succ hv fun _ => by omega⟩, by omega⟩ fits rfl
  · obtain rfl : i = ks.length := by omega
    refine run ?_
    refine retv ⟨?_, rfl⟩
    rw [rise, decide_eq_true hr]; rfl
def RfIH (n : Nat) : Prop := ∀ v : JV, v.bk < n → v.bk < 2 ^ 40 → ∀ h : Hp, VCalls Tryz.prog 18 [.agg v.c5] h (fun r h' => r = vbool (fmd v) ∧ h' = h)
theorem rall_ih {n : Nat} (IH : RfIH n) (l : List JV) (hl : bkL l < n) (hb : bkL l < 2 ^ 40) (h : Hp) :
    VCalls Tryz.prog 48 [.row 5 (l.map JV.cells)] h (fun r h' => r = vbool (fmdL l) ∧ h' = h) := by
  have hll := bkL_len l
  refine xc k48 rfl ?_
  refine run ?_
  refine lp (fun i : Nat => [(0, .row 5 (l.map JV.cells)), (3, int i)]) (fun _ => h) (fun i => i ≤ l.length ∧ ∀ j (hj : j < i) (hjl : j < l.length), fmd l[j] = true) (fun i => l.length - i) (wkx 0 ⟨by omega, fun j hj => by omega⟩ fits rfl) ?_
  rintro i ⟨hi, hr⟩
  refine run ?_
  refine br_d (fun hlt => ?_) (fun hlt => ?_)
  · have hil : i < l.length := by omega
    have hml := bk_mem (List.getElem_mem hil)
    refine run ?_
    refine at_jv hil ?_
    refine run ?_
    refine VCalls.use (IH l[i] (by omega) (by omega) _) ?_
    rintro _ _ ⟨rfl, rfl⟩
    refine run ?_
    cases hf : fmd l[i] with
    | false =>
      refine run ?_
      refine retv ⟨?_, rfl⟩
      rw [fmdL_not hil hf]; rfl
    | true =>
      refine run ?_
      refine wkx (i + 1) ⟨⟨by omega, fun j hj hjl => ?_⟩, by omega⟩ fits rfl
      by_cases hji : j = i
      · subst hji; exact hf
      · exact hr j (by omega) hjl
  · refine run ?_
    refine retv ⟨?_, rfl⟩
    rw [fmdL_yes fun j hj => hr j (by omega) hj]; rfl
theorem rformed_ih {n : Nat} (IH : RfIH n) (v : JV) (hv : v.bk < n + 1) (hb : v.bk < 2 ^ 40) (h : Hp) : VCalls Tryz.prog 18 [.agg v.c5] h (fun r h' => r = vbool (fmd v) ∧ h' = h) := by
  have he := bk_eq v
  have hl := keysB_len v.keys
  refine xc k18 rfl ?_
  refine run ?_
  repeat' (first | (refine br_d (fun _ => ?_) (fun _ => ?_) <;> refine run ?_) | (refine br_nd (fun _ => ?_) (fun _ => ?_) <;> refine run ?_) | (refine Br.mk (fun _ => ?_) (fun _ => ?_) <;> refine run ?_) | (refine new_k fun _ => ?_; refine run ?_) | (refine VCalls.use (number_calls _ _ (by omega)) ?_; rintro _ _ ⟨rfl, rfl⟩; refine run ?_) | (refine VCalls.use (utf_calls _ _ (by omega)) ?_; rintro _ _ ⟨rfl, rfl⟩; refine run ?_) | (refine VCalls.use (rrise_calls _ _ (by omega)) ?_; rintro _ _ ⟨rfl, rfl⟩; refine run ?_) | (refine VCalls.use (rall_ih IH _ (by omega) (by omega) _) ?_; rintro _ _ ⟨rfl, rfl⟩; refine run ?_))
  all_goals (refine ret1 (retv ⟨?_, rfl⟩); (try (simp_all [tupV, fmd_eq, emp, fmdL, rise])) <;> (try omega) <;> (try grind))
theorem rfIH : ∀ n, RfIH n
  | 0 => fun v hv => by omega
  | n + 1 => fun v hv hb h => rformed_ih (rfIH n) v hv hb h
theorem rformed_calls (v : JV) (hb : v.bk < 2 ^ 40) (h : Hp) : VCalls Tryz.prog 18 [.agg v.c5] h (fun r h' => r = vbool (fmd v) ∧ h' = h) := rfIH (v.bk + 1) v (by omega) hb h
theorem rall_calls (l : List JV) (hb : bkL l < 2 ^ 40) (h : Hp) : VCalls Tryz.prog 48 [.row 5 (l.map JV.cells)] h (fun r h' => r = vbool (fmdL l) ∧ h' = h) := rall_ih (rfIH (bkL l + 1)) l (by omega) hb h
theorem bkL_take (l : List JV) (i : Nat) (hi : i < l.length) : bkL (l.take (i + 1)) = bkL (l.take i) + (l[i]).bk := by
  have key : ∀ (a : List JV) (x : JV), bkL (a ++ [x]) = bkL a + x.bk := by
    intro a x
    induction a with
    | nil => simp [bkL]
    | cons y r ih => simp [bkL, ih]; omega
  rw [List.take_succ_eq_append_getElem hi, key]
theorem bkL_take_le (l : List JV) (i : Nat) : bkL (l.take i) ≤ bkL l := by
  induction l generalizing i with
  | nil => simp
  | cons y r ih => cases i with
    | zero => simp [bkL]
    | succ i => have := ih i; simp [bkL]; omega
def PoIH (n : Nat) : Prop := ∀ v : JV, v.bk < n → v.bk < 2 ^ 40 → ∀ (m : Int) (h : Hp), -2 ^ 62 ≤ m → m ≤ 2 ^ 62 → VCalls Tryz.prog 22 [.agg v.c5, int m] h (fun r h' => (∃ c : Nat, r = int c ∧ c ≤ v.bk) ∧ h' = h)
theorem parts_ih {n : Nat} (IH : PoIH n) (v : JV) (hv : v.bk < n + 1) (hb : v.bk < 2 ^ 40) (m : Int) (h : Hp) (h1 : -2 ^ 62 ≤ m) (h2 : m ≤ 2 ^ 62) : VCalls Tryz.prog 22 [.agg v.c5, int m] h (fun r h' => (∃ c : Nat, r = int c ∧ c ≤ v.bk) ∧ h' = h) := by
  have he := bk_eq v
  have hl := keysB_len v.keys
  have hll := bkL_len v.items
  refine xc k22 rfl ?_
  refine run ?_
  refine new_k fun kb => ?_
  refine run ?_
  refine lp (fun x : Nat × Nat => [(1, int m), (2, .ptr 5 kb 0 0), (5, int x.2), (6, int x.1)]) (fun _ => (kb, .blk 5 [v.c5]) :: h) (fun x => x.1 ≤ v.items.length ∧ x.2 ≤ 1 + bkL (v.items.take x.1)) (fun x => v.items.length - x.1) (wkx (0, 1) ⟨by omega, by simp⟩ fits rfl) ?_
  rintro ⟨i, c⟩ ⟨hi, hc⟩
  dsimp only at hi hc ⊢
  have ht := bkL_take_le v.items i
  refine run ?_
  refine br_d (fun hlt => ?_) (fun hlt => ?_)
  · refine run ?_
    refine br_d (fun hm => ?_) (fun hm => ?_)
    · have hil : i < v.items.length := by omega
      have hml := bk_mem (List.getElem_mem hil)
      have htk := bkL_take v.items i hil
      refine run ?_
      refine at_jv hil ?_
      refine run ?_
      refine VCalls.use (IH (v.items[i]) (by omega) (by omega) (m - c) _ (by omega) (by omega)) ?_
      rintro _ _ ⟨⟨c2, rfl, hc2⟩, rfl⟩
      refine run ?_
      exact wkx (i + 1, c + c2) ⟨⟨by dsimp only; omega, by dsimp only; omega⟩, by dsimp only; omega⟩ fits rfl
    · refine run ?_
      exact ret1 (retv ⟨⟨c + v.keys.length, by simp [tupV], by omega⟩, rfl⟩)
  · refine run ?_
    exact ret1 (retv ⟨⟨c + v.keys.length, by simp [tupV], by omega⟩, rfl⟩)
theorem poIH : ∀ n, PoIH n
  | 0 => fun v hv => by omega
  | n + 1 => fun v hv hb m h h1 h2 => parts_ih (poIH n) v hv hb m h h1 h2
theorem fit_calls (l : List JV) (hb : bkL l < 2 ^ 40) (h : Hp) : VCalls Tryz.prog 6 [.row 5 (l.map JV.cells)] h (fun r h' => (∃ b : Bool, r = vbool b) ∧ h' = h) := by
  have hll := bkL_len l
  refine xc k6 rfl ?_
  refine run ?_
  refine lp (fun x : Nat × Nat => [(0, .row 5 (l.map JV.cells)), (3, int x.2), (4, int x.1)]) (fun _ => h) (fun x => x.1 ≤ l.length ∧ x.2 ≤ bkL (l.take x.1)) (fun x => l.length - x.1) (wkx (0, 0) ⟨by omega, by simp⟩ fits rfl) ?_
  rintro ⟨i, c⟩ ⟨hi, hc⟩
  dsimp only at hi hc ⊢
  have ht := bkL_take_le l i
  refine run ?_
  refine br_d (fun hlt => ?_) (fun hlt => ?_)
  · have hil : i < l.length := by omega
    have hml := bk_mem (List.getElem_mem hil)
    have htk := bkL_take l i hil
    refine run ?_
    refine at_jv hil ?_
    refine run ?_
    refine VCalls.use (poIH ((l[i]).bk + 1) (l[i]) (by omega) (by omega) (20000 - c) _ (by omega) (by omega)) ?_
    rintro _ _ ⟨⟨c2, rfl, hc2⟩, rfl⟩
    refine run ?_
    refine br_d (fun hgt => ?_) (fun hgt => ?_)
    · refine run ?_
      exact retv ⟨⟨_, rfl⟩, rfl⟩
    · refine run ?_
      exact wkx (i + 1, c + c2) ⟨⟨by dsimp only; omega, by dsimp only; omega⟩, by dsimp only; omega⟩ fits rfl
  · refine run ?_
    exact retv ⟨⟨_, rfl⟩, rfl⟩
theorem small_calls (v : JV) (hb : v.bk < 2 ^ 40) (h : Hp) : VCalls Tryz.prog 17 [.agg v.c5] h (fun r h' => (∃ b : Bool, r = vbool b) ∧ h' = h) := by
  refine xc k17 rfl ?_
  refine run ?_
  refine new_k fun kb => ?_
  refine run ?_
  have hf := fit_calls [v] (by simpa [bkL] using hb)
  simp only [List.map_cons, List.map_nil, JV.cells_c5] at hf
  refine VCalls.use (hf _) ?_
  rintro _ _ ⟨⟨b, rfl⟩, rfl⟩
  refine run ?_
  exact ret1 (retv ⟨⟨_, rfl⟩, rfl⟩)
end Go.Proofs.YtpiicncihccheaaGreatDoor
