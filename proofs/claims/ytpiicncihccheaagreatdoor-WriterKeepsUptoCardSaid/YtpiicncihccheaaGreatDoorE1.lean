/- Walks of the package value: which values are well shaped. -/
import Derived.Test.YtpiicncihccheaaGreatDoorJ1
import Derived.Test.YtpiicncihccheaaGreatDoorSH
import Derived.Test.YtpiicncihccheaaGreatDoorE0
namespace Go.Proofs.YtpiicncihccheaaGreatDoor
open Go.XW Go.XW.DU Go.Lib Go.XW.U
/- "hallmark/value.empty" -/
def c57 : S :=
  (.hook 0 (.op (some 5) (.w (.box true 5 (.tmp 0)))
  (.op (some 10) (.p (.mv (.const (.bool false))))
  (.hook 1 (.op (some 11) (.p (.mv (.tmp 1)))
  (.op (some 12) (.p (.mv (.tmp 11)))
  (.g 12 false (some 13) (.p (.fad (.tmp 5) 1))
  (.g 12 false (some 14) (.r (.ld false 1 (.tmp 13)))
  (.g 12 false (some 15) (.p (.bin .eql (.tmp 14) (.const (.string ⟨#[]⟩))))
  (.op (some 16) (.p (.pick (.tmp 12) (.const (.bool true)) (.tmp 15)))
  (.op (some 17) (.p (.mv (.tmp 16)))
  (.g 17 true (some 18) (.p (.mv (.tmp 2)))
  (.g 17 true (some 19) (.p (.mv (.tmp 18)))
  (.g 19 false (some 20) (.p (.fad (.tmp 5) 2))
  (.g 19 false (some 21) (.r (.ld false 1 (.tmp 20)))
  (.g 19 false (some 22) (.p (.bin .eql (.tmp 21) (.const (.string ⟨#[]⟩))))
  (.g 17 true (some 23) (.p (.pick (.tmp 19) (.const (.bool true)) (.tmp 22)))
  (.op (some 24) (.p (.pick (.tmp 17) (.tmp 23) (.const (.bool false))))
  (.op (some 25) (.p (.mv (.tmp 24)))
  (.g 25 true (some 26) (.p (.mv (.tmp 3)))
  (.g 25 true (some 27) (.p (.mv (.tmp 26)))
  (.g 27 false (some 28) (.p (.fad (.tmp 5) 3))
  (.g 27 false (some 29) (.r (.ld false 1 (.tmp 28)))
  (.g 27 false (some 30) (.p (.lenr (.tmp 29)))
  (.g 27 false (some 31) (.p (.bin .eql (.tmp 30) (.const (.int .i64 0))))
  (.g 25 true (some 32) (.p (.pick (.tmp 27) (.const (.bool true)) (.tmp 31)))
  (.op (some 33) (.p (.pick (.tmp 25) (.tmp 32) (.const (.bool false))))
  (.op (some 34) (.p (.mv (.tmp 33)))
  (.g 34 true (some 35) (.p (.mv (.tmp 4)))
  (.g 34 true (some 36) (.p (.mv (.tmp 35)))
  (.g 36 false (some 37) (.p (.fad (.tmp 5) 4))
  (.g 36 false (some 38) (.r (.ld false 1 (.tmp 37)))
  (.g 36 false (some 39) (.p (.lenr (.tmp 38)))
  (.g 36 false (some 40) (.p (.bin .eql (.tmp 39) (.const (.int .i64 0))))
  (.g 34 true (some 41) (.p (.pick (.tmp 36) (.const (.bool true)) (.tmp 40)))
  (.op (some 42) (.p (.pick (.tmp 34) (.tmp 41) (.const (.bool false))))
  (.op (some 10) (.p (.mv (.tmp 42)))
  .ret)))))))))))))))))))))))))))))))))))))
theorem k57 : compF Tryz.prog 57 = some (c57, [(.t 10)], 43) := by kernel_rfl
/- "hallmark/value.rise" -/
def c61 : S :=
  (.hook 0 (.op (some 2) (.p (.mv (.const (.bool false))))
  (.sq 1
    (.hook 1 (.op (some 5) (.p (.mv (.tmp 0)))
    (.op (some 6) (.p (.lenr (.tmp 5)))
    (.op (some 7) (.p (.mv (.const (.int .i64 0))))
    (.block 0
      (.loop
        (.hook 2 (.op (some 8) (.p (.bin .lss (.tmp 7) (.tmp 6)))
        (.sq 0
          (.ite (.tmp 8)
            .done
            (.exit 0))
        (.sq 3
          (.block 1
            (.hook 3 (.op (some 9) (.p (.mv (.tmp 7)))
            (.op (some 10) (.p (.iad 1 (.tmp 5) (.tmp 7)))
            (.op (some 11) (.r (.ld false 1 (.tmp 10)))
            (.op (some 3) (.p (.mv (.tmp 9)))
            (.op (some 4) (.p (.mv (.tmp 11)))
            (.hook 4 (.op (some 12) (.p (.mv (.tmp 4)))
            (.op (some 13) (.w (.call 59 [(.tmp 12)]))
            (.op (some 14) (.p (.not (.tmp 13)))
            (.op (some 15) (.p (.mv (.tmp 14)))
            (.g 15 false (some 16) (.p (.mv (.tmp 3)))
            (.g 15 false (some 17) (.p (.bin .gtr (.tmp 16) (.const (.int .i64 0))))
            (.g 15 false (some 18) (.p (.mv (.tmp 17)))
            (.g 18 true (some 19) (.p (.mv (.tmp 0)))
            (.g 18 true (some 20) (.p (.mv (.tmp 3)))
            (.g 18 true (some 21) (.p (.bin .sub (.tmp 20) (.const (.int .i64 1))))
            (.g 18 true (some 22) (.p (.iad 1 (.tmp 19) (.tmp 21)))
            (.g 18 true (some 23) (.r (.ld false 1 (.tmp 22)))
            (.g 18 true (some 24) (.p (.mv (.tmp 4)))
            (.g 18 true (some 25) (.p (.bin .geq (.tmp 23) (.tmp 24)))
            (.g 15 false (some 26) (.p (.pick (.tmp 18) (.tmp 25) (.const (.bool false))))
            (.op (some 27) (.p (.pick (.tmp 15) (.const (.bool true)) (.tmp 26)))
            (.ite (.tmp 27)
              (.hook 5 (.op (some 2) (.p (.mv (.const (.bool false))))
              .ret))
              .done)))))))))))))))))))))))))
        (.hook 6 (.op (some 28) (.p (.bin .add (.tmp 7) (.const (.int .i64 1))))
        (.op (some 7) (.p (.mv (.tmp 28)))
        .done)))))))))))))
  (.hook 7 (.op (some 2) (.p (.mv (.const (.bool true))))
  .ret)))))
theorem k61 : compF Tryz.prog 61 = some (c61, [(.t 2)], 29) := by kernel_rfl
/- "hallmark/value.Formed" -/
def c25 : S :=
  (.hook 0 (.op (some 1) (.w (.box true 5 (.tmp 0)))
  (.op (some 2) (.p (.mv (.const (.bool false))))
  (.sq 1
    (.hook 1 (.op (some 3) (.p (.fad (.tmp 1) 0))
    (.op (some 4) (.r (.ld false 1 (.tmp 3)))
    (.block 0
      (.sq 2
        (.hook 2 (.op (some 6) (.p (.bin .eql (.tmp 4) (.const (.int .i64 0))))
        (.op (some 5) (.p (.mv (.tmp 6)))
        (.ite (.tmp 5)
          .done
          (.hook 3 (.op (some 7) (.p (.bin .eql (.tmp 4) (.const (.int .i64 1))))
          (.op (some 5) (.p (.mv (.tmp 7)))
          (.ite (.tmp 5)
            .done
            (.hook 4 (.op (some 8) (.p (.bin .eql (.tmp 4) (.const (.int .i64 2))))
            (.op (some 5) (.p (.mv (.tmp 8)))
            .done)))))))))))
      (.ite (.tmp 5)
        (.hook 5 (.op (some 9) (.r (.ld true 5 (.tmp 1)))
        (.op (some 10) (.w (.call 57 [(.tmp 9), (.const (.bool false)), (.const (.bool false)), (.const (.bool false)), (.const (.bool false))]))
        (.op (some 2) (.p (.mv (.tmp 10)))
        .ret))))
        (.hook 6 (.op (some 12) (.p (.bin .eql (.tmp 4) (.const (.int .i64 3))))
        (.op (some 11) (.p (.mv (.tmp 12)))
        (.ite (.tmp 11)
          (.hook 7 (.op (some 13) (.r (.ld true 5 (.tmp 1)))
          (.op (some 14) (.w (.call 57 [(.tmp 13), (.const (.bool true)), (.const (.bool false)), (.const (.bool false)), (.const (.bool false))]))
          (.op (some 15) (.p (.mv (.tmp 14)))
          (.g 15 true (some 16) (.p (.fad (.tmp 1) 1))
          (.g 15 true (some 17) (.r (.ld false 1 (.tmp 16)))
          (.g 15 true (some 18) (.w (.call 58 [(.tmp 17)]))
          (.op (some 19) (.p (.pick (.tmp 15) (.tmp 18) (.const (.bool false))))
          (.op (some 2) (.p (.mv (.tmp 19)))
          .ret)))))))))
          (.hook 8 (.op (some 21) (.p (.bin .eql (.tmp 4) (.const (.int .i64 4))))
          (.op (some 20) (.p (.mv (.tmp 21)))
          (.ite (.tmp 20)
            (.hook 9 (.op (some 22) (.r (.ld true 5 (.tmp 1)))
            (.op (some 23) (.w (.call 57 [(.tmp 22), (.const (.bool false)), (.const (.bool true)), (.const (.bool false)), (.const (.bool false))]))
            (.op (some 24) (.p (.mv (.tmp 23)))
            (.g 24 true (some 25) (.p (.fad (.tmp 1) 2))
            (.g 24 true (some 26) (.r (.ld false 1 (.tmp 25)))
            (.g 24 true (some 27) (.w (.call 59 [(.tmp 26)]))
            (.op (some 28) (.p (.pick (.tmp 24) (.tmp 27) (.const (.bool false))))
            (.op (some 2) (.p (.mv (.tmp 28)))
            .ret)))))))))
            (.hook 10 (.op (some 30) (.p (.bin .eql (.tmp 4) (.const (.int .i64 5))))
            (.op (some 29) (.p (.mv (.tmp 30)))
            (.ite (.tmp 29)
              (.hook 11 (.op (some 31) (.r (.ld true 5 (.tmp 1)))
              (.op (some 32) (.w (.call 57 [(.tmp 31), (.const (.bool false)), (.const (.bool false)), (.const (.bool true)), (.const (.bool false))]))
              (.op (some 33) (.p (.mv (.tmp 32)))
              (.g 33 true (some 34) (.p (.fad (.tmp 1) 3))
              (.g 33 true (some 35) (.r (.ld false 1 (.tmp 34)))
              (.g 33 true (some 36) (.w (.call 60 [(.tmp 35)]))
              (.op (some 37) (.p (.pick (.tmp 33) (.tmp 36) (.const (.bool false))))
              (.op (some 2) (.p (.mv (.tmp 37)))
              .ret)))))))))
              (.hook 12 (.op (some 39) (.p (.bin .eql (.tmp 4) (.const (.int .i64 6))))
              (.op (some 38) (.p (.mv (.tmp 39)))
              (.ite (.tmp 38)
                (.hook 13 (.op (some 40) (.r (.ld true 5 (.tmp 1)))
                (.op (some 41) (.w (.call 57 [(.tmp 40), (.const (.bool false)), (.const (.bool false)), (.const (.bool true)), (.const (.bool true))]))
                (.op (some 42) (.p (.mv (.tmp 41)))
                (.g 42 true (some 43) (.p (.fad (.tmp 1) 3))
                (.g 42 true (some 44) (.r (.ld false 1 (.tmp 43)))
                (.g 42 true (some 45) (.p (.lenr (.tmp 44)))
                (.g 42 true (some 46) (.p (.fad (.tmp 1) 4))
                (.g 42 true (some 47) (.r (.ld false 1 (.tmp 46)))
                (.g 42 true (some 48) (.p (.lenr (.tmp 47)))
                (.g 42 true (some 49) (.p (.bin .eql (.tmp 45) (.tmp 48)))
                (.op (some 50) (.p (.pick (.tmp 42) (.tmp 49) (.const (.bool false))))
                (.op (some 51) (.p (.mv (.tmp 50)))
                (.g 51 true (some 52) (.p (.fad (.tmp 1) 4))
                (.g 51 true (some 53) (.r (.ld false 1 (.tmp 52)))
                (.g 51 true (some 54) (.w (.call 61 [(.tmp 53)]))
                (.op (some 55) (.p (.pick (.tmp 51) (.tmp 54) (.const (.bool false))))
                (.op (some 56) (.p (.mv (.tmp 55)))
                (.g 56 true (some 57) (.p (.fad (.tmp 1) 3))
                (.g 56 true (some 58) (.r (.ld false 1 (.tmp 57)))
                (.g 56 true (some 59) (.w (.call 60 [(.tmp 58)]))
                (.op (some 60) (.p (.pick (.tmp 56) (.tmp 59) (.const (.bool false))))
                (.op (some 2) (.p (.mv (.tmp 60)))
                .ret)))))))))))))))))))))))
                .done))))))))))))))))))))))
  (.hook 14 (.op (some 2) (.p (.mv (.const (.bool false))))
  .ret))))))
theorem k25 : compF Tryz.prog 25 = some (c25, [(.t 2)], 61) := by kernel_rfl
/- "hallmark/value.allFormed" -/
def c60 : S :=
  (.hook 0 (.op (some 2) (.p (.mv (.const (.bool false))))
  (.hook 1 (.op (some 3) (.p (.mv (.tmp 0)))
  (.op (some 4) (.w (.call 100 [(.tmp 3), (.func 101)]))
  (.op (some 5) (.p (.not (.tmp 4)))
  (.op (some 2) (.p (.mv (.tmp 5)))
  .ret)))))))
theorem k60 : compF Tryz.prog 60 = some (c60, [(.t 2)], 6) := by kernel_rfl
/- "slices.ContainsFunc[[]hallmark/api.Value,hallmark/api.Value]" -/
def c100 : S :=
  (.hook 0 (.op (some 4) (.p (.mv (.const (.bool false))))
  (.hook 1 (.op (some 5) (.p (.mv (.tmp 0)))
  (.op (some 6) (.p (.mv (.tmp 1)))
  (.op (some 7) (.w (.call 124 [(.tmp 5), (.tmp 6)]))
  (.op (some 8) (.p (.bin .geq (.tmp 7) (.const (.int .i64 0))))
  (.op (some 4) (.p (.mv (.tmp 8)))
  .ret))))))))
theorem k100 : compF Tryz.prog 100 = some (c100, [(.t 4)], 9) := by kernel_rfl
/- "slices.IndexFunc[[]hallmark/api.Value,hallmark/api.Value]" -/
def c124 : S :=
  (.hook 0 (.op (some 4) (.p (.mv (.const (.int .i64 0))))
  (.sq 1
    (.hook 1 (.op (some 6) (.p (.mv (.tmp 0)))
    (.op (some 7) (.p (.lenr (.tmp 6)))
    (.op (some 8) (.p (.mv (.const (.int .i64 0))))
    (.block 0
      (.loop
        (.hook 2 (.op (some 9) (.p (.bin .lss (.tmp 8) (.tmp 7)))
        (.sq 0
          (.ite (.tmp 9)
            .done
            (.exit 0))
        (.sq 3
          (.block 1
            (.hook 3 (.op (some 10) (.p (.mv (.tmp 8)))
            (.op (some 5) (.p (.mv (.tmp 10)))
            (.hook 4 (.op (some 11) (.p (.mv (.tmp 1)))
            (.op (some 12) (.p (.mv (.tmp 0)))
            (.op (some 13) (.p (.mv (.tmp 5)))
            (.op (some 14) (.p (.iad 5 (.tmp 12) (.tmp 13)))
            (.op (some 15) (.r (.ld true 5 (.tmp 14)))
            (.op (some 16) (.w (.callv (.tmp 11) [(.tmp 15)]))
            (.ite (.tmp 16)
              (.hook 5 (.op (some 17) (.p (.mv (.tmp 5)))
              (.op (some 4) (.p (.mv (.tmp 17)))
              .ret)))
              .done))))))))))))
        (.hook 6 (.op (some 18) (.p (.bin .add (.tmp 8) (.const (.int .i64 1))))
        (.op (some 8) (.p (.mv (.tmp 18)))
        .done)))))))))))))
  (.hook 7 (.op (some 4) (.p (.mv (.const (.int .i64 (-1)))))
  .ret)))))
theorem k124 : compF Tryz.prog 124 = some (c124, [(.t 4)], 19) := by kernel_rfl
/- "hallmark/value.allFormed$1" -/
def c101 : S :=
  (.hook 0 (.op (some 1) (.w (.box true 5 (.tmp 0)))
  (.op (some 2) (.p (.mv (.const (.bool false))))
  (.hook 1 (.op (some 3) (.r (.ld true 5 (.tmp 1)))
  (.op (some 4) (.w (.call 25 [(.tmp 3)]))
  (.op (some 5) (.p (.not (.tmp 4)))
  (.op (some 2) (.p (.mv (.tmp 5)))
  .ret))))))))
theorem k101 : compF Tryz.prog 101 = some (c101, [(.t 2)], 6) := by kernel_rfl
theorem empty_calls (b1 b2 b3 b4 : Bool) (v : JV) (h : Hp) :
    VCalls Tryz.prog 57 [.agg v.c5, vbool b1, vbool b2, vbool b3, vbool b4] h (fun r h' => r = vbool (emp b1 b2 b3 b4 v) ∧ h' = h) := by
  refine xc k57 rfl ?_
  refine run ?_
  repeat' (first | (refine br_d (fun _ => ?_) (fun _ => ?_) <;> refine run ?_) | (refine br_nd (fun _ => ?_) (fun _ => ?_) <;> refine run ?_) | (refine Br.mk (fun _ => ?_) (fun _ => ?_) <;> refine run ?_) | (refine new_k fun _ => ?_; refine run ?_))
  all_goals (refine ret1 (retv ⟨?_, rfl⟩); simp_all [tupV, emp, vbool])
theorem rise_calls (ks : List (List UInt8)) (h : Hp) (ht : Tabs h) (hk : keysB ks < 2 ^ 40) : VCalls Tryz.prog 61 [.row 1 (ks.map keyC)] h (fun r h' => r = vbool (rise ks) ∧ h' = h) := by
  have hkl := keysB_len ks
  refine xc k61 rfl ?_
  refine run ?_
  refine lp (fun i : Nat => [(0, .row 1 (ks.map keyC)), (5, .row 1 (ks.map keyC)), (6, int ks.length), (7, int i)]) (fun _ => h) (fun i => i ≤ ks.length ∧ Rise ks i) (fun i => ks.length - i) (wkx 0 ⟨by omega, .zero ks⟩ fits rfl) ?_
  rintro i ⟨hi, hr⟩
  refine run ?_
  refine br_d (fun hb => ?_) (fun hb => ?_)
  · have hm : ks.getD i [] ∈ ks := by simp [List.getD, show i < ks.length by omega]
    have hml := keysB_mem hm
    refine run ?_
    refine at_key (by omega) ?_
    refine run ?_
    refine VCalls.use (utfValid_calls _ h ht (by omega)) ?_
    rintro _ _ ⟨rfl, rfl⟩
    refine run ?_
    cases hv : validD (ks.getD i []) with
    | false =>
      refine run ?_
      refine retv ⟨?_, rfl⟩
      rw [rise_not (m := i) (by omega) (by intro h; rw [hv] at h; cases h)]; rfl
    | true =>
      refine run ?_
      refine br_d (fun h0 => ?_) (fun h0 => ?_)
      · have e : ((i : Int) - 1).toNat = i - 1 := by omega
        refine run ?_
        rw [e]
        refine at_key (by omega) ?_
        refine run ?_
        cases hb2 : Op.bytesLess (ks.getD (i - 1) []) (ks.getD i []) with
        | false =>
          refine run ?_
          refine retv ⟨?_, rfl⟩
          rw [rise_not (m := i) (by omega) (fun _ => ⟨by omega, hb2⟩)]; rfl
        | true =>
          refine run ?_
          exact wkx (i + 1) ⟨⟨by omega, hr.succ hv fun _ => hb2⟩, by omega⟩ fits rfl
      · refine run ?_
        exact wkx (i + 1) ⟨⟨by omega, hr.succ hv fun _ => by omega⟩, by omega⟩ fits rfl
  · obtain rfl : i = ks.length := by omega
    refine run ?_
    refine retv ⟨?_, rfl⟩
    rw [rise, decide_eq_true hr]; rfl
/-- That the values with fewer parts are told right. -/
def FmIH (n : Nat) : Prop := ∀ v : JV, v.bk < n → v.bk < 2 ^ 40 → ∀ h : Hp, Tabs h → VCalls Tryz.prog 25 [.agg v.c5] h (fun r h' => r = vbool (fmd v) ∧ h' = h)
theorem anot_calls {n : Nat} (IH : FmIH n) (v : JV) (hv : v.bk < n) (hb : v.bk < 2 ^ 40) (h : Hp) (ht : Tabs h) : VCalls Tryz.prog 101 [.agg v.c5] h (fun r h' => r = vbool (!fmd v) ∧ h' = h) := by
  refine xc k101 rfl ?_
  refine run ?_
  refine new_k fun k => ?_
  refine run ?_
  refine VCalls.use (IH v hv hb _ (ht.cons _)) ?_
  rintro _ _ ⟨rfl, rfl⟩
  refine run ?_
  exact ret1 (retv ⟨rfl, rfl⟩)
theorem index_calls {n : Nat} (IH : FmIH n) (l : List JV) (hl : bkL l < n) (hb : bkL l < 2 ^ 40) (h : Hp) (ht : Tabs h) :
    VCalls Tryz.prog 124 [.row 5 (l.map JV.cells), .v (.func (.func 101) #[] #[])] h (fun r h' => (∃ i : Int, r = int i ∧ decide (0 ≤ i) = !fmdL l) ∧ h' = h) := by
  have hll := bkL_len l
  refine xc k124 rfl ?_
  refine run ?_
  refine lp (fun i : Nat => [(0, .row 5 (l.map JV.cells)), (1, .v (.func (.func 101) #[] #[])), (7, int l.length), (8, int i)]) (fun _ => h) (fun i => i ≤ l.length ∧ ∀ j (hj : j < i) (hjl : j < l.length), fmd l[j] = true) (fun i => l.length - i) (wkx 0 ⟨by omega, fun j hj => by omega⟩ fits rfl) ?_
  rintro i ⟨hi, hr⟩
  refine run ?_
  refine br_d (fun hlt => ?_) (fun hlt => ?_)
  · have hil : i < l.length := by omega
    have hml := bk_mem (List.getElem_mem hil)
    refine run ?_
    refine at_jv hil ?_
    refine run ?_
    refine VCalls.use (anot_calls IH l[i] (by omega) (by omega) _ ht) ?_
    rintro _ _ ⟨rfl, rfl⟩
    refine run ?_
    cases hf : fmd l[i] with
    | false =>
      refine run ?_
      refine retv ⟨⟨i, rfl, ?_⟩, rfl⟩
      rw [fmdL_not hil hf]; simp
    | true =>
      refine run ?_
      refine wkx (i + 1) ⟨⟨by omega, fun j hj hjl => ?_⟩, by omega⟩ fits rfl
      by_cases hji : j = i
      · subst hji; exact hf
      · exact hr j (by omega) hjl
  · refine run ?_
    refine retv ⟨⟨-1, rfl, ?_⟩, rfl⟩
    rw [fmdL_yes fun j hj => hr j (by omega) hj]; rfl
theorem allFormed_ih {n : Nat} (IH : FmIH n) (l : List JV) (hl : bkL l < n) (hb : bkL l < 2 ^ 40) (h : Hp) (ht : Tabs h) :
    VCalls Tryz.prog 60 [.row 5 (l.map JV.cells)] h (fun r h' => r = vbool (fmdL l) ∧ h' = h) := by
  refine xc k60 rfl ?_
  refine run ?_
  refine VCalls.use (R := fun r h' => r = vbool (!fmdL l) ∧ h' = h) ?_ ?_
  · refine xc k100 rfl ?_
    refine run ?_
    refine VCalls.use (index_calls IH l hl hb h ht) ?_
    rintro _ _ ⟨⟨i, rfl, hi⟩, rfl⟩
    refine run ?_
    refine retv ⟨?_, rfl⟩
    rw [← hi]; rfl
  rintro _ _ ⟨rfl, rfl⟩
  refine run ?_
  refine retv ⟨?_, rfl⟩
  simp [tupV]
theorem formed_ih {n : Nat} (IH : FmIH n) (v : JV) (hv : v.bk < n + 1) (hb : v.bk < 2 ^ 40) (h : Hp) (ht : Tabs h) : VCalls Tryz.prog 25 [.agg v.c5] h (fun r h' => r = vbool (fmd v) ∧ h' = h) := by
  have he := bk_eq v
  have hl := keysB_len v.keys
  refine xc k25 rfl ?_
  refine run ?_
  repeat' (first | (refine br_d (fun _ => ?_) (fun _ => ?_) <;> refine run ?_) | (refine br_nd (fun _ => ?_) (fun _ => ?_) <;> refine run ?_) | (refine Br.mk (fun _ => ?_) (fun _ => ?_) <;> refine run ?_) | (refine new_k fun _ => ?_; refine run ?_) | (refine VCalls.use (empty_calls _ _ _ _ v _) ?_; rintro _ _ ⟨rfl, rfl⟩; refine run ?_) | (refine VCalls.use (tformed_calls _ _ (by omega)) ?_; rintro _ _ ⟨rfl, rfl⟩; refine run ?_) | (refine VCalls.use (utfValid_calls _ _ (ht.cons _) (by omega)) ?_; rintro _ _ ⟨rfl, rfl⟩; refine run ?_) | (refine VCalls.use (rise_calls _ _ (ht.cons _) (by omega)) ?_; rintro _ _ ⟨rfl, rfl⟩; refine run ?_) | (refine VCalls.use (allFormed_ih IH _ (by omega) (by omega) _ (ht.cons _)) ?_; rintro _ _ ⟨rfl, rfl⟩; refine run ?_))
  all_goals (refine ret1 (retv ⟨?_, rfl⟩); (try (simp_all [tupV, fmd_eq, emp, fmdL, rise])) <;> (try omega))
theorem fmIH : ∀ n, FmIH n
  | 0 => fun v hv => by omega
  | n + 1 => fun v hv hb h ht => formed_ih (fmIH n) v hv hb h ht
theorem vformed_calls (v : JV) (hb : v.bk < 2 ^ 40) (h : Hp) (ht : Tabs h) : VCalls Tryz.prog 25 [.agg v.c5] h (fun r h' => r = vbool (fmd v) ∧ h' = h) := fmIH (v.bk + 1) v (by omega) hb h ht
theorem allFormed_calls (l : List JV) (hb : bkL l < 2 ^ 40) (h : Hp) (ht : Tabs h) : VCalls Tryz.prog 60 [.row 5 (l.map JV.cells)] h (fun r h' => r = vbool (fmdL l) ∧ h' = h) := allFormed_ih (fmIH (bkL l + 1)) l (by omega) hb h ht
end Go.Proofs.YtpiicncihccheaaGreatDoor
