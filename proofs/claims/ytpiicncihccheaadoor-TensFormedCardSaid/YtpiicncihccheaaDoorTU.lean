/- Walks of layer 1's Of, Small, Digits. -/
import Derived.Test.YtpiicncihccheaaDoorSI
import Derived.Test.YtpiicncihccheaaDoorT4
namespace Go.Proofs.YtpiicncihccheaaDoor
open Go.XW Go.XW.DU
/- "hallmark/tens.Of" -/
def c24 : S :=
  (.hook 0 (.op (some 2) (.p (.mv (.const (.string ⟨#[]⟩))))
  (.hook 1 (.op (some 3) (.p (.mv (.tmp 0)))
  (.op (some 4) (.w (.call 43 [(.tmp 3)]))
  (.op (some 2) (.p (.mv (.tmp 4)))
  .ret))))))
theorem k24 : compF Tryd.prog 24 = some (c24, [(.t 2)], 5) := by kernel_rfl
/- "hallmark/tens.Small" -/
def c25 : S :=
  (.hook 0 (.op (some 2) (.p (.mv (.const (.int .i64 0))))
  (.op (some 3) (.p (.mv (.const (.bool false))))
  (.sq 1
    (.hook 1 (.op (some 6) (.p (.mv (.tmp 0)))
    (.op (some 7) (.w (.call 30 [(.tmp 6)]))
    (.op (some 8) (.p (.not (.tmp 7)))
    (.ite (.tmp 8)
      (.hook 2 (.op (some 2) (.p (.mv (.const (.int .i64 0))))
      (.op (some 3) (.p (.mv (.const (.bool false))))
      .ret)))
      .done)))))
  (.hook 3 (.op (some 10) (.p (.mv (.tmp 0)))
  (.op (some 11) (.w (.call 44 [(.tmp 10)]))
  (.op (some 9) (.p (.mv (.tmp 11)))
  (.op (some 12) (.p (.ext (.tmp 9) 0))
  (.op (some 13) (.p (.ext (.tmp 9) 1))
  (.op (some 4) (.p (.mv (.tmp 12)))
  (.op (some 5) (.p (.mv (.tmp 13)))
  (.sq 4
    (.hook 4 (.op (some 14) (.p (.mv (.tmp 5)))
    (.op (some 15) (.p (.nilq (.interface #[("Error", 58)]) true (.tmp 14)))
    (.ite (.tmp 15)
      (.hook 5 (.op (some 2) (.p (.mv (.const (.int .i64 0))))
      (.op (some 3) (.p (.mv (.const (.bool false))))
      .ret)))
      .done))))
  (.hook 6 (.op (some 16) (.p (.mv (.tmp 4)))
  (.op (some 2) (.p (.mv (.tmp 16)))
  (.op (some 3) (.p (.mv (.const (.bool true))))
  .ret)))))))))))))))))
theorem k25 : compF Tryd.prog 25 = some (c25, [(.t 2), (.t 3)], 17) := by kernel_rfl
/- "hallmark/tens.Digits" -/
def c28 : S :=
  (.hook 0 (.op (some 2) (.p (.mv (.const (.int .i64 0))))
  (.op (some 3) (.p (.mv (.const (.int .i64 0))))
  (.sq 1
    (.hook 1 (.op (some 6) (.p (.mv (.tmp 0)))
    (.op (some 7) (.w (.call 30 [(.tmp 6)]))
    (.op (some 8) (.p (.not (.tmp 7)))
    (.ite (.tmp 8)
      (.hook 2 (.op (some 2) (.p (.mv (.const (.int .i64 0))))
      (.op (some 3) (.p (.mv (.const (.int .i64 1))))
      .ret)))
      .done)))))
  (.hook 3 (.op (some 10) (.p (.mv (.tmp 0)))
  (.op (some 11) (.w (.call 47 [(.tmp 10)]))
  (.op (some 9) (.p (.mv (.tmp 11)))
  (.op (some 12) (.p (.ext (.tmp 9) 0))
  (.op (some 13) (.p (.ext (.tmp 9) 1))
  (.op (some 4) (.p (.mv (.tmp 12)))
  (.op (some 5) (.p (.mv (.tmp 13)))
  (.hook 4 (.op (some 14) (.p (.mv (.tmp 5)))
  (.op (some 15) (.p (.lens (.tmp 14)))
  (.op (some 2) (.p (.mv (.tmp 15)))
  (.op (some 3) (.p (.mv (.const (.int .i64 0))))
  .ret)))))))))))))))))
theorem k28 : compF Tryd.prog 28 = some (c28, [(.t 2), (.t 3)], 16) := by kernel_rfl
/- "hallmark/hallmarkref01.Of" -/
def c26 : S :=
  (.hook 0 (.op (some 2) (.p (.mv (.const (.string ⟨#[]⟩))))
  (.hook 1 (.op (some 3) (.p (.mv (.tmp 0)))
  (.op (some 4) (.w (.call 43 [(.tmp 3)]))
  (.op (some 2) (.p (.mv (.tmp 4)))
  .ret))))))
theorem k26 : compF Tryd.prog 26 = some (c26, [(.t 2)], 5) := by kernel_rfl
/- "hallmark/hallmarkref01.Small" -/
def c27 : S :=
  (.hook 0 (.op (some 2) (.p (.mv (.const (.int .i64 0))))
  (.op (some 3) (.p (.mv (.const (.bool false))))
  (.sq 1
    (.hook 1 (.op (some 7) (.p (.mv (.tmp 0)))
    (.op (some 8) (.w (.call 31 [(.tmp 7)]))
    (.op (some 9) (.p (.not (.tmp 8)))
    (.op (some 10) (.p (.mv (.tmp 9)))
    (.g 10 false (some 11) (.p (.mv (.tmp 0)))
    (.g 10 false (some 12) (.p (.lens (.tmp 11)))
    (.g 10 false (some 13) (.p (.bin .gtr (.tmp 12) (.const (.int .i64 20))))
    (.op (some 14) (.p (.pick (.tmp 10) (.const (.bool true)) (.tmp 13)))
    (.op (some 15) (.p (.mv (.tmp 14)))
    (.g 15 false (some 16) (.p (.mv (.tmp 0)))
    (.g 15 false (some 17) (.w (.call 45 [(.const (.string ⟨#[57, 50, 50, 51, 51, 55, 50, 48, 51, 54, 56, 53, 52, 55, 55, 53, 56, 48, 55]⟩)), (.tmp 16)]))
    (.op (some 18) (.p (.pick (.tmp 15) (.const (.bool true)) (.tmp 17)))
    (.op (some 19) (.p (.mv (.tmp 18)))
    (.g 19 false (some 20) (.p (.mv (.tmp 0)))
    (.g 19 false (some 21) (.w (.call 45 [(.tmp 20), (.const (.string ⟨#[45, 57, 50, 50, 51, 51, 55, 50, 48, 51, 54, 56, 53, 52, 55, 55, 53, 56, 48, 56]⟩))]))
    (.op (some 22) (.p (.pick (.tmp 19) (.const (.bool true)) (.tmp 21)))
    (.ite (.tmp 22)
      (.hook 2 (.op (some 2) (.p (.mv (.const (.int .i64 0))))
      (.op (some 3) (.p (.mv (.const (.bool false))))
      .ret)))
      .done))))))))))))))))))
  (.hook 3 (.op (some 23) (.p (.mv (.tmp 0)))
  (.op (some 24) (.w (.call 46 [(.tmp 23)]))
  (.op (some 4) (.w (.alloc 2 [(.bool false), (.slice none 0 0)]))
  (.op none (.w (.st true 2 (.tmp 4) (.tmp 24)))
  (.hook 4 (.op (some 5) (.p (.mv (.const (.int .i64 0))))
  (.sq 5
    (.hook 5 (.op (some 25) (.p (.fad (.tmp 4) 1))
    (.op (some 26) (.r (.ld false 1 (.tmp 25)))
    (.op (some 27) (.p (.lenr (.tmp 26)))
    (.op (some 28) (.p (.bin .sub (.tmp 27) (.const (.int .i64 1))))
    (.op (some 6) (.p (.mv (.tmp 28)))
    (.block 0
      (.loop
        (.sq 6
          (.hook 6 (.op (some 29) (.p (.mv (.tmp 6)))
          (.op (some 30) (.p (.bin .geq (.tmp 29) (.const (.int .i64 0))))
          (.ite (.tmp 30)
            .done
            (.exit 0)))))
        (.sq 8
          (.block 1
            (.hook 8 (.op (some 33) (.p (.mv (.tmp 5)))
            (.op (some 34) (.p (.bin .mul (.const (.int .i64 10)) (.tmp 33)))
            (.op (some 35) (.p (.fad (.tmp 4) 1))
            (.op (some 36) (.r (.ld false 1 (.tmp 35)))
            (.op (some 37) (.p (.mv (.tmp 6)))
            (.op (some 38) (.p (.iad 1 (.tmp 36) (.tmp 37)))
            (.op (some 39) (.r (.ld false 1 (.tmp 38)))
            (.op (some 40) (.p (.bin .sub (.tmp 34) (.tmp 39)))
            (.op (some 5) (.p (.mv (.tmp 40)))
            .done)))))))))))
        (.hook 7 (.op (some 31) (.p (.mv (.tmp 6)))
        (.op (some 32) (.p (.bin .sub (.tmp 31) (.const (.int .i64 1))))
        (.op (some 6) (.p (.mv (.tmp 32)))
        .done))))))))))))))
  (.sq 9
    (.hook 9 (.op (some 41) (.p (.fad (.tmp 4) 0))
    (.op (some 42) (.r (.ld false 1 (.tmp 41)))
    (.op (some 43) (.p (.not (.tmp 42)))
    (.ite (.tmp 43)
      (.hook 10 (.op (some 44) (.p (.mv (.tmp 5)))
      (.op (some 45) (.p (.neg (.tmp 44)))
      (.op (some 5) (.p (.mv (.tmp 45)))
      .done))))
      .done)))))
  (.hook 11 (.op (some 46) (.p (.mv (.tmp 5)))
  (.op (some 2) (.p (.mv (.tmp 46)))
  (.op (some 3) (.p (.mv (.const (.bool true))))
  .ret)))))))))))))))))
theorem k27 : compF Tryd.prog 27 = some (c27, [(.t 2), (.t 3)], 47) := by kernel_rfl
/- "hallmark/hallmarkref01.Digits" -/
def c29 : S :=
  (.hook 0 (.op (some 2) (.p (.mv (.const (.int .i64 0))))
  (.op (some 3) (.p (.mv (.const (.int .i64 0))))
  (.sq 1
    (.hook 1 (.op (some 4) (.p (.mv (.tmp 0)))
    (.op (some 5) (.w (.call 31 [(.tmp 4)]))
    (.op (some 6) (.p (.not (.tmp 5)))
    (.ite (.tmp 6)
      (.hook 2 (.op (some 2) (.p (.mv (.const (.int .i64 0))))
      (.op (some 3) (.p (.mv (.const (.int .i64 1))))
      .ret)))
      .done)))))
  (.sq 3
    (.hook 3 (.op (some 7) (.p (.mv (.tmp 0)))
    (.op (some 8) (.p (.sidx (.tmp 7) (.const (.int .i64 0))))
    (.op (some 9) (.p (.bin .eql (.tmp 8) (.const (.int .u8 45))))
    (.ite (.tmp 9)
      (.hook 4 (.op (some 10) (.p (.mv (.tmp 0)))
      (.op (some 11) (.p (.lens (.tmp 10)))
      (.op (some 12) (.p (.bin .sub (.tmp 11) (.const (.int .i64 1))))
      (.op (some 2) (.p (.mv (.tmp 12)))
      (.op (some 3) (.p (.mv (.const (.int .i64 0))))
      .ret))))))
      .done)))))
  (.hook 5 (.op (some 13) (.p (.mv (.tmp 0)))
  (.op (some 14) (.p (.lens (.tmp 13)))
  (.op (some 2) (.p (.mv (.tmp 14)))
  (.op (some 3) (.p (.mv (.const (.int .i64 0))))
  .ret))))))))))
theorem k29 : compF Tryd.prog 29 = some (c29, [(.t 2), (.t 3)], 15) := by kernel_rfl
/- "hallmark/hallmarkref01.less" -/
def c45 : S :=
  (.hook 0 (.op (some 4) (.p (.mv (.const (.bool false))))
  (.hook 1 (.op (some 5) (.p (.mv (.tmp 0)))
  (.op (some 6) (.w (.call 46 [(.tmp 5)]))
  (.op (some 7) (.p (.mv (.tmp 1)))
  (.op (some 8) (.w (.call 46 [(.tmp 7)]))
  (.op (some 9) (.w (.call 63 [(.tmp 6), (.tmp 8)]))
  (.op (some 10) (.p (.bin .lss (.tmp 9) (.const (.int .i64 0))))
  (.op (some 4) (.p (.mv (.tmp 10)))
  .ret))))))))))
theorem k45 : compF Tryd.prog 45 = some (c45, [(.t 4)], 11) := by kernel_rfl
/- "hallmark/hallmarklaw01.TensOf" -/
def c8 : S :=
  (.hook 0 (.op (some 2) (.p (.mv (.const (.bool false))))
  (.hook 1 (.op (some 6) (.p (.mv (.tmp 0)))
  (.op (some 7) (.w (.call 24 [(.tmp 6)]))
  (.op (some 3) (.p (.mv (.tmp 7)))
  (.hook 2 (.op (some 9) (.p (.mv (.tmp 3)))
  (.op (some 10) (.w (.call 25 [(.tmp 9)]))
  (.op (some 8) (.p (.mv (.tmp 10)))
  (.op (some 11) (.p (.ext (.tmp 8) 0))
  (.op (some 12) (.p (.ext (.tmp 8) 1))
  (.op (some 4) (.p (.mv (.tmp 11)))
  (.op (some 5) (.p (.mv (.tmp 12)))
  (.hook 3 (.op (some 13) (.p (.mv (.tmp 3)))
  (.op (some 14) (.p (.mv (.tmp 0)))
  (.op (some 15) (.w (.call 26 [(.tmp 14)]))
  (.op (some 16) (.p (.bin .eql (.tmp 13) (.tmp 15)))
  (.op (some 17) (.p (.mv (.tmp 16)))
  (.g 17 true (some 18) (.p (.mv (.tmp 4)))
  (.g 17 true (some 19) (.p (.mv (.tmp 0)))
  (.g 17 true (some 20) (.p (.bin .eql (.tmp 18) (.tmp 19)))
  (.op (some 21) (.p (.pick (.tmp 17) (.tmp 20) (.const (.bool false))))
  (.op (some 22) (.p (.mv (.tmp 21)))
  (.g 22 true (some 23) (.p (.mv (.tmp 5)))
  (.op (some 24) (.p (.pick (.tmp 22) (.tmp 23) (.const (.bool false))))
  (.op (some 2) (.p (.mv (.tmp 24)))
  .ret))))))))))))))))))))))))))))
theorem k8 : compF Tryd.prog 8 = some (c8, [(.t 2)], 25) := by kernel_rfl
/- "hallmark/hallmarklaw01.TensFormed" -/
def c9 : S :=
  (.hook 0 (.op (some 2) (.p (.mv (.const (.bool false))))
  (.hook 1 (.op (some 12) (.p (.mv (.tmp 0)))
  (.op (some 13) (.w (.call 25 [(.tmp 12)]))
  (.op (some 11) (.p (.mv (.tmp 13)))
  (.op (some 14) (.p (.ext (.tmp 11) 0))
  (.op (some 15) (.p (.ext (.tmp 11) 1))
  (.op (some 3) (.p (.mv (.tmp 14)))
  (.op (some 4) (.p (.mv (.tmp 15)))
  (.hook 2 (.op (some 17) (.p (.mv (.tmp 0)))
  (.op (some 18) (.w (.call 27 [(.tmp 17)]))
  (.op (some 16) (.p (.mv (.tmp 18)))
  (.op (some 19) (.p (.ext (.tmp 16) 0))
  (.op (some 20) (.p (.ext (.tmp 16) 1))
  (.op (some 5) (.p (.mv (.tmp 19)))
  (.op (some 6) (.p (.mv (.tmp 20)))
  (.hook 3 (.op (some 22) (.p (.mv (.tmp 0)))
  (.op (some 23) (.w (.call 28 [(.tmp 22)]))
  (.op (some 21) (.p (.mv (.tmp 23)))
  (.op (some 24) (.p (.ext (.tmp 21) 0))
  (.op (some 25) (.p (.ext (.tmp 21) 1))
  (.op (some 7) (.p (.mv (.tmp 24)))
  (.op (some 8) (.p (.mv (.tmp 25)))
  (.hook 4 (.op (some 27) (.p (.mv (.tmp 0)))
  (.op (some 28) (.w (.call 29 [(.tmp 27)]))
  (.op (some 26) (.p (.mv (.tmp 28)))
  (.op (some 29) (.p (.ext (.tmp 26) 0))
  (.op (some 30) (.p (.ext (.tmp 26) 1))
  (.op (some 9) (.p (.mv (.tmp 29)))
  (.op (some 10) (.p (.mv (.tmp 30)))
  (.hook 5 (.op (some 31) (.p (.mv (.tmp 0)))
  (.op (some 32) (.w (.call 30 [(.tmp 31)]))
  (.op (some 33) (.p (.mv (.tmp 0)))
  (.op (some 34) (.w (.call 31 [(.tmp 33)]))
  (.op (some 35) (.p (.binb .eql (.tmp 32) (.tmp 34)))
  (.op (some 36) (.p (.mv (.tmp 35)))
  (.g 36 true (some 37) (.p (.mv (.tmp 3)))
  (.g 36 true (some 38) (.p (.mv (.tmp 5)))
  (.g 36 true (some 39) (.p (.bin .eql (.tmp 37) (.tmp 38)))
  (.op (some 40) (.p (.pick (.tmp 36) (.tmp 39) (.const (.bool false))))
  (.op (some 41) (.p (.mv (.tmp 40)))
  (.g 41 true (some 42) (.p (.mv (.tmp 4)))
  (.g 41 true (some 43) (.p (.mv (.tmp 6)))
  (.g 41 true (some 44) (.p (.binb .eql (.tmp 42) (.tmp 43)))
  (.op (some 45) (.p (.pick (.tmp 41) (.tmp 44) (.const (.bool false))))
  (.op (some 46) (.p (.mv (.tmp 45)))
  (.g 46 true (some 47) (.p (.mv (.tmp 7)))
  (.g 46 true (some 48) (.p (.mv (.tmp 9)))
  (.g 46 true (some 49) (.p (.bin .eql (.tmp 47) (.tmp 48)))
  (.op (some 50) (.p (.pick (.tmp 46) (.tmp 49) (.const (.bool false))))
  (.op (some 51) (.p (.mv (.tmp 50)))
  (.g 51 true (some 52) (.p (.mv (.tmp 8)))
  (.g 51 true (some 53) (.p (.mv (.tmp 10)))
  (.g 51 true (some 54) (.p (.bin .eql (.tmp 52) (.tmp 53)))
  (.op (some 55) (.p (.pick (.tmp 51) (.tmp 54) (.const (.bool false))))
  (.op (some 56) (.p (.mv (.tmp 55)))
  (.g 56 true (some 57) (.w (.call 30 [(.const (.string ⟨#[48]⟩))]))
  (.op (some 58) (.p (.pick (.tmp 56) (.tmp 57) (.const (.bool false))))
  (.op (some 2) (.p (.mv (.tmp 58)))
  .ret))))))))))))))))))))))))))))))))))))))))))))))))))))))))))))))))
theorem k9 : compF Tryd.prog 9 = some (c9, [(.t 2)], 59) := by kernel_rfl
open Go.XW.DI hiding fm body sgn sizeI digs
theorem of_calls (n : Int) (h0 : -9223372036854775808 ≤ n) (h1 : n ≤ 9223372036854775807) {e1 e2 : Value} (h : Hp) (ht : ConvT h e1 e2) : VCalls Tryd.prog 24 [int n] h (fun v h' => v = vstr (en n) ∧ h' = h) := by
  refine xc k24 rfl ?_
  refine run ?_
  refine VCalls.use (itoa_calls n h0 h1 _ ht) ?_
  rintro _ _ ⟨rfl, rfl⟩
  refine run ?_
  exact retv ⟨rfl, rfl⟩
theorem rof_calls (n : Int) (h0 : -9223372036854775808 ≤ n) (h1 : n ≤ 9223372036854775807) {e1 e2 : Value} (h : Hp) (ht : ConvT h e1 e2) : VCalls Tryd.prog 26 [int n] h (fun v h' => v = vstr (en n) ∧ h' = h) := by
  refine xc k26 rfl ?_
  refine run ?_
  refine VCalls.use (itoa_calls n h0 h1 _ ht) ?_
  rintro _ _ ⟨rfl, rfl⟩
  refine run ?_
  exact retv ⟨rfl, rfl⟩
def inI (z : Int) : Prop := -9223372036854775808 ≤ z ∧ z ≤ 9223372036854775807
instance (z : Int) : Decidable (inI z) := by unfold inI; infer_instance
def smallW (s : List UInt8) : V := if fm s = true ∧ inI (zv s) then .tup [int (zv s), vbool true] else .tup [int 0, vbool false]
theorem tsmall_calls (s : List UInt8) (hl : s.length ≤ 2 ^ 47) {e1 e2 : Value} (h : Hp) (ht : ConvT h e1 e2) : VCalls Tryd.prog 25 [vstr s] h (fun v h' => v = smallW s ∧ h' = h) := by
  refine xc k25 rfl ?_
  refine run ?_
  refine VCalls.use (tformed_calls s _ (by omega)) ?_
  rintro _ _ ⟨rfl, rfl⟩
  refine run ?_
  unfold smallW
  cases hf : fm s with
  | false =>
    refine run ?_
    exact retv ⟨by simp [tupV], rfl⟩
  | true =>
    generalize hz : zv s = z
    obtain rfl : s = en z := hz ▸ en_of_fm hf
    refine run ?_
    refine VCalls.use (atoi_calls z hl _ ht) ?_
    rintro v _ ⟨hv, rfl⟩
    unfold AtoiR at hv
    unfold inI
    split at hv
    · rename_i hr
      subst hv
      refine run ?_
      exact retv ⟨by simp [tupV, hr], rfl⟩
    · rename_i hr
      obtain ⟨x, rfl⟩ := hv
      refine run ?_
      exact retv ⟨by simp [tupV, hr], rfl⟩
theorem less_calls (y z : Int) (h : Hp) (hy : (en y).length ≤ 1000000000000) (hz : (en z).length ≤ 1000000000000) : VCalls Tryd.prog 45 [vstr (en y), vstr (en z)] h (fun v h' => v = vbool (decide (y < z)) ∧ h' = h) := by
  have h1 := lod_en y
  have h2 := lod_en z
  refine xc k45 rfl ?_
  refine run ?_
  refine VCalls.use (read_calls y _ hy) ?_
  rintro _ _ ⟨rfl, rfl⟩
  refine run ?_
  refine VCalls.use (read_calls z _ hz) ?_
  rintro _ _ ⟨rfl, rfl⟩
  refine run ?_
  refine VCalls.use (rorder_calls y z _ (by omega) (by omega)) ?_
  rintro _ _ ⟨rfl, rfl⟩
  refine run ?_
  refine retv ⟨?_, rfl⟩
  show vbool (decide (cmpI y z < 0)) = _
  congr 2
  unfold cmpI
  (repeat' split) <;> simp <;> omega
theorem en_max : en 9223372036854775807 = [57, 50, 50, 51, 51, 55, 50, 48, 51, 54, 56, 53, 52, 55, 55, 53, 56, 48, 55] := by decide +kernel
theorem en_min : en (-9223372036854775808) = [45, 57, 50, 50, 51, 51, 55, 50, 48, 51, 54, 56, 53, 52, 55, 55, 53, 56, 48, 56] := by decide +kernel
theorem en_long {z : Int} (h : 20 < (en z).length) : ¬ inI z := by
  rintro ⟨h1, h2⟩
  have hl : (decs z.natAbs).length ≤ 19 := by
    by_cases h0 : z.natAbs = 0
    · rw [h0]; decide
    · have := decs_low h0
      by_cases hc : (decs z.natAbs).length ≤ 19
      · exact hc
      · exfalso
        have hp := p10_le (show 19 ≤ (decs z.natAbs).length - 1 by omega)
        have : (10 : Int) ^ 19 = 10000000000000000000 := by decide
        omega
  have := en_le_dc z
  rw [dc_length] at this
  omega
theorem lval_drop {ds : List Int} (hd : Dg ds) (j : Nat) (hj : j ≤ ds.length) : 0 ≤ lval (ds.drop j) ∧ lval (ds.drop j) ≤ lval ds := by
  have hd2 : Dg (ds.drop j) := fun x hx => hd x (List.mem_of_mem_drop hx)
  have h0 := lval_nonneg hd2
  refine ⟨h0, ?_⟩
  have e := lval_append (ds.take j) (ds.drop j)
  rw [List.take_append_drop] at e
  have h1 := lval_nonneg (l := ds.take j) fun x hx => hd x (List.mem_of_mem_take hx)
  have h2 := p10_pos (ds.take j).length
  have h3 : 1 * lval (ds.drop j) ≤ 10 ^ (ds.take j).length * lval (ds.drop j) := Int.mul_le_mul_of_nonneg_right (by omega) h0
  omega
theorem lval_dropD {ds : List Int} {j : Nat} (hj : j < ds.length) : lval (ds.drop j) = ds.getD j 0 + 10 * lval (ds.drop (j + 1)) := by
  rw [List.drop_eq_getElem_cons hj]
  simp [lval, List.getD, hj]
theorem rsmall_calls (s : List UInt8) (hl : s.length ≤ 2 ^ 47) (h : Hp) : VCalls Tryd.prog 27 [vstr s] h (fun v h' => v = smallW s ∧ h' = h) := by
  refine xc k27 rfl ?_
  refine run ?_
  refine VCalls.use (r1formed_calls s _ (by omega)) ?_
  rintro _ _ ⟨rfl, rfl⟩
  refine run ?_
  unfold smallW
  cases hf : fm s with
  | false =>
    refine run ?_
    exact retv ⟨by simp [tupV], rfl⟩
  | true =>
    generalize hz : zv s = z
    obtain rfl : s = en z := hz ▸ en_of_fm hf
    refine run ?_
    refine br_d (fun h20 => ?_) (fun h20 => ?_)
    · refine run ?_
      exact retv ⟨by simp [tupV, en_long (z := z) (by omega)], rfl⟩
    refine run ?_
    rw [← en_max]
    refine VCalls.use (less_calls 9223372036854775807 z _ (by rw [en_max]; decide) (by omega)) ?_
    rintro _ _ ⟨rfl, rfl⟩
    refine run ?_
    refine br_d (fun hmx => ?_) (fun hmx => ?_)
    · refine run ?_
      exact retv ⟨by simp [tupV, inI]; omega, rfl⟩
    refine run ?_
    rw [← en_min]
    refine VCalls.use (less_calls z (-9223372036854775808) _ (by omega) (by rw [en_min]; decide)) ?_
    rintro _ _ ⟨rfl, rfl⟩
    refine run ?_
    refine br_d (fun hmn => ?_) (fun hmn => ?_)
    · refine run ?_
      exact retv ⟨by simp [tupV, inI]; omega, rfl⟩
    have hin : inI z := ⟨by omega, by omega⟩
    rw [if_pos ⟨rfl, hin⟩]
    have hdg := lod_dg z.natAbs
    have hvl := lod_val z.natAbs
    have hll := lod_en z
    refine run ?_
    refine VCalls.use (read_calls z _ (by omega)) ?_
    rintro _ _ ⟨rfl, rfl⟩
    refine run ?_
    refine new_k fun k4 => ?_
    refine run ?_
    generalize hds : lod z.natAbs = ds at *
    refine lp (fun j : Nat => [(4, .ptr 2 k4 0 0), (5, int (- lval (ds.drop j))), (6, int ((j : Int) - 1))]) (fun _ => (k4, .blk 2 [[vbool (decide (z < 0)), .row 1 (rInts .i64 ds)]]) :: _) (fun j => j ≤ ds.length) (fun j => j) (wkx ds.length (by omega) (.cons _ _ _ _ rfl rfl (.cons _ _ _ _ rfl (vint_eq (by rw [List.drop_length]; rfl)) (.cons _ _ _ _ rfl rfl .nil))) rfl) ?_
    rintro j hj
    obtain ⟨hb0, hb1⟩ := lval_drop hdg j hj
    refine run ?_
    refine br_d (fun hge => ?_) (fun hge => ?_)
    · obtain ⟨i, rfl⟩ : ∃ i, j = i + 1 := ⟨j - 1, by omega⟩
      have hi : i < ds.length := by omega
      obtain ⟨hc0, hc1⟩ := lval_drop hdg i (by omega)
      have hst := lval_dropD hi
      have hdi := hdg (ds.getD i 0) (by simp [List.getD, hi])
      have e1 : (((i + 1 : Nat) : Int) - 1) = (i : Int) := by omega
      rw [e1]
      unfold inI at hin
      refine run ?_
      refine wkx (i) (⟨by omega, by omega⟩) (.cons _ _ _ _ rfl rfl (.cons _ _ _ _ rfl (vint_eq (by rw [hst]; omega)) (.cons _ _ _ _ rfl (vint_eq (by first | omega | (dsimp only; omega))) .nil))) rfl
    · obtain rfl : j = 0 := by omega
      rw [List.drop_zero] at hb0 hb1 ⊢
      unfold inI at hin
      refine run ?_
      by_cases hneg : z < 0
      · rw [decide_eq_true hneg]
        refine run ?_
        exact ret1 (retv ⟨congrArg (fun q : Int => V.tup [int q, vbool true]) (by omega), rfl⟩)
      · rw [decide_eq_false hneg]
        refine run ?_
        exact ret1 (retv ⟨congrArg (fun q : Int => V.tup [int q, vbool true]) (by omega), rfl⟩)
def digV (s : List UInt8) : V := if fm s = true then .tup [int (body s).length, int 0] else .tup [int 0, int 1]
theorem fm_ne {s : List UInt8} (h : fm s = true) : s ≠ [] := by rintro rfl; simp [fm, body] at h
theorem tdigits_calls (s : List UInt8) (hl : s.length ≤ 2 ^ 47) (h : Hp) : VCalls Tryd.prog 28 [vstr s] h (fun v h' => v = digV s ∧ h' = h) := by
  refine xc k28 rfl ?_
  refine run ?_
  refine VCalls.use (tformed_calls s _ (by omega)) ?_
  rintro _ _ ⟨rfl, rfl⟩
  refine run ?_
  unfold digV
  cases hf : fm s with
  | false =>
    refine run ?_
    exact retv ⟨by simp [tupV], rfl⟩
  | true =>
    refine run ?_
    refine VCalls.use (split_calls s _ (fm_ne hf) (by omega)) ?_
    rintro _ _ ⟨rfl, rfl⟩
    refine run ?_
    exact retv ⟨by simp [tupV], rfl⟩
theorem rdigits_calls (s : List UInt8) (hl : s.length ≤ 2 ^ 47) (h : Hp) : VCalls Tryd.prog 29 [vstr s] h (fun v h' => v = digV s ∧ h' = h) := by
  refine xc k29 rfl ?_
  refine run ?_
  refine VCalls.use (r1formed_calls s _ (by omega)) ?_
  rintro _ _ ⟨rfl, rfl⟩
  refine run ?_
  unfold digV
  cases hf : fm s with
  | false =>
    refine run ?_
    exact retv ⟨by simp [tupV], rfl⟩
  | true =>
    have hne := fm_ne hf
    have hl0 : 0 < s.length := List.length_pos_iff.2 hne
    refine run ?_
    refine br_d (fun hc => ?_) (fun hc => ?_)
    · have h1 : s.head? = some 45 := by rw [head_getD hne, (b45 _).1 hc]
      refine run ?_
      refine retv ⟨?_, rfl⟩
      rw [if_pos rfl]
      exact congrArg (fun q : Int => V.tup [int q, int 0]) (by rw [body, if_pos h1, List.length_drop]; omega)
    · have h1 : ¬ s.head? = some 45 := by rw [head_getD hne]; intro he; exact hc ((b45 _).2 (Option.some.inj he))
      refine run ?_
      refine retv ⟨?_, rfl⟩
      simp only [tupV, if_true]
      rw [body, if_neg h1]
theorem zv_en (z : Int) : zv (en z) = z := en_inj (en_of_fm (fm_en z)).symm
theorem tensOf_calls (n : Int) (h0 : -9223372036854775808 ≤ n) (h1 : n ≤ 9223372036854775807) {e1 e2 : Value} (h : Hp) (ht : ConvT h e1 e2) : VCalls Tryd.prog 8 [int n] h (fun r _ => r = vbool true) := by
  have hlen : (en n).length ≤ 20 := Nat.le_of_not_lt fun hh => en_long hh ⟨h0, h1⟩
  have hs : smallW (en n) = .tup [int n, vbool true] := by unfold smallW; rw [if_pos ⟨fm_en n, by rw [zv_en]; exact ⟨h0, h1⟩⟩, zv_en]
  refine xc k8 rfl ?_
  refine run ?_
  refine VCalls.use (of_calls n h0 h1 _ ht) ?_
  rintro _ _ ⟨rfl, rfl⟩
  refine run ?_
  refine VCalls.use (tsmall_calls (en n) (by omega) _ ht) ?_
  rintro _ _ ⟨rfl, rfl⟩
  rw [hs]
  refine run ?_
  refine VCalls.use (rof_calls n h0 h1 _ ht) ?_
  rintro _ _ ⟨rfl, rfl⟩
  refine run ?_
  refine run ?_
  repeat' (first | (refine br_d (fun _ => ?_) (fun _ => ?_) <;> refine run ?_) | (refine br_nd (fun _ => ?_) (fun _ => ?_) <;> refine run ?_) | (refine Br.mk (fun _ => ?_) (fun _ => ?_) <;> refine run ?_) | (refine new_k fun _ => ?_; refine run ?_))
  all_goals (first | (exfalso; simp_all; done) | ((exact retv (by simp_all [tupV]))))
theorem tensFormed_calls (s : List UInt8) (hl : s.length ≤ 2 ^ 47) {e1 e2 : Value} (h : Hp) (ht : ConvT h e1 e2) : VCalls Tryd.prog 9 [vstr s] h (fun r _ => r = vbool true) := by
  refine xc k9 rfl ?_
  refine run ?_
  refine VCalls.use (tsmall_calls s (by omega) _ ht) ?_
  rintro _ _ ⟨rfl, rfl⟩
  obtain ⟨x, b, hs⟩ : ∃ x b, smallW s = .tup [int x, vbool b] := by unfold smallW; split; exact ⟨_, _, rfl⟩; exact ⟨_, _, rfl⟩
  obtain ⟨y, z, hd⟩ : ∃ y z, digV s = .tup [int y, int z] := by unfold digV; split; exact ⟨_, _, rfl⟩; exact ⟨_, _, rfl⟩
  rw [hs]
  refine run ?_
  refine VCalls.use (rsmall_calls s (by omega) _) ?_
  rintro _ _ ⟨rfl, rfl⟩
  rw [hs]
  refine run ?_
  refine VCalls.use (tdigits_calls s (by omega) _) ?_
  rintro _ _ ⟨rfl, rfl⟩
  rw [hd]
  refine run ?_
  refine VCalls.use (rdigits_calls s (by omega) _) ?_
  rintro _ _ ⟨rfl, rfl⟩
  rw [hd]
  refine run ?_
  refine VCalls.use (tformed_calls s _ (by omega)) ?_
  rintro _ _ ⟨rfl, rfl⟩
  refine run ?_
  refine VCalls.use (r1formed_calls s _ (by omega)) ?_
  rintro _ _ ⟨rfl, rfl⟩
  refine run ?_
  have hq : ∀ b : Bool, (b == b) = true := fun b => by cases b <;> rfl
  rw [hq]
  have hf0 : fm [48] = true := by decide
  refine run ?_
  repeat' (first | (refine br_d (fun _ => ?_) (fun _ => ?_) <;> refine run ?_) | (refine br_nd (fun _ => ?_) (fun _ => ?_) <;> refine run ?_) | (refine Br.mk (fun _ => ?_) (fun _ => ?_) <;> refine run ?_) | (refine new_k fun _ => ?_; refine run ?_) | (rw [hq]; refine run ?_) | (refine VCalls.use (tformed_calls [48] _ (by decide)) ?_; rintro _ _ ⟨rfl, rfl⟩; refine run ?_))
  all_goals (first | (exfalso; simp_all; done) | ((exact retv (by simp_all [tupV]))))
end Go.Proofs.YtpiicncihccheaaDoor
