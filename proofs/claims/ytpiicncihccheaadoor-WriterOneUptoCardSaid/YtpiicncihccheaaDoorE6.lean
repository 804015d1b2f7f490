/- Walks of the statements of layer 6: WriterLaid, WriterPlain. -/
import Derived.Test.YtpiicncihccheaaDoorE5
import Derived.Test.YtpiicncihccheaaDoorXI
namespace Go.Proofs.YtpiicncihccheaaDoor
open Go.XW Go.XW.DU Go.Lib Go.XW.U
/- "hallmark/hallmarklaw06.lives" -/
def c13 : S :=
  (.hook 0 (.op (some 0) (.p (.mv (.const (.bool false))))
  (.hook 1 (.op (some 4) (.w (.lit true 1 1 [(.string ⟨#[]⟩)] [(0, (1, (false, (.const (.string ⟨#[97]⟩)))))]))
  (.op (some 5) (.p (.build [(.int .i64 0), (.string ⟨#[]⟩), (.string ⟨#[]⟩), (.slice none 0 0), (.slice none 0 0)] [(0, (1, (false, (.const (.int .i64 3))))), (1, (1, (false, (.const (.string ⟨#[45, 55]⟩)))))]))
  (.op (some 6) (.p (.build [(.int .i64 0), (.string ⟨#[]⟩), (.string ⟨#[]⟩), (.slice none 0 0), (.slice none 0 0)] []))
  (.op (some 7) (.w (.lit true 5 2 [(.int .i64 0), (.string ⟨#[]⟩), (.string ⟨#[]⟩), (.slice none 0 0), (.slice none 0 0)] [(0, (5, (true, (.tmp 5)))), (5, (5, (true, (.tmp 6))))]))
  (.op (some 8) (.p (.build [(.int .i64 0), (.string ⟨#[]⟩), (.string ⟨#[]⟩), (.slice none 0 0), (.slice none 0 0)] [(0, (1, (false, (.const (.int .i64 5))))), (3, (1, (false, (.tmp 7))))]))
  (.op (some 9) (.w (.lit true 5 1 [(.int .i64 0), (.string ⟨#[]⟩), (.string ⟨#[]⟩), (.slice none 0 0), (.slice none 0 0)] [(0, (5, (true, (.tmp 8))))]))
  (.op (some 10) (.p (.build [(.int .i64 0), (.string ⟨#[]⟩), (.string ⟨#[]⟩), (.slice none 0 0), (.slice none 0 0)] [(0, (1, (false, (.const (.int .i64 6))))), (4, (1, (false, (.tmp 4)))), (3, (1, (false, (.tmp 9))))]))
  (.op (some 11) (.w (.call 14 [(.tmp 10)]))
  (.op (some 3) (.p (.mv (.tmp 11)))
  (.op (some 12) (.p (.ext (.tmp 3) 0))
  (.op (some 13) (.p (.ext (.tmp 3) 1))
  (.op (some 1) (.p (.mv (.tmp 12)))
  (.op (some 2) (.p (.mv (.tmp 13)))
  (.hook 2 (.op (some 14) (.p (.mv (.tmp 1)))
  (.op (some 15) (.p (.bin .eql (.tmp 14) (.const (.string ⟨#[123, 34, 97, 34, 58, 91, 45, 55, 44, 110, 117, 108, 108, 93, 125]⟩))))
  (.op (some 16) (.p (.mv (.tmp 15)))
  (.g 16 true (some 17) (.p (.mv (.tmp 2)))
  (.g 16 true (some 18) (.p (.bin .eql (.tmp 17) (.const (.int .i64 0))))
  (.op (some 19) (.p (.pick (.tmp 16) (.tmp 18) (.const (.bool false))))
  (.op (some 0) (.p (.mv (.tmp 19)))
  .ret))))))))))))))))))))))))
theorem k13 : compF Tryd.prog 13 = some (c13, [(.t 0)], 20) := by kernel_rfl
/- "hallmark/hallmarklaw06.WriterPlain" -/
def c4 : S :=
  (.hook 0 (.op (some 1) (.w (.box true 5 (.tmp 0)))
  (.op (some 2) (.p (.mv (.const (.bool false))))
  (.sq 1
    (.hook 1 (.op (some 9) (.w (.call 13 []))
    (.op (some 10) (.p (.not (.tmp 9)))
    (.ite (.tmp 10)
      (.hook 2 (.op (some 2) (.p (.mv (.const (.bool false))))
      .ret))
      .done))))
  (.sq 3
    (.hook 3 (.op (some 11) (.r (.ld true 5 (.tmp 1)))
    (.op (some 12) (.w (.call 11 [(.tmp 11)]))
    (.op (some 13) (.p (.not (.tmp 12)))
    (.ite (.tmp 13)
      (.hook 4 (.op (some 2) (.p (.mv (.const (.bool true))))
      .ret))
      .done)))))
  (.hook 5 (.op (some 15) (.r (.ld true 5 (.tmp 1)))
  (.op (some 16) (.w (.call 14 [(.tmp 15)]))
  (.op (some 14) (.p (.mv (.tmp 16)))
  (.op (some 17) (.p (.ext (.tmp 14) 0))
  (.op (some 18) (.p (.ext (.tmp 14) 1))
  (.op (some 3) (.p (.mv (.tmp 17)))
  (.op (some 4) (.p (.mv (.tmp 18)))
  (.hook 6 (.op (some 20) (.r (.ld true 5 (.tmp 1)))
  (.op (some 21) (.w (.call 15 [(.tmp 20)]))
  (.op (some 19) (.p (.mv (.tmp 21)))
  (.op (some 22) (.p (.ext (.tmp 19) 0))
  (.op (some 23) (.p (.ext (.tmp 19) 1))
  (.op (some 5) (.p (.mv (.tmp 22)))
  (.op (some 6) (.p (.mv (.tmp 23)))
  (.hook 7 (.op (some 25) (.r (.ld true 5 (.tmp 1)))
  (.op (some 26) (.w (.call 16 [(.tmp 25)]))
  (.op (some 24) (.p (.mv (.tmp 26)))
  (.op (some 27) (.p (.ext (.tmp 24) 0))
  (.op (some 28) (.p (.ext (.tmp 24) 1))
  (.op (some 7) (.p (.mv (.tmp 27)))
  (.op (some 8) (.p (.mv (.tmp 28)))
  (.hook 8 (.op (some 29) (.p (.mv (.tmp 3)))
  (.op (some 30) (.p (.mv (.tmp 7)))
  (.op (some 31) (.p (.bin .eql (.tmp 29) (.tmp 30)))
  (.op (some 32) (.p (.mv (.tmp 31)))
  (.g 32 true (some 33) (.p (.mv (.tmp 4)))
  (.g 32 true (some 34) (.p (.mv (.tmp 8)))
  (.g 32 true (some 35) (.p (.bin .eql (.tmp 33) (.tmp 34)))
  (.op (some 36) (.p (.pick (.tmp 32) (.tmp 35) (.const (.bool false))))
  (.op (some 37) (.p (.mv (.tmp 36)))
  (.g 37 true (some 38) (.p (.mv (.tmp 5)))
  (.g 37 true (some 39) (.p (.mv (.tmp 7)))
  (.g 37 true (some 40) (.p (.lens (.tmp 39)))
  (.g 37 true (some 41) (.p (.bin .eql (.tmp 38) (.tmp 40)))
  (.op (some 42) (.p (.pick (.tmp 37) (.tmp 41) (.const (.bool false))))
  (.op (some 43) (.p (.mv (.tmp 42)))
  (.g 43 true (some 44) (.p (.mv (.tmp 6)))
  (.g 43 true (some 45) (.p (.mv (.tmp 8)))
  (.g 43 true (some 46) (.p (.bin .eql (.tmp 44) (.tmp 45)))
  (.op (some 47) (.p (.pick (.tmp 43) (.tmp 46) (.const (.bool false))))
  (.op (some 2) (.p (.mv (.tmp 47)))
  .ret))))))))))))))))))))))))))))))))))))))))))))))))))
theorem k4 : compF Tryd.prog 4 = some (c4, [(.t 2)], 48) := by kernel_rfl
/- "hallmark/hallmarklaw06.WriterLaid" -/
def c3 : S :=
  (.hook 0 (.op (some 2) (.w (.box true 5 (.tmp 0)))
  (.op (some 4) (.p (.mv (.const (.bool false))))
  (.hook 1 (.op (some 10) (.p (.build [(.int .i64 0), (.string ⟨#[]⟩), (.string ⟨#[]⟩), (.slice none 0 0), (.slice none 0 0)] []))
  (.op (some 11) (.w (.lit true 5 1 [(.int .i64 0), (.string ⟨#[]⟩), (.string ⟨#[]⟩), (.slice none 0 0), (.slice none 0 0)] [(0, (5, (true, (.tmp 10))))]))
  (.op (some 12) (.p (.build [(.int .i64 0), (.string ⟨#[]⟩), (.string ⟨#[]⟩), (.slice none 0 0), (.slice none 0 0)] [(0, (1, (false, (.const (.int .i64 5))))), (3, (1, (false, (.tmp 11))))]))
  (.op (some 13) (.w (.call 10 [(.tmp 12), (.const (.int .i64 1))]))
  (.op (some 9) (.p (.mv (.tmp 13)))
  (.op (some 14) (.p (.ext (.tmp 9) 0))
  (.op (some 15) (.p (.ext (.tmp 9) 1))
  (.op (some 5) (.p (.mv (.tmp 14)))
  (.op (some 6) (.p (.mv (.tmp 15)))
  (.sq 2
    (.hook 2 (.op (some 16) (.p (.mv (.tmp 5)))
    (.op (some 17) (.p (.bin .neq (.tmp 16) (.const (.string ⟨#[91, 10, 32, 110, 117, 108, 108, 10, 93]⟩))))
    (.op (some 18) (.p (.mv (.tmp 17)))
    (.g 18 false (some 19) (.p (.mv (.tmp 6)))
    (.g 18 false (some 20) (.p (.bin .neq (.tmp 19) (.const (.int .i64 0))))
    (.op (some 21) (.p (.pick (.tmp 18) (.const (.bool true)) (.tmp 20)))
    (.ite (.tmp 21)
      (.hook 3 (.op (some 4) (.p (.mv (.const (.bool false))))
      .ret))
      .done))))))))
  (.sq 4
    (.hook 4 (.op (some 22) (.r (.ld true 5 (.tmp 2)))
    (.op (some 23) (.w (.call 11 [(.tmp 22)]))
    (.op (some 24) (.p (.not (.tmp 23)))
    (.ite (.tmp 24)
      (.hook 5 (.op (some 4) (.p (.mv (.const (.bool true))))
      .ret))
      .done)))))
  (.hook 6 (.op (some 26) (.r (.ld true 5 (.tmp 2)))
  (.op (some 27) (.p (.mv (.tmp 1)))
  (.op (some 28) (.w (.call 10 [(.tmp 26), (.tmp 27)]))
  (.op (some 25) (.p (.mv (.tmp 28)))
  (.op (some 29) (.p (.ext (.tmp 25) 0))
  (.op (some 30) (.p (.ext (.tmp 25) 1))
  (.op (some 5) (.p (.mv (.tmp 29)))
  (.op (some 6) (.p (.mv (.tmp 30)))
  (.hook 7 (.op (some 32) (.r (.ld true 5 (.tmp 2)))
  (.op (some 33) (.p (.mv (.tmp 1)))
  (.op (some 34) (.w (.call 12 [(.tmp 32), (.tmp 33)]))
  (.op (some 31) (.p (.mv (.tmp 34)))
  (.op (some 35) (.p (.ext (.tmp 31) 0))
  (.op (some 36) (.p (.ext (.tmp 31) 1))
  (.op (some 7) (.p (.mv (.tmp 35)))
  (.op (some 8) (.p (.mv (.tmp 36)))
  (.hook 8 (.op (some 37) (.p (.mv (.tmp 5)))
  (.op (some 38) (.p (.mv (.tmp 7)))
  (.op (some 39) (.p (.bin .eql (.tmp 37) (.tmp 38)))
  (.op (some 40) (.p (.mv (.tmp 39)))
  (.g 40 true (some 41) (.p (.mv (.tmp 6)))
  (.g 40 true (some 42) (.p (.mv (.tmp 8)))
  (.g 40 true (some 43) (.p (.bin .eql (.tmp 41) (.tmp 42)))
  (.op (some 44) (.p (.pick (.tmp 40) (.tmp 43) (.const (.bool false))))
  (.op (some 4) (.p (.mv (.tmp 44)))
  .ret)))))))))))))))))))))))))))))))))))))))))))
theorem k3 : compF Tryd.prog 3 = some (c3, [(.t 4)], 45) := by kernel_rfl
def livesJ : JV := .mk 6 [] [] [.mk 5 [] [] [.mk 3 [45, 55] [] [] [], .mk 0 [] [] [] []] []] [[97]]
theorem lives_fmd : fmd livesJ = true := by decide +kernel
theorem lives_text : textV livesJ (-1) = .tup [vstr [123, 34, 97, 34, 58, 91, 45, 55, 44, 110, 117, 108, 108, 93, 125], int 0] := by
  unfold textV; rw [lives_fmd]; rfl
theorem lives_calls (h : Hp) (ht : Tabs h) : VCalls Tryd.prog 13 [] h (fun r h' => r = vbool true ∧ h' = h) := by
  refine xc k13 rfl ?_
  refine run ?_
  refine new_k fun k4 => ?_
  refine run ?_
  refine new_k fun k7 => ?_
  refine run ?_
  refine new_k fun k9 => ?_
  refine run ?_
  refine VCalls.vws (h2 := (k9, .blk 5 [[int 5, vstr [], vstr [], .osl 5 k7 0 2, .row 1 []]]) :: (k7, .blk 5 [[int 3, vstr [45, 55], vstr [], .row 5 [], .row 1 []], [int 0, vstr [], vstr [], .row 5 [], .row 1 []]]) :: (k4, .blk 1 [[vstr [97]]]) :: h) hrs ?_
  refine VCalls.frz [(k9, .blk 5 [[int 5, vstr [], vstr [], .osl 5 k7 0 2, .row 1 []]])] [.agg [int 6, vstr [], vstr [], .osl 5 k9 0 1, .osl 1 k4 0 1]] ((k9, .blk 5 [[int 5, vstr [], vstr [], .row 5 [[int 3, vstr [45, 55], vstr [], .row 5 [], .row 1 []], [int 0, vstr [], vstr [], .row 5 [], .row 1 []]], .row 1 []]]) :: (k4, .blk 1 [[vstr [97]]]) :: h) hrz lrz ?_
  refine VCalls.frz [] [.agg [int 6, vstr [], vstr [], .row 5 [[int 5, vstr [], vstr [], .row 5 [[int 3, vstr [45, 55], vstr [], .row 5 [], .row 1 []], [int 0, vstr [], vstr [], .row 5 [], .row 1 []]], .row 1 []]], .osl 1 k4 0 1]] ((k4, .blk 1 [[vstr [97]]]) :: h) hrz lrz ?_
  refine VCalls.frz [] [.agg [int 6, vstr [], vstr [], .row 5 [[int 5, vstr [], vstr [], .row 5 [[int 3, vstr [45, 55], vstr [], .row 5 [], .row 1 []], [int 0, vstr [], vstr [], .row 5 [], .row 1 []]], .row 1 []]], .row 1 [[vstr [97]]]]] h hrz lrz ?_
  refine VCalls.use (text_calls livesJ h ht (by decide +kernel)) ?_
  rintro _ _ ⟨rfl, rfl⟩
  rw [lives_text]
  refine run ?_
  repeat' (first | (refine br_d (fun _ => ?_) (fun _ => ?_) <;> refine run ?_) | (refine br_nd (fun _ => ?_) (fun _ => ?_) <;> refine run ?_) | (refine Br.mk (fun _ => ?_) (fun _ => ?_) <;> refine run ?_) | (refine new_k fun _ => ?_; refine run ?_))
  all_goals ((first | exact retv ⟨rfl, rfl⟩ | (exfalso; simp_all; done)))
theorem plain_calls (v : JV) (h : Hp) (ht : Tabs h) (hb : v.bk ≤ 2 ^ 21) : VCalls Tryd.prog 4 [.agg v.c5] h (fun r _ => r = vbool true) := by
  refine xc k4 rfl ?_
  refine run ?_
  refine new_k fun k1 => ?_
  refine run ?_
  refine VCalls.use (lives_calls _ (ht.cons _)) ?_
  rintro _ _ ⟨rfl, rfl⟩
  refine run ?_
  refine VCalls.use (small_calls v (by omega) _) ?_
  rintro _ _ ⟨⟨b, rfl⟩, rfl⟩
  cases b with
  | false =>
    refine run ?_
    exact retv rfl
  | true =>
    refine run ?_
    refine VCalls.use (text_calls v _ (ht.cons _) hb) ?_
    rintro _ _ ⟨rfl, rfl⟩
    refine run ?_
    unfold textV
    cases hf : fmd v with
    | false =>
      refine run ?_
      refine VCalls.use (size_calls v _ (ht.cons _) hb) ?_
      rintro _ _ ⟨rfl, rfl⟩
      unfold sizeV
      rw [hf]
      refine run ?_
      refine VCalls.use (rtext_calls v _ hb) ?_
      rintro _ _ ⟨rfl, rfl⟩
      refine run ?_
      unfold textV
      rw [hf]
      refine run ?_
      repeat' (first | (refine br_d (fun _ => ?_) (fun _ => ?_) <;> refine run ?_) | (refine br_nd (fun _ => ?_) (fun _ => ?_) <;> refine run ?_) | (refine Br.mk (fun _ => ?_) (fun _ => ?_) <;> refine run ?_) | (refine new_k fun _ => ?_; refine run ?_))
      all_goals ((first | exact retv (by simp_all [tupV]) | (exfalso; simp_all; done)))
    | true =>
      refine run ?_
      refine VCalls.use (size_calls v _ (ht.cons _) hb) ?_
      rintro _ _ ⟨rfl, rfl⟩
      unfold sizeV
      rw [hf]
      refine run ?_
      refine VCalls.use (rtext_calls v _ hb) ?_
      rintro _ _ ⟨rfl, rfl⟩
      refine run ?_
      unfold textV
      rw [hf]
      refine run ?_
      repeat' (first | (refine br_d (fun _ => ?_) (fun _ => ?_) <;> refine run ?_) | (refine br_nd (fun _ => ?_) (fun _ => ?_) <;> refine run ?_) | (refine Br.mk (fun _ => ?_) (fun _ => ?_) <;> refine run ?_) | (refine new_k fun _ => ?_; refine run ?_))
      all_goals ((first | exact retv (by simp_all [tupV]) | (exfalso; simp_all; done)))
def l0J : JV := .mk 5 [] [] [.mk 0 [] [] [] []] []
theorem l0_fmd : fmd l0J = true := by decide +kernel
theorem l0_text : laidV l0J 1 = .tup [vstr [91, 10, 32, 110, 117, 108, 108, 10, 93], int 0] := by
  unfold laidV textV; rw [l0_fmd]; rfl
theorem wlaid_calls (v : JV) (st : Int) (h : Hp) (ht : Tabs h) (hb : v.bk ≤ 2 ^ 21) : VCalls Tryd.prog 3 [.agg v.c5, int st] h (fun r _ => r = vbool true) := by
  refine xc k3 rfl ?_
  refine run ?_
  refine new_k fun k1 => ?_
  refine run ?_
  refine new_k fun k11 => ?_
  refine run ?_
  refine VCalls.vws (h2 := (k11, .blk 5 [[int 0, vstr [], vstr [], .row 5 [], .row 1 []]]) :: (k1, .blk 5 [v.c5]) :: h) hrs ?_
  refine VCalls.frz [] [.agg [int 5, vstr [], vstr [], .row 5 [[int 0, vstr [], vstr [], .row 5 [], .row 1 []]], vnil], int 1] ((k1, .blk 5 [v.c5]) :: h) hrz lrz ?_
  refine VCalls.gen (HS.nils _) (.cons _ _ _ _ (.agg (.cons _ _ _ _ (.refl _) (.cons _ _ _ _ (.refl _) (.cons _ _ _ _ (.refl _) (.cons _ _ _ _ (.refl _) (.cons _ _ _ _ (.nilrow 1) .nil)))))) (.cons _ _ _ _ (.refl _) .nil)) ?_
  refine VCalls.use (laid_calls l0J 1 _ (ht.cons _) (by decide +kernel)) ?_
  rintro _ _ ⟨rfl, rfl⟩
  rw [l0_text]
  refine run ?_
  repeat' (first | (refine br_d (fun _ => ?_) (fun _ => ?_) <;> refine run ?_) | (refine br_nd (fun _ => ?_) (fun _ => ?_) <;> refine run ?_) | (refine Br.mk (fun _ => ?_) (fun _ => ?_) <;> refine run ?_) | (refine new_k fun _ => ?_; refine run ?_) | (refine VCalls.use (small_calls v (by omega) _) ?_; rintro _ _ ⟨⟨b, rfl⟩, rfl⟩; cases b <;> refine run ?_) | (refine VCalls.use (laid_calls v st _ (ht.cons _) hb) ?_; rintro _ _ ⟨rfl, rfl⟩; unfold laidV textV; (repeat' split) <;> refine run ?_) | (refine VCalls.use (rlaid_calls v st _ hb) ?_; rintro _ _ ⟨rfl, rfl⟩; unfold laidV textV; simp only [*, if_true, if_false]; refine run ?_))
  all_goals (first | (exfalso; simp_all; done) | ((exact retv (by simp_all [tupV]))))
end Go.Proofs.YtpiicncihccheaaDoor
