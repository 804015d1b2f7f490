/- Walks of the statements of layer 6: WriterLaid, WriterPlain. -/
import Derived.Test.YtpiicncihccheaaGreatDoorE5
import Derived.Test.YtpiicncihccheaaGreatDoorXI
namespace Go.Proofs.YtpiicncihccheaaGreatDoor
open Go.XW Go.XW.DU Go.Lib Go.XW.U
/- "hallmark/hallmarklaw06.lives" -/
def c5 : S :=
  (.hook 0 (.op (some 0) (.p (.mv (.const (.bool false))))
  (.hook 1 (.op (some 4) (.w (.lit true 1 1 [(.string ⟨#[]⟩)] [(0, (1, (false, (.const (.string ⟨#[97]⟩)))))]))
  (.op (some 5) (.p (.build [(.int .i64 0), (.string ⟨#[]⟩), (.string ⟨#[]⟩), (.slice none 0 0), (.slice none 0 0)] [(0, (1, (false, (.const (.int .i64 3))))), (1, (1, (false, (.const (.string ⟨#[45, 55]⟩)))))]))
  (.op (some 6) (.p (.build [(.int .i64 0), (.string ⟨#[]⟩), (.string ⟨#[]⟩), (.slice none 0 0), (.slice none 0 0)] []))
  (.op (some 7) (.w (.lit true 5 2 [(.int .i64 0), (.string ⟨#[]⟩), (.string ⟨#[]⟩), (.slice none 0 0), (.slice none 0 0)] [(0, (5, (true, (.tmp 5)))), (5, (5, (true, (.tmp 6))))]))
  (.op (some 8) (.p (.build [(.int .i64 0), (.string ⟨#[]⟩), (.string ⟨#[]⟩), (.slice none 0 0), (.slice none 0 0)] [(0, (1, (false, (.const (.int .i64 5))))), (3, (1, (false, (.tmp 7))))]))
  (.op (some 9) (.w (.lit true 5 1 [(.int .i64 0), (.string ⟨#[]⟩), (.string ⟨#[]⟩), (.slice none 0 0), (.slice none 0 0)] [(0, (5, (true, (.tmp 8))))]))
  (.op (some 10) (.p (.build [(.int .i64 0), (.string ⟨#[]⟩), (.string ⟨#[]⟩), (.slice none 0 0), (.slice none 0 0)] [(0, (1, (false, (.const (.int .i64 6))))), (4, (1, (false, (.tmp 4)))), (3, (1, (false, (.tmp 9))))]))
  (.op (some 11) (.w (.call 8 [(.tmp 10)]))
  (.op (some 3) (.p (.mv (.tmp 11)))
  (.op (some 12) (.p (.ext (.tmp 3) 0))
  (.op (some 13) (.p (.ext (.tmp 3) 1))
  (.op (some 1) (.p (.mv (.tmp 12)))
  (.op (some 2) (.p (.mv (.tmp 13)))
  (.hook 2 (.op (some 14) (.p (.mv (.tmp 1)))
  (.op (some 15) (.p (.bin .eql (.tmp 14) (.const (.string ⟨#[123, 34, 97, 34, 58, 91, 45, 55, 44, 110, 117, 108, 108, 93, 125]⟩))))
  (.op (some 16) (.p (.mv (.tmp 15)))
  (.g 16 true (some 17) (.p (.mv (.tmp 2)))
  (.g 16 true (some 18) (.p (.bin .eql (.tmp 17) (.const (.int .i64 0))))
  (.op (some 19) (.p (.pick (.tmp 16) (.tmp 18) (.const (.bool false))))
  (.op (some 0) (.p (.mv (.tmp 19)))
  .ret))))))))))))))))))))))))
theorem k5 : compF Tryz.prog 5 = some (c5, [(.t 0)], 20) := by kernel_rfl
def livesJ : JV := .mk 6 [] [] [.mk 5 [] [] [.mk 3 [45, 55] [] [] [], .mk 0 [] [] [] []] []] [[97]]
theorem lives_fmd : fmd livesJ = true := by decide +kernel
theorem lives_text : textV livesJ (-1) = .tup [vstr [123, 34, 97, 34, 58, 91, 45, 55, 44, 110, 117, 108, 108, 93, 125], int 0] := by
  unfold textV; rw [lives_fmd]; rfl
theorem lives_calls (h : Hp) (ht : Tabs h) : VCalls Tryz.prog 5 [] h (fun r h' => r = vbool true ∧ h' = h) := by
  refine xc k5 rfl ?_
  refine run ?_
  refine new_k fun k4 => ?_
  refine run ?_
  refine new_k fun k7 => ?_
  refine run ?_
  refine new_k fun k9 => ?_
  refine run ?_
  refine VCalls.vws (h2 := (k9, .blk 5 [[int 5, vstr [], vstr [], .osl 5 k7 0 2, .row 1 []]]) :: (k7, .blk 5 [[int 3, vstr [45, 55], vstr [], .row 5 [], .row 1 []], [int 0, vstr [], vstr [], .row 5 [], .row 1 []]]) :: (k4, .blk 1 [[vstr [97]]]) :: h) hrs ?_
  refine VCalls.frz [(k9, .blk 5 [[int 5, vstr [], vstr [], .osl 5 k7 0 2, .row 1 []]])] [.agg [int 6, vstr [], vstr [], .osl 5 k9 0 1, .osl 1 k4 0 1]] ((k9, .blk 5 [[int 5, vstr [], vstr [], .row 5 [[int 3, vstr [45, 55], vstr [], .row 5 [], .row 1 []], [int 0, vstr [], vstr [], .row 5 [], .row 1 []]], .row 1 []]]) :: (k4, .blk 1 [[vstr [97]]]) :: h) hrz lrz ?_
  refine VCalls.frz [] [.agg [int 6, vstr [], vstr [], .row 5 [[int 5, vstr [], vstr [], .row 5 [[int 3, vstr [45, 55], vstr [], .row 5 [], .row 1 []], [int 0, vstr [], vstr [], .row 5 [], .row 1 []]], .row 1 []]], .osl 1 k4 0 1]] ((k4, .blk 1 [[vstr [97]]]) :: h) hrz lrz ?_
  refine VCalls.frz [] [.agg [int 6, vstr [], vstr [], .row 5 [[int 5, vstr [], vstr [], .row 5 [[int 3, vstr [45, 55], vstr [], .row 5 [], .row 1 []], [int 0, vstr [], vstr [], .row 5 [], .row 1 []]], .row 1 []]], .row 1 [[vstr [97]]]]] h hrz lrz ?_
  refine VCalls.use (wtext_calls livesJ h ht (by decide +kernel)) ?_
  rintro _ _ ⟨rfl, rfl⟩
  rw [lives_text]
  refine run ?_
  repeat' (first | (refine br_d (fun _ => ?_) (fun _ => ?_) <;> refine run ?_) | (refine br_nd (fun _ => ?_) (fun _ => ?_) <;> refine run ?_) | (refine Br.mk (fun _ => ?_) (fun _ => ?_) <;> refine run ?_) | (refine new_k fun _ => ?_; refine run ?_))
  all_goals ((first | exact retv ⟨rfl, rfl⟩ | (exfalso; simp_all; done)))
def l0J : JV := .mk 5 [] [] [.mk 0 [] [] [] []] []
theorem l0_fmd : fmd l0J = true := by decide +kernel
theorem l0_text : laidV l0J 1 = .tup [vstr [91, 10, 32, 110, 117, 108, 108, 10, 93], int 0] := by
  unfold laidV textV; rw [l0_fmd]; rfl
end Go.Proofs.YtpiicncihccheaaGreatDoor
