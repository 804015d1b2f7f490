/- Walks of a loan's end, and of the statement WriterKeeps. -/
import Derived.Test.YtpiicncihccheaaGreatDoorEA
namespace Go.Proofs.YtpiicncihccheaaGreatDoor
open Go.XW Go.XW.DU Go.Lib Go.XW.U
/- "hallmark/hallmarklaw06.WriterKeeps" -/
def c3 : S :=
  (.hook 0 (.op (some 4) (.p (.mv (.const (.bool false))))
  (.sq 1
    (.hook 1 (.op (some 23) (.w (.call 5 []))
    (.op (some 24) (.p (.not (.tmp 23)))
    (.ite (.tmp 24)
      (.hook 2 (.op (some 4) (.p (.mv (.const (.bool false))))
      .ret))
      .done))))
  (.sq 3
    (.hook 3 (.op (some 25) (.p (.mv (.tmp 0)))
    (.op (some 26) (.w (.call 6 [(.tmp 25)]))
    (.op (some 27) (.p (.not (.tmp 26)))
    (.op (some 28) (.p (.mv (.tmp 27)))
    (.g 28 false (some 29) (.p (.mv (.tmp 0)))
    (.g 28 false (some 30) (.p (.lenr (.tmp 29)))
    (.g 28 false (some 31) (.p (.bin .eql (.tmp 30) (.const (.int .i64 0))))
    (.op (some 32) (.p (.pick (.tmp 28) (.const (.bool true)) (.tmp 31)))
    (.ite (.tmp 32)
      (.hook 4 (.op (some 4) (.p (.mv (.const (.bool true))))
      .ret))
      .done))))))))))
  (.hook 5 (.op (some 33) (.p (.build [(.slice none 0 0), (.slice none 0 0), (.slice none 0 0), (.slice none 0 0), (.slice none 0 0), (.slice none 0 0), (.slice none 0 0), (.slice none 0 0), (.slice none 0 0), (.slice none 0 0), (.slice none 0 0), (.slice none 0 0), (.slice none 0 0), (.slice none 0 0), (.slice none 0 0), (.slice none 0 0)] []))
  (.op (some 5) (.w (.alloc 16 [(.slice none 0 0), (.slice none 0 0), (.slice none 0 0), (.slice none 0 0), (.slice none 0 0), (.slice none 0 0), (.slice none 0 0), (.slice none 0 0), (.slice none 0 0), (.slice none 0 0), (.slice none 0 0), (.slice none 0 0), (.slice none 0 0), (.slice none 0 0), (.slice none 0 0), (.slice none 0 0)]))
  (.op none (.w (.st true 16 (.tmp 5) (.tmp 33)))
  (.hook 6 (.op (some 34) (.p (.mv (.tmp 0)))
  (.op (some 35) (.w (.call 7 [(.tmp 5), (.tmp 34)]))
  (.op (some 6) (.p (.mv (.tmp 35)))
  (.hook 7 (.op (some 37) (.p (.mv (.tmp 6)))
  (.op (some 38) (.p (.iad 5 (.tmp 37) (.const (.int .i64 0))))
  (.op (some 39) (.r (.ld true 5 (.tmp 38)))
  (.op (some 40) (.w (.call 8 [(.tmp 39)]))
  (.op (some 36) (.p (.mv (.tmp 40)))
  (.op (some 41) (.p (.ext (.tmp 36) 0))
  (.op (some 42) (.p (.ext (.tmp 36) 1))
  (.op (some 7) (.p (.mv (.tmp 41)))
  (.op (some 8) (.p (.mv (.tmp 42)))
  (.hook 8 (.op (some 44) (.p (.mv (.tmp 6)))
  (.op (some 45) (.p (.iad 5 (.tmp 44) (.const (.int .i64 0))))
  (.op (some 46) (.r (.ld true 5 (.tmp 45)))
  (.op (some 47) (.p (.mv (.tmp 1)))
  (.op (some 48) (.w (.call 9 [(.tmp 46), (.tmp 47)]))
  (.op (some 43) (.p (.mv (.tmp 48)))
  (.op (some 49) (.p (.ext (.tmp 43) 0))
  (.op (some 50) (.p (.ext (.tmp 43) 1))
  (.op (some 9) (.p (.mv (.tmp 49)))
  (.op (some 10) (.p (.mv (.tmp 50)))
  (.hook 9 (.op (some 52) (.p (.mv (.tmp 6)))
  (.op (some 53) (.w (.call 10 [(.tmp 52)]))
  (.op (some 51) (.p (.mv (.tmp 53)))
  (.op (some 54) (.p (.ext (.tmp 51) 0))
  (.op (some 55) (.p (.ext (.tmp 51) 1))
  (.op (some 11) (.p (.mv (.tmp 54)))
  (.op (some 12) (.p (.mv (.tmp 55)))
  (.hook 10 (.op (some 57) (.p (.mv (.tmp 6)))
  (.op (some 58) (.p (.iad 5 (.tmp 57) (.const (.int .i64 0))))
  (.op (some 59) (.r (.ld true 5 (.tmp 58)))
  (.op (some 60) (.w (.call 11 [(.tmp 59)]))
  (.op (some 56) (.p (.mv (.tmp 60)))
  (.op (some 61) (.p (.ext (.tmp 56) 0))
  (.op (some 62) (.p (.ext (.tmp 56) 1))
  (.op (some 13) (.p (.mv (.tmp 61)))
  (.op (some 14) (.p (.mv (.tmp 62)))
  (.sq 11
    (.hook 11 (.op (some 63) (.p (.mv (.tmp 6)))
    (.op (some 64) (.p (.mv (.tmp 0)))
    (.op (some 65) (.w (.call 12 [(.tmp 63), (.tmp 64)]))
    (.op (some 66) (.p (.not (.tmp 65)))
    (.op (some 67) (.p (.mv (.tmp 66)))
    (.g 67 false (some 68) (.w (.call 13 [(.tmp 5)]))
    (.g 67 false (some 69) (.p (.not (.tmp 68)))
    (.op (some 70) (.p (.pick (.tmp 67) (.const (.bool true)) (.tmp 69)))
    (.ite (.tmp 70)
      (.hook 12 (.op (some 4) (.p (.mv (.const (.bool false))))
      .ret))
      .done))))))))))
  (.hook 13 (.op (some 72) (.p (.mv (.tmp 0)))
  (.op (some 73) (.p (.iad 5 (.tmp 72) (.const (.int .i64 0))))
  (.op (some 74) (.r (.ld true 5 (.tmp 73)))
  (.op (some 75) (.w (.call 14 [(.tmp 74)]))
  (.op (some 71) (.p (.mv (.tmp 75)))
  (.op (some 76) (.p (.ext (.tmp 71) 0))
  (.op (some 77) (.p (.ext (.tmp 71) 1))
  (.op (some 15) (.p (.mv (.tmp 76)))
  (.op (some 16) (.p (.mv (.tmp 77)))
  (.hook 14 (.op (some 79) (.p (.mv (.tmp 0)))
  (.op (some 80) (.p (.iad 5 (.tmp 79) (.const (.int .i64 0))))
  (.op (some 81) (.r (.ld true 5 (.tmp 80)))
  (.op (some 82) (.p (.mv (.tmp 1)))
  (.op (some 83) (.w (.call 15 [(.tmp 81), (.tmp 82)]))
  (.op (some 78) (.p (.mv (.tmp 83)))
  (.op (some 84) (.p (.ext (.tmp 78) 0))
  (.op (some 85) (.p (.ext (.tmp 78) 1))
  (.op (some 17) (.p (.mv (.tmp 84)))
  (.op (some 18) (.p (.mv (.tmp 85)))
  (.hook 15 (.op (some 87) (.p (.mv (.tmp 0)))
  (.op (some 88) (.w (.call 16 [(.tmp 87)]))
  (.op (some 86) (.p (.mv (.tmp 88)))
  (.op (some 89) (.p (.ext (.tmp 86) 0))
  (.op (some 90) (.p (.ext (.tmp 86) 1))
  (.op (some 19) (.p (.mv (.tmp 89)))
  (.op (some 20) (.p (.mv (.tmp 90)))
  (.hook 16 (.op (some 91) (.p (.mv (.tmp 6)))
  (.op (some 92) (.p (.build [(.int .i64 0), (.string ⟨#[]⟩), (.string ⟨#[]⟩), (.slice none 0 0), (.slice none 0 0)] [(0, (1, (false, (.const (.int .i64 4))))), (2, (1, (false, (.const (.string ⟨#[119, 114, 105, 116, 116, 101, 110, 32, 111, 118, 101, 114]⟩)))))]))
  (.op (some 93) (.p (.iad 5 (.tmp 91) (.const (.int .i64 0))))
  (.op none (.w (.st true 5 (.tmp 93) (.tmp 92)))
  (.hook 17 (.op (some 95) (.p (.mv (.tmp 6)))
  (.op (some 96) (.p (.slc 5 (.tmp 95) none (some (.const (.int .i64 1))) none))
  (.op (some 97) (.w (.call 10 [(.tmp 96)]))
  (.op (some 94) (.p (.mv (.tmp 97)))
  (.op (some 98) (.p (.ext (.tmp 94) 0))
  (.op (some 99) (.p (.ext (.tmp 94) 1))
  (.op (some 21) (.p (.mv (.tmp 98)))
  (.op (some 22) (.p (.mv (.tmp 99)))
  (.hook 18 (.op (some 100) (.p (.mv (.tmp 7)))
  (.op (some 101) (.p (.mv (.tmp 15)))
  (.op (some 102) (.p (.bin .eql (.tmp 100) (.tmp 101)))
  (.op (some 103) (.p (.mv (.tmp 102)))
  (.g 103 true (some 104) (.p (.mv (.tmp 9)))
  (.g 103 true (some 105) (.p (.mv (.tmp 17)))
  (.g 103 true (some 106) (.p (.bin .eql (.tmp 104) (.tmp 105)))
  (.op (some 107) (.p (.pick (.tmp 103) (.tmp 106) (.const (.bool false))))
  (.op (some 108) (.p (.mv (.tmp 107)))
  (.g 108 true (some 109) (.p (.mv (.tmp 11)))
  (.g 108 true (some 110) (.p (.mv (.tmp 19)))
  (.g 108 true (some 111) (.p (.bin .eql (.tmp 109) (.tmp 110)))
  (.op (some 112) (.p (.pick (.tmp 108) (.tmp 111) (.const (.bool false))))
  (.op (some 113) (.p (.mv (.tmp 112)))
  (.g 113 true (some 114) (.p (.mv (.tmp 13)))
  (.g 113 true (some 115) (.p (.mv (.tmp 15)))
  (.g 113 true (some 116) (.p (.lens (.tmp 115)))
  (.g 113 true (some 117) (.p (.bin .eql (.tmp 114) (.tmp 116)))
  (.op (some 118) (.p (.pick (.tmp 113) (.tmp 117) (.const (.bool false))))
  (.op (some 119) (.p (.mv (.tmp 118)))
  (.g 119 true (some 120) (.p (.mv (.tmp 21)))
  (.g 119 true (some 121) (.p (.bin .eql (.tmp 120) (.const (.string ⟨#[34, 119, 114, 105, 116, 116, 101, 110, 32, 111, 118, 101, 114, 34, 10]⟩))))
  (.op (some 122) (.p (.pick (.tmp 119) (.tmp 121) (.const (.bool false))))
  (.op (some 4) (.p (.mv (.tmp 122)))
  .ret))))))))))))))))))))))))))))))))))))))))))))))))))))))))))))))))))))))))))))))))))))))))))))))))))))))))))))))))))))))))
theorem k3 : compF Tryz.prog 3 = some (c3, [(.t 4)], 123) := by kernel_rfl
theorem lnr_keys (h : Hp) : ∀ l : List (List UInt8), LnR h (l.map keyC) (l.map keyC)
  | [] => .nil
  | _ :: r => .cons _ _ _ _ (.cons _ _ _ _ (.v _) .nil) (lnr_keys h r)
mutual
theorem lnl_cells (h : Hp) : ∀ v : JV, LnL h v.cells v.cells
  | .mk k n t is ks => by
    rw [JV.cells]
    exact .cons _ _ _ _ (.v _) (.cons _ _ _ _ (.v _) (.cons _ _ _ _ (.v _) (.cons _ _ _ _ (.row _ _ _ (lnr_cellsL h is)) (.cons _ _ _ _ (.row _ _ _ (lnr_keys h ks)) .nil))))
theorem lnr_cellsL (h : Hp) : ∀ l : List JV, LnR h (cellsL l) (cellsL l)
  | [] => by rw [cellsL]; exact .nil
  | x :: r => by rw [cellsL]; exact .cons _ _ _ _ (lnl_cells h x) (lnr_cellsL h r)
end
theorem lnr_cells (h : Hp) (l : List JV) : LnR h (l.map JV.cells) (l.map JV.cells) := by rw [← cellsL_map]; exact lnr_cellsL h l
theorem lnr_slR (h : Hp) : ∀ S : List (List (List UInt8)), LnR h (S.map slR) (S.map slR)
  | [] => .nil
  | _ :: r => .cons _ _ _ _ (.cons _ _ _ _ (.row _ _ _ (lnr_keys h _)) .nil) (lnr_slR h r)
theorem lnr_vlR (h : Hp) {e e2 : List V} (he : LnL h e e2) : ∀ W : List (List JV), LnR h (W.map vlR ++ [e]) (W.map vlR ++ [e2])
  | [] => .cons _ _ _ _ he .nil
  | _ :: r => .cons _ _ _ _ (.cons _ _ _ _ (.row _ _ _ (lnr_cells h _)) .nil) (lnr_vlR h he r)
theorem lkept_calls (kh ks kv k : Nat) (S : List (List (List UInt8))) (W : List (List JV)) (l : List JV) (h : Hp) (hS : S.length < 2 ^ 41) (hW : W.length < 2 ^ 41) (sS : Sm S) (sW : Sm W) (hl : l.length < 2 ^ 40) :
    VCalls Tryz.prog 13 [.ptr 16 kh 0 0] (lnO kh ks kv k (l.length + 16) S W ((k, .blk 5 ((l ++ mkV 16).map JV.cells)) :: h)) (fun r h' => r = vbool true ∧ h' = lnO kh ks kv k (l.length + 16) S W ((k, .blk 5 ((l ++ mkV 16).map JV.cells)) :: h)) := by
  have hSl : (S.map slR).length = S.length := List.length_map _
  have hWl : (W.map vlR ++ [[V.osl 5 k 0 (l.length + 16)]]).length = W.length + 1 := by simp
  have hlj : ((l ++ mkV 16).map JV.cells).length = l.length + 16 := by simp [mkV_len]
  unfold lnO
  refine xc k13 rfl ?_
  refine run ?_
  refine VCalls.use (VCalls.lend (args2 := [.row 1 (S.map slR)]) (Q := fun r => r = vbool true) ?_ ?_ ((keptS_calls S _ hS sS).imp fun _ _ h => h.1)) ?_
  · refine .cons _ _ _ _ (.osl 1 ks 0 S.length (S.map slR) _ (by simp) ?_ (by omega)) .nil
    rw [List.drop_zero, List.take_of_length_le (by omega)]
    exact lnr_slR _ S
  · rintro _ rfl; exact .v _
  rintro _ _ ⟨rfl, rfl⟩
  refine run ?_
  refine VCalls.use (keptBools_nil _) ?_
  rintro _ _ ⟨rfl, rfl⟩
  refine run ?_
  refine VCalls.use (keptInts_nil _) ?_
  rintro _ _ ⟨rfl, rfl⟩
  refine run ?_
  refine VCalls.use (keptBytes_nil _) ?_
  rintro _ _ ⟨rfl, rfl⟩
  refine run ?_
  refine VCalls.use (VCalls.lend (args2 := [.row 1 ((W ++ [l]).map vlR)]) (Q := fun r => r = vbool true) ?_ ?_ ((keptV_calls (W ++ [l]) _ (by simp; omega) (sW.add hl)).imp fun _ _ h => h.1)) ?_
  · refine .cons _ _ _ _ (.osl 1 kv 0 (W.length + 1) (W.map vlR ++ [[.osl 5 k 0 (l.length + 16)]]) _ (by simp) ?_ (by omega)) .nil
    have e : (W ++ [l]).map vlR = W.map vlR ++ [[.row 5 ((l ++ mkV 16).map JV.cells)]] := by simp [vlR]
    rw [List.drop_zero, List.take_of_length_le (by omega), e]
    refine lnr_vlR _ (.cons _ _ _ _ (.osl 5 k 0 (l.length + 16) ((l ++ mkV 16).map JV.cells) _ (.tail _ (.tail _ (.tail _ (.head _)))) ?_ (by omega)) .nil) W
    rw [List.drop_zero, List.take_of_length_le (by omega)]
    exact lnr_cells _ _
  · rintro _ rfl; exact .v _
  rintro _ _ ⟨rfl, rfl⟩
  refine run ?_
  refine VCalls.use (keptTokens_nil _) ?_
  rintro _ _ ⟨rfl, rfl⟩
  refine run ?_
  refine VCalls.use (keptSpans_nil _) ?_
  rintro _ _ ⟨rfl, rfl⟩
  refine run ?_
  refine VCalls.use (keptArrs_nil _) ?_
  rintro _ _ ⟨rfl, rfl⟩
  refine run ?_
  refine VCalls.use (keptObjs_nil _) ?_
  rintro _ _ ⟨rfl, rfl⟩
  refine run ?_
  refine VCalls.use (keptTypes_nil _) ?_
  rintro _ _ ⟨rfl, rfl⟩
  refine run ?_
  refine VCalls.use (keptNodes_nil _) ?_
  rintro _ _ ⟨rfl, rfl⟩
  refine run ?_
  refine VCalls.use (keptResults_nil _) ?_
  rintro _ _ ⟨rfl, rfl⟩
  refine run ?_
  refine VCalls.use (keptTypeds_nil _) ?_
  rintro _ _ ⟨rfl, rfl⟩
  refine run ?_
  refine VCalls.use (keptCodes_nil _) ?_
  rintro _ _ ⟨rfl, rfl⟩
  refine run ?_
  refine VCalls.use (keptReasons_nil _) ?_
  rintro _ _ ⟨rfl, rfl⟩
  refine run ?_
  refine VCalls.use (keptVerdicts_nil _) ?_
  rintro _ _ ⟨rfl, rfl⟩
  refine run ?_
  exact retv ⟨rfl, rfl⟩
/-- What is written over the first value. -/
def woJ : JV := .mk 4 [] [119, 114, 105, 116, 116, 101, 110, 32, 111, 118, 101, 114] [] []
theorem wo_lines : linesV [woJ] = .tup [vstr [34, 119, 114, 105, 116, 116, 101, 110, 32, 111, 118, 101, 114, 34, 10], int 0] := by
  have h1 : fmd woJ = true := by decide +kernel
  have h2 : write woJ 0 (-1) = [34, 119, 114, 105, 116, 116, 101, 110, 32, 111, 118, 101, 114, 34] := by decide +kernel
  simp [linesV, fmdL, linesL, h1, h2]
theorem tabs_of {h : Hp} (ht : Tabs h) : Tabs (tabsOf h) := by
  obtain ⟨k0, k1, h0, h1⟩ := ht
  refine ⟨k0, k1, ?_, ?_⟩
  · clear h1
    induction h with
    | nil => cases h0
    | cons x r ih =>
      obtain ⟨k, c⟩ := x
      rcases List.mem_cons.1 h0 with e | e
      · cases e; simp [tabsOf]
      · have := ih e
        cases c <;> simp [tabsOf, this]
  · clear h0
    induction h with
    | nil => cases h1
    | cons x r ih =>
      obtain ⟨k, c⟩ := x
      rcases List.mem_cons.1 h1 with e | e
      · cases e; simp [tabsOf]
      · have := ih e
        cases c <;> simp [tabsOf, this]
theorem lines_lt (l : List JV) : Lt (linesV l) := by
  unfold linesV
  split <;> exact .tup _ (.cons _ _ (.v _) (.cons _ _ (.v _) .nil))
theorem set0_take {α : Type} {xs : List α} {e : α} (hl : 0 < xs.length) : ((xs.set 0 e).drop 0).take 1 = [e] := by
  cases xs with
  | nil => cases hl
  | cons x r => rfl
theorem rot3 {x y z : Nat × HO} {h : Hp} : (z :: x :: y :: h).Perm (x :: y :: z :: h) := (List.Perm.swap _ _ _).trans ((List.Perm.swap _ _ _).cons _)
theorem ln_in {h : Hp} {k : Nat} {l : List JV} (hm : (k, HO.blk 5 ((l ++ mkV 16).map JV.cells)) ∈ h) : Ln h (.osl 5 k 0 l.length) (.row 5 (l.map JV.cells)) := by
  refine .osl 5 k 0 l.length _ _ hm ?_ (by simp)
  have e : (((l ++ mkV 16).map JV.cells).drop 0).take l.length = l.map JV.cells := by
    rw [List.drop_zero, List.map_append, List.take_append_of_le_length (by simp), List.take_of_length_le (by simp)]
  rw [e]
  exact lnr_cells _ _
theorem textV_ex (v : JV) : ∃ s c, textV v (-1) = .tup [vstr s, int c] ∧ sizeV v = .tup [int s.length, int c] := by
  unfold textV sizeV
  split
  · exact ⟨_, 0, rfl, rfl⟩
  · exact ⟨[], 1, rfl, rfl⟩
theorem laidV_ex (v : JV) (st : Int) : ∃ s c, laidV v st = .tup [vstr s, int c] := by
  unfold laidV textV
  split
  · exact ⟨[], 2, rfl⟩
  split
  · exact ⟨_, 0, rfl⟩
  · exact ⟨[], 1, rfl⟩
theorem linesV_ex (l : List JV) : ∃ s c, linesV l = .tup [vstr s, int c] := by
  unfold linesV
  split
  · exact ⟨_, 0, rfl⟩
  · exact ⟨[], 1, rfl⟩
set_option maxHeartbeats 1000000 in
theorem wkeeps_calls (l : List JV) (st : Int) (h : Hp) (ht : Tabs h) (hb : bkL l ≤ 2 ^ 21) : VCalls Tryz.prog 3 [.row 5 (l.map JV.cells), int st] h (fun r _ => r = vbool true) := by
  have hll := bkL_len l
  refine xc k3 rfl ?_
  refine run ?_
  refine VCalls.use (lives_calls _ ht) ?_
  rintro _ _ ⟨rfl, rfl⟩
  refine run ?_
  refine VCalls.use (fit_calls l (by omega) _) ?_
  rintro _ h ⟨⟨b, rfl⟩, rfl⟩
  cases b with
  | false =>
    refine run ?_
    exact retv rfl
  | true =>
    refine run ?_
    refine br_d (fun hl0 => ?_) (fun hl0 => ?_)
    · refine run ?_
      exact retv rfl
    have hl1 : 0 < l.length := by omega
    have hm0 := bk_mem (List.getElem_mem hl1)
    have hlj : ((l ++ mkV 16).map JV.cells).length = l.length + 16 := by simp [mkV_len]
    have hj0 : (l ++ mkV 16)[0]? = some l[0] := by rw [List.getElem?_append_left hl1, List.getElem?_eq_getElem hl1]
    refine run ?_
    refine new_k fun kh => ?_
    refine run ?_
    refine VCalls.name 1 22000 fun kv _ => VCalls.name 1 47000 fun ks _ => VCalls.perm rot3 ?_
    refine VCalls.vws (h2 := lnH kh ks kv [] [] h) (by unfold lnH; exact hrs) ?_
    refine VCalls.use (lvals_calls l (by omega) kh ks kv h) ?_
    rintro _ _ ⟨k, ks2, kv2, S2, W2, rfl, hS2, hW2, sS, sW, rfl⟩
    have ht2 := (((ht.cons (k, .blk 5 ((l ++ mkV 16).map JV.cells))).cons (kv2, .blk 1 (W2.map vlR ++ [[.osl 5 k 0 (l.length + 16)]]))).cons (ks2, .blk 1 (S2.map slR))).cons (kh, .blk 16 [[.osl 1 ks2 0 S2.length, vnil, vnil, vnil, .osl 1 kv2 0 (W2.length + 1), vnil, vnil, vnil, vnil, vnil, vnil, vnil, vnil, vnil, vnil, vnil]])
    obtain ⟨s1, c1, et, es⟩ := textV_ex l[0]
    obtain ⟨s2, c2, el⟩ := laidV_ex l[0] st
    obtain ⟨s3, c3, en⟩ := linesV_ex l
    unfold lnO
    refine run ?_
    refine at_jv_of hj0 ?_
    refine run ?_
    refine VCalls.use (wtext_calls l[0] _ ht2 (by omega)) ?_
    rintro _ _ ⟨rfl, rfl⟩
    rw [et]
    refine run ?_
    refine at_jv_of hj0 ?_
    refine run ?_
    refine VCalls.use (laid_calls l[0] st _ ht2 (by omega)) ?_
    rintro _ _ ⟨rfl, rfl⟩
    rw [el]
    refine run ?_
    refine VCalls.use (VCalls.lend (args2 := [.row 5 (l.map JV.cells)]) (Q := fun r => r = linesV l) ?_ (fun _ h => h ▸ lines_lt l) ((lines_calls l _ (tabs_of ht2) hb).imp fun _ _ h => h.1)) ?_
    · exact .cons _ _ _ _ (ln_in (.tail _ (.tail _ (.tail _ (.head _))))) .nil
    rintro _ _ ⟨rfl, rfl⟩
    rw [en]
    refine run ?_
    refine at_jv_of hj0 ?_
    refine run ?_
    refine VCalls.use (wsize_calls l[0] _ ht2 (by omega)) ?_
    rintro _ _ ⟨rfl, rfl⟩
    rw [es]
    refine run ?_
    refine VCalls.use (VCalls.lend (args2 := [.row 5 (l.map JV.cells), .row 5 (l.map JV.cells)]) (Q := fun r => r = vbool true) ?_ (fun _ h => h ▸ .v _) ((sameVs_calls l l (by omega) _).imp fun _ _ h => h.1.trans (by rw [decide_eq_true rfl]))) ?_
    · exact .cons _ _ _ _ (ln_in (.tail _ (.tail _ (.tail _ (.head _))))) (.cons _ _ _ _ (.row _ _ _ (lnr_cells _ _)) .nil)
    rintro _ _ ⟨rfl, rfl⟩
    refine run ?_
    refine VCalls.use (lkept_calls kh ks2 kv2 k S2 W2 l h hS2 hW2 sS sW (by omega)) ?_
    rintro _ _ ⟨rfl, rfl⟩
    refine run ?_
    refine at_jv hl1 ?_
    refine run ?_
    refine VCalls.use (rtext_calls l[0] _ (by omega)) ?_
    rintro _ _ ⟨rfl, rfl⟩
    rw [et]
    refine run ?_
    refine at_jv hl1 ?_
    refine run ?_
    refine VCalls.use (rlaid_calls l[0] st _ (by omega)) ?_
    rintro _ _ ⟨rfl, rfl⟩
    rw [el]
    refine run ?_
    refine VCalls.use (rlines_calls l _ hb) ?_
    rintro _ _ ⟨rfl, rfl⟩
    rw [en]
    unfold lnO
    refine run ?_
    refine at_jv_of hj0 ?_
    refine run ?_
    refine set_raw ?_
    refine run ?_
    refine VCalls.use (VCalls.lend (args2 := [.row 5 ([woJ].map JV.cells)]) (Q := fun r => r = linesV [woJ]) ?_ (fun _ h => h ▸ lines_lt _) ((lines_calls [woJ] _ (tabs_of ((((ht.cons (k, .blk 5 _)).cons (kv2, .blk 1 (W2.map vlR ++ [[.osl 5 k 0 (l.length + 16)]]))).cons (ks2, .blk 1 (S2.map slR))).cons (kh, .blk 16 [[.osl 1 ks2 0 S2.length, vnil, vnil, vnil, .osl 1 kv2 0 (W2.length + 1), vnil, vnil, vnil, vnil, vnil, vnil, vnil, vnil, vnil, vnil, vnil]]))) (by decide +kernel)).imp fun _ _ h => h.1)) ?_
    · refine .cons _ _ _ _ (.osl 5 k 0 1 _ _ (.tail _ (.tail _ (.tail _ (.head _)))) ?_ (by simp; omega)) .nil
      rw [set0_take (by omega)]
      refine .cons _ _ _ _ ?_ .nil
      exact .cons _ _ _ _ (.v _) (.cons _ _ _ _ (.v _) (.cons _ _ _ _ (.v _) (.cons _ _ _ _ (.nilrow _) (.cons _ _ _ _ (.nilrow _) .nil))))
    rintro _ _ ⟨rfl, rfl⟩
    rw [wo_lines]
    refine run ?_
    repeat' (first | (refine br_d (fun _ => ?_) (fun _ => ?_) <;> refine run ?_) | (refine br_nd (fun _ => ?_) (fun _ => ?_) <;> refine run ?_) | (refine Br.mk (fun _ => ?_) (fun _ => ?_) <;> refine run ?_) | (refine new_k fun _ => ?_; refine run ?_))
    all_goals ((exact retv (by simp_all [tupV])))
end Go.Proofs.YtpiicncihccheaaGreatDoor
