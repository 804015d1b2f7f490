/- Walks of the package writer: Text, Laid, Size, Lines. -/
import Derived.Test.YtpiicncihccheaaGreatDoorE4
import Derived.Test.YtpiicncihccheaaGreatDoorE3
namespace Go.Proofs.YtpiicncihccheaaGreatDoor
open Go.XW Go.XW.DU Go.Lib Go.XW.U
/- "hallmark/writer.Text" -/
def c8 : S :=
  (.hook 0 (.op (some 1) (.w (.box true 5 (.tmp 0)))
  (.op (some 2) (.p (.mv (.const (.string ⟨#[]⟩))))
  (.op (some 3) (.p (.mv (.const (.int .i64 0))))
  (.sq 1
    (.hook 1 (.op (some 5) (.r (.ld true 5 (.tmp 1)))
    (.op (some 6) (.w (.call 25 [(.tmp 5)]))
    (.op (some 7) (.p (.not (.tmp 6)))
    (.ite (.tmp 7)
      (.hook 2 (.op (some 2) (.p (.mv (.const (.string ⟨#[]⟩))))
      (.op (some 3) (.p (.mv (.const (.int .i64 1))))
      .ret)))
      .done)))))
  (.hook 3 (.op (some 8) (.p (.build [(.pointer none), (.slice none 0 0), (.int .i64 0)] [(2, (1, (false, (.const (.int .i64 (-1))))))]))
  (.op (some 9) (.x (.boxT 76003 true 3 (.tmp 8)))
  (.op (some 4) (.p (.mv (.tmp 9)))
  (.hook 4 (.op (some 10) (.p (.mv (.tmp 4)))
  (.op (some 11) (.r (.ld true 5 (.tmp 1)))
  (.op (some 12) (.w (.call 26 [(.tmp 10), (.tmp 11), (.const (.int .i64 0))]))
  (.hook 5 (.op (some 13) (.p (.mv (.tmp 4)))
  (.op (some 14) (.p (.nilc (.tmp 13)))
  (.op (some 15) (.p (.fad (.tmp 14) 0))
  (.op (some 16) (.w (.call 27 [(.tmp 15)]))
  (.op (some 2) (.p (.mv (.tmp 16)))
  (.op (some 3) (.p (.mv (.const (.int .i64 0))))
  .ret))))))))))))))))))))
theorem k8 : compF Tryz.prog 8 = some (c8, [(.t 2), (.t 3)], 17) := by kernel_rfl
/- "hallmark/writer.Laid" -/
def c9 : S :=
  (.hook 0 (.op (some 2) (.w (.box true 5 (.tmp 0)))
  (.op (some 4) (.p (.mv (.const (.string ⟨#[]⟩))))
  (.op (some 5) (.p (.mv (.const (.int .i64 0))))
  (.sq 1
    (.hook 1 (.op (some 7) (.p (.mv (.tmp 1)))
    (.op (some 8) (.p (.bin .lss (.tmp 7) (.const (.int .i64 0))))
    (.op (some 9) (.p (.mv (.tmp 8)))
    (.g 9 false (some 10) (.p (.mv (.tmp 1)))
    (.g 9 false (some 11) (.p (.bin .gtr (.tmp 10) (.const (.int .i64 8))))
    (.op (some 12) (.p (.pick (.tmp 9) (.const (.bool true)) (.tmp 11)))
    (.ite (.tmp 12)
      (.hook 2 (.op (some 4) (.p (.mv (.const (.string ⟨#[]⟩))))
      (.op (some 5) (.p (.mv (.const (.int .i64 2))))
      .ret)))
      .done))))))))
  (.sq 3
    (.hook 3 (.op (some 13) (.r (.ld true 5 (.tmp 2)))
    (.op (some 14) (.w (.call 25 [(.tmp 13)]))
    (.op (some 15) (.p (.not (.tmp 14)))
    (.ite (.tmp 15)
      (.hook 4 (.op (some 4) (.p (.mv (.const (.string ⟨#[]⟩))))
      (.op (some 5) (.p (.mv (.const (.int .i64 1))))
      .ret)))
      .done)))))
  (.hook 5 (.op (some 16) (.p (.mv (.tmp 1)))
  (.op (some 17) (.p (.build [(.pointer none), (.slice none 0 0), (.int .i64 0)] [(2, (1, (false, (.tmp 16))))]))
  (.op (some 18) (.x (.boxT 76003 true 3 (.tmp 17)))
  (.op (some 6) (.p (.mv (.tmp 18)))
  (.hook 6 (.op (some 19) (.p (.mv (.tmp 6)))
  (.op (some 20) (.r (.ld true 5 (.tmp 2)))
  (.op (some 21) (.w (.call 26 [(.tmp 19), (.tmp 20), (.const (.int .i64 0))]))
  (.hook 7 (.op (some 22) (.p (.mv (.tmp 6)))
  (.op (some 23) (.p (.nilc (.tmp 22)))
  (.op (some 24) (.p (.fad (.tmp 23) 0))
  (.op (some 25) (.w (.call 27 [(.tmp 24)]))
  (.op (some 4) (.p (.mv (.tmp 25)))
  (.op (some 5) (.p (.mv (.const (.int .i64 0))))
  .ret))))))))))))))))))))))
theorem k9 : compF Tryz.prog 9 = some (c9, [(.t 4), (.t 5)], 26) := by kernel_rfl
/- "hallmark/writer.Size" -/
def c11 : S :=
  (.hook 0 (.op (some 1) (.w (.box true 5 (.tmp 0)))
  (.op (some 2) (.p (.mv (.const (.int .i64 0))))
  (.op (some 3) (.p (.mv (.const (.int .i64 0))))
  (.hook 1 (.op (some 7) (.r (.ld true 5 (.tmp 1)))
  (.op (some 8) (.w (.call 8 [(.tmp 7)]))
  (.op (some 6) (.p (.mv (.tmp 8)))
  (.op (some 9) (.p (.ext (.tmp 6) 0))
  (.op (some 10) (.p (.ext (.tmp 6) 1))
  (.op (some 4) (.p (.mv (.tmp 9)))
  (.op (some 5) (.p (.mv (.tmp 10)))
  (.hook 2 (.op (some 11) (.p (.mv (.tmp 4)))
  (.op (some 12) (.p (.lens (.tmp 11)))
  (.op (some 13) (.p (.mv (.tmp 5)))
  (.op (some 2) (.p (.mv (.tmp 12)))
  (.op (some 3) (.p (.mv (.tmp 13)))
  .ret))))))))))))))))))
theorem k11 : compF Tryz.prog 11 = some (c11, [(.t 2), (.t 3)], 14) := by kernel_rfl
/- "hallmark/writer.Lines" -/
def c10 : S :=
  (.hook 0 (.op (some 2) (.p (.mv (.const (.string ⟨#[]⟩))))
  (.op (some 3) (.p (.mv (.const (.int .i64 0))))
  (.hook 1 (.op (some 9) (.p (.build [(.pointer none), (.slice none 0 0)] []))
  (.op (some 4) (.x (.allocT 74002 2 [(.pointer none), (.slice none 0 0)]))
  (.op none (.w (.st true 2 (.tmp 4) (.tmp 9)))
  (.sq 2
    (.hook 2 (.op (some 10) (.p (.mv (.tmp 0)))
    (.op (some 11) (.p (.lenr (.tmp 10)))
    (.op (some 12) (.p (.mv (.const (.int .i64 0))))
    (.block 0
      (.loop
        (.hook 3 (.op (some 13) (.p (.bin .lss (.tmp 12) (.tmp 11)))
        (.sq 0
          (.ite (.tmp 13)
            .done
            (.exit 0))
        (.sq 4
          (.block 1
            (.hook 4 (.op (some 14) (.p (.iad 5 (.tmp 10) (.tmp 12)))
            (.op (some 15) (.r (.ld true 5 (.tmp 14)))
            (.op (some 6) (.w (.alloc 5 [(.int .i64 0), (.string ⟨#[]⟩), (.string ⟨#[]⟩), (.slice none 0 0), (.slice none 0 0)]))
            (.op none (.w (.st true 5 (.tmp 6) (.tmp 15)))
            (.hook 5 (.op (some 17) (.r (.ld true 5 (.tmp 6)))
            (.op (some 18) (.w (.call 8 [(.tmp 17)]))
            (.op (some 16) (.p (.mv (.tmp 18)))
            (.op (some 19) (.p (.ext (.tmp 16) 0))
            (.op (some 20) (.p (.ext (.tmp 16) 1))
            (.op (some 7) (.p (.mv (.tmp 19)))
            (.op (some 8) (.p (.mv (.tmp 20)))
            (.sq 6
              (.hook 6 (.op (some 21) (.p (.mv (.tmp 8)))
              (.op (some 22) (.p (.bin .neq (.tmp 21) (.const (.int .i64 0))))
              (.ite (.tmp 22)
                (.hook 7 (.op (some 23) (.p (.mv (.tmp 8)))
                (.op (some 2) (.p (.mv (.const (.string ⟨#[]⟩))))
                (.op (some 3) (.p (.mv (.tmp 23)))
                .ret))))
                .done))))
            (.hook 8 (.op (some 24) (.p (.mv (.tmp 7)))
            (.op (some 25) (.w (.call 28 [(.tmp 4), (.tmp 24)]))
            (.hook 9 (.op (some 26) (.w (.call 29 [(.tmp 4), (.const (.int .u8 10))]))
            .done))))))))))))))))))))
        (.hook 10 (.op (some 27) (.p (.bin .add (.tmp 12) (.const (.int .i64 1))))
        (.op (some 12) (.p (.mv (.tmp 27)))
        .done)))))))))))))
  (.hook 11 (.op (some 28) (.w (.call 27 [(.tmp 4)]))
  (.op (some 2) (.p (.mv (.tmp 28)))
  (.op (some 3) (.p (.mv (.const (.int .i64 0))))
  .ret))))))))))))
theorem k10 : compF Tryz.prog 10 = some (c10, [(.t 2), (.t 3)], 29) := by kernel_rfl


theorem write_pos (v : JV) (hf : fmd v = true) (d st : Int) : 0 < (write v d st).length := by
  have hG := fmd_get hf
  have := hG.k0; have := hG.k6
  by_cases h5 : v.kind < 5
  · rw [write_word h5]
    unfold wordL
    split; simp
    split; simp
    split; simp
    split
    · rename_i h3
      rw [fmd_eq] at hf
      simp only [Bool.and_eq_true] at hf
      have := hf.1.1.1.1.1.2
      rw [if_pos h3] at this
      exact List.length_pos_iff.2 (fun he => by rw [he] at this; cases this)
    · simp [quote]
  · by_cases h6 : v.kind = 5
    · rw [write_arr h6]; simp [itemsL]
    · rw [write_obj (by omega)]; simp [itemsL]
theorem wtext_calls (v : JV) (h : Hp) (ht : Tabs h) (hb : v.bk ≤ 2 ^ 21) : VCalls Tryz.prog 8 [.agg v.c5] h (fun r h' => r = textV v (-1) ∧ h' = h) := by
  refine VCalls.name 1 5000 fun kb hkb => ?_
  refine xc k8 rfl ?_
  refine run ?_
  refine new_k fun k1 => ?_
  refine run ?_
  refine VCalls.use (vformed_calls v (by omega) _ ((ht.cons _).cons _)) ?_
  rintro _ _ ⟨rfl, rfl⟩
  refine run ?_
  cases hf : fmd v with
  | false =>
    refine run ?_
    exact ret1 (ret1 (retv ⟨by simp [textV, hf]; rfl, rfl⟩))
  | true =>
    refine run ?_
    refine new_t fun kp hkp => ?_
    refine run ?_
    have hwb := write_bound (st := -1) (by omega) v (d := 0) (by omega) (by omega)
    refine VCalls.perm (List.Perm.cons _ (List.Perm.swap _ _ _)) ?_
    refine VCalls.fresh 3 ?_
    refine VCalls.use (pvalue_calls v hf [] (-1) 0 _ ⟨hkp, by decide, by kernel_rfl, hkb, by omega⟩ (.inl rfl) (by omega) (by omega) (by omega) (by simp; omega)) ?_
    rintro _ _ ⟨A2, kb2, hn2, hA2, rfl⟩
    refine run ?_
    refine VCalls.use (string_calls hn2 A2 _ _ _ (by simpa using write_pos v hf 0 (-1)) (by simp; omega)) ?_
    rintro _ _ ⟨rfl, rfl⟩
    refine run ?_
    exact ret1 (ret1 (retv ⟨by simp [textV, hf]; rfl, rfl⟩))
theorem laid_calls (v : JV) (st : Int) (h : Hp) (ht : Tabs h) (hb : v.bk ≤ 2 ^ 21) : VCalls Tryz.prog 9 [.agg v.c5, int st] h (fun r h' => r = laidV v st ∧ h' = h) := by
  refine VCalls.name 1 5000 fun kb hkb => ?_
  refine xc k9 rfl ?_
  refine run ?_
  refine new_k fun k1 => ?_
  refine run ?_
  refine br_d (fun hs0 => ?_) (fun hs0 => ?_)
  · refine run ?_
    exact ret1 (ret1 (retv ⟨by simp [laidV, hs0]; rfl, rfl⟩))
  refine run ?_
  refine br_d (fun hs8 => ?_) (fun hs8 => ?_)
  · refine run ?_
    exact ret1 (ret1 (retv ⟨by simp [laidV, hs8]; rfl, rfl⟩))
  refine run ?_
  refine VCalls.use (vformed_calls v (by omega) _ ((ht.cons _).cons _)) ?_
  rintro _ _ ⟨rfl, rfl⟩
  refine run ?_
  cases hf : fmd v with
  | false =>
    refine run ?_
    exact ret1 (ret1 (retv ⟨by simp [laidV, hs0, hs8, textV, hf]; rfl, rfl⟩))
  | true =>
    refine run ?_
    refine new_t fun kp hkp => ?_
    refine run ?_
    have hwb := write_bound (st := st) (by omega) v (d := 0) (by omega) (by omega)
    refine VCalls.perm (List.Perm.cons _ (List.Perm.swap _ _ _)) ?_
    refine VCalls.fresh 3 ?_
    refine VCalls.use (pvalue_calls v hf [] st 0 _ ⟨hkp, by decide, by kernel_rfl, hkb, by omega⟩ (.inl rfl) (by omega) (by omega) (by omega) (by simp; omega)) ?_
    rintro _ _ ⟨A2, kb2, hn2, hA2, rfl⟩
    refine run ?_
    refine VCalls.use (string_calls hn2 A2 _ _ _ (by simpa using write_pos v hf 0 st) (by simp; omega)) ?_
    rintro _ _ ⟨rfl, rfl⟩
    refine run ?_
    exact ret1 (ret1 (retv ⟨by simp [laidV, hs0, hs8, textV, hf]; rfl, rfl⟩))
def sizeV (v : JV) : V := if fmd v then .tup [int (write v 0 (-1)).length, int 0] else .tup [int 0, int 1]
theorem wsize_calls (v : JV) (h : Hp) (ht : Tabs h) (hb : v.bk ≤ 2 ^ 21) : VCalls Tryz.prog 11 [.agg v.c5] h (fun r h' => r = sizeV v ∧ h' = h) := by
  refine xc k11 rfl ?_
  refine run ?_
  refine new_k fun k1 => ?_
  refine run ?_
  refine VCalls.use (wtext_calls v _ (ht.cons _) hb) ?_
  rintro _ _ ⟨rfl, rfl⟩
  refine run ?_
  unfold textV sizeV
  cases hf : fmd v with
  | false =>
    refine run ?_
    exact ret1 (retv ⟨rfl, rfl⟩)
  | true =>
    refine run ?_
    exact ret1 (retv ⟨rfl, rfl⟩)
end Go.Proofs.YtpiicncihccheaaGreatDoor
