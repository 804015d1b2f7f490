/- Walks of what a loan lends: the marks, and rows held against each other. -/
import Derived.Test.YtpiicncihccheaaGreatDoorE7
import Derived.Test.YtpiicncihccheaaGreatDoorXI
namespace Go.Proofs.YtpiicncihccheaaGreatDoor
open Go.XW Go.XW.DU Go.Lib Go.XW.U
/- "hallmark/hallmarkkit.word" -/
def c56 : S :=
  (.hook 0 (.op (some 4) (.p (.mv (.const (.string ⟨#[]⟩))))
  (.hook 1 (.op (some 5) (.p (.mv (.tmp 0)))
  (.op (some 6) (.p (.toInt .u8 (.tmp 5)))
  (.op (some 7) (.p (.mv (.tmp 0)))
  (.op (some 8) (.p (.bin .shr (.tmp 7) (.const (.int .u64 8))))
  (.op (some 9) (.p (.toInt .u8 (.tmp 8)))
  (.op (some 10) (.p (.mv (.tmp 0)))
  (.op (some 11) (.p (.bin .shr (.tmp 10) (.const (.int .u64 16))))
  (.op (some 12) (.p (.toInt .u8 (.tmp 11)))
  (.op (some 13) (.p (.mv (.tmp 1)))
  (.op (some 14) (.p (.toInt .u8 (.tmp 13)))
  (.op (some 15) (.p (.mv (.tmp 1)))
  (.op (some 16) (.p (.bin .shr (.tmp 15) (.const (.int .u64 8))))
  (.op (some 17) (.p (.toInt .u8 (.tmp 16)))
  (.op (some 18) (.p (.mv (.tmp 1)))
  (.op (some 19) (.p (.bin .shr (.tmp 18) (.const (.int .u64 16))))
  (.op (some 20) (.p (.toInt .u8 (.tmp 19)))
  (.op (some 21) (.w (.lit true 1 8 [(.int .u8 0)] [(0, (1, (false, (.const (.int .u8 35))))), (1, (1, (false, (.tmp 6)))), (2, (1, (false, (.tmp 9)))), (3, (1, (false, (.tmp 12)))), (4, (1, (false, (.const (.int .u8 46))))), (5, (1, (false, (.tmp 14)))), (6, (1, (false, (.tmp 17)))), (7, (1, (false, (.tmp 20))))]))
  (.op (some 22) (.r (.txt (.tmp 21)))
  (.op (some 4) (.p (.mv (.tmp 22)))
  .ret))))))))))))))))))))))
theorem k56 : compF Tryz.prog 56 = some (c56, [(.t 4)], 23) := by kernel_rfl
/- "hallmark/hallmarkkit.markStrings" -/
def c67 : S :=
  (.hook 0 (.op (some 4) (.p (.mv (.const (.string ⟨#[]⟩))))
  (.hook 1 (.op (some 5) (.p (.mv (.tmp 0)))
  (.op (some 6) (.p (.mv (.tmp 1)))
  (.op (some 7) (.w (.call 56 [(.tmp 5), (.tmp 6)]))
  (.op (some 4) (.p (.mv (.tmp 7)))
  .ret)))))))
theorem k67 : compF Tryz.prog 67 = some (c67, [(.t 4)], 8) := by kernel_rfl
/- "hallmark/hallmarkkit.markValues" -/
def c24 : S :=
  (.hook 0 (.op (some 4) (.w (.alloc 5 [(.int .i64 0), (.string ⟨#[]⟩), (.string ⟨#[]⟩), (.slice none 0 0), (.slice none 0 0)]))
  (.hook 1 (.op (some 5) (.p (.mv (.tmp 0)))
  (.op (some 6) (.p (.bin .sub (.const (.int .i64 (-10))) (.tmp 5)))
  (.op (some 7) (.p (.mv (.tmp 0)))
  (.op (some 8) (.p (.mv (.tmp 1)))
  (.op (some 9) (.w (.call 56 [(.tmp 7), (.tmp 8)]))
  (.op (some 10) (.p (.build [(.int .i64 0), (.string ⟨#[]⟩), (.string ⟨#[]⟩), (.slice none 0 0), (.slice none 0 0)] [(0, (1, (false, (.tmp 6)))), (1, (1, (false, (.tmp 9))))]))
  (.op none (.w (.st true 5 (.tmp 4) (.tmp 10)))
  .ret))))))))))
theorem k24 : compF Tryz.prog 24 = some (c24, [(.c 4 true 5)], 11) := by kernel_rfl
/- "hallmark/hallmarkkit.SameValue" -/
def c30 : S :=
  (.hook 0 (.op (some 2) (.w (.box true 5 (.tmp 0)))
  (.op (some 3) (.w (.box true 5 (.tmp 1)))
  (.op (some 4) (.p (.mv (.const (.bool false))))
  (.sq 1
    (.hook 1 (.op (some 5) (.p (.fad (.tmp 2) 0))
    (.op (some 6) (.r (.ld false 1 (.tmp 5)))
    (.op (some 7) (.p (.fad (.tmp 3) 0))
    (.op (some 8) (.r (.ld false 1 (.tmp 7)))
    (.op (some 9) (.p (.bin .neq (.tmp 6) (.tmp 8)))
    (.op (some 10) (.p (.mv (.tmp 9)))
    (.g 10 false (some 11) (.p (.fad (.tmp 2) 1))
    (.g 10 false (some 12) (.r (.ld false 1 (.tmp 11)))
    (.g 10 false (some 13) (.p (.fad (.tmp 3) 1))
    (.g 10 false (some 14) (.r (.ld false 1 (.tmp 13)))
    (.g 10 false (some 15) (.p (.bin .neq (.tmp 12) (.tmp 14)))
    (.op (some 16) (.p (.pick (.tmp 10) (.const (.bool true)) (.tmp 15)))
    (.op (some 17) (.p (.mv (.tmp 16)))
    (.g 17 false (some 18) (.p (.fad (.tmp 2) 2))
    (.g 17 false (some 19) (.r (.ld false 1 (.tmp 18)))
    (.g 17 false (some 20) (.p (.fad (.tmp 3) 2))
    (.g 17 false (some 21) (.r (.ld false 1 (.tmp 20)))
    (.g 17 false (some 22) (.p (.bin .neq (.tmp 19) (.tmp 21)))
    (.op (some 23) (.p (.pick (.tmp 17) (.const (.bool true)) (.tmp 22)))
    (.ite (.tmp 23)
      (.hook 2 (.op (some 4) (.p (.mv (.const (.bool false))))
      .ret))
      .done)))))))))))))))))))))
  (.sq 3
    (.hook 3 (.op (some 24) (.p (.fad (.tmp 2) 3))
    (.op (some 25) (.r (.ld false 1 (.tmp 24)))
    (.op (some 26) (.p (.fad (.tmp 3) 3))
    (.op (some 27) (.r (.ld false 1 (.tmp 26)))
    (.op (some 28) (.w (.call 12 [(.tmp 25), (.tmp 27)]))
    (.op (some 29) (.p (.not (.tmp 28)))
    (.ite (.tmp 29)
      (.hook 4 (.op (some 4) (.p (.mv (.const (.bool false))))
      .ret))
      .done))))))))
  (.sq 5
    (.hook 5 (.op (some 30) (.p (.fad (.tmp 2) 4))
    (.op (some 31) (.r (.ld false 1 (.tmp 30)))
    (.op (some 32) (.p (.fad (.tmp 3) 4))
    (.op (some 33) (.r (.ld false 1 (.tmp 32)))
    (.op (some 34) (.w (.call 66 [(.tmp 31), (.tmp 33)]))
    (.op (some 35) (.p (.not (.tmp 34)))
    (.ite (.tmp 35)
      (.hook 6 (.op (some 4) (.p (.mv (.const (.bool false))))
      .ret))
      .done))))))))
  (.hook 7 (.op (some 4) (.p (.mv (.const (.bool true))))
  .ret)))))))))
theorem k30 : compF Tryz.prog 30 = some (c30, [(.t 4)], 36) := by kernel_rfl
/- "hallmark/hallmarkkit.SameValues" -/
def c12 : S :=
  (.hook 0 (.op (some 4) (.p (.mv (.const (.bool false))))
  (.sq 1
    (.hook 1 (.op (some 6) (.p (.mv (.tmp 0)))
    (.op (some 7) (.p (.lenr (.tmp 6)))
    (.op (some 8) (.p (.mv (.tmp 1)))
    (.op (some 9) (.p (.lenr (.tmp 8)))
    (.op (some 10) (.p (.bin .neq (.tmp 7) (.tmp 9)))
    (.ite (.tmp 10)
      (.hook 2 (.op (some 4) (.p (.mv (.const (.bool false))))
      .ret))
      .done)))))))
  (.sq 3
    (.hook 3 (.op (some 5) (.p (.mv (.const (.int .i64 0))))
    (.block 0
      (.loop
        (.sq 4
          (.hook 4 (.op (some 11) (.p (.mv (.tmp 5)))
          (.op (some 12) (.p (.mv (.tmp 0)))
          (.op (some 13) (.p (.lenr (.tmp 12)))
          (.op (some 14) (.p (.bin .lss (.tmp 11) (.tmp 13)))
          (.ite (.tmp 14)
            .done
            (.exit 0)))))))
        (.sq 6
          (.block 1
            (.hook 6 (.op (some 17) (.p (.mv (.tmp 0)))
            (.op (some 18) (.p (.mv (.tmp 5)))
            (.op (some 19) (.p (.iad 5 (.tmp 17) (.tmp 18)))
            (.op (some 20) (.r (.ld true 5 (.tmp 19)))
            (.op (some 21) (.p (.mv (.tmp 1)))
            (.op (some 22) (.p (.mv (.tmp 5)))
            (.op (some 23) (.p (.iad 5 (.tmp 21) (.tmp 22)))
            (.op (some 24) (.r (.ld true 5 (.tmp 23)))
            (.op (some 25) (.w (.call 30 [(.tmp 20), (.tmp 24)]))
            (.op (some 26) (.p (.not (.tmp 25)))
            (.ite (.tmp 26)
              (.hook 7 (.op (some 4) (.p (.mv (.const (.bool false))))
              .ret))
              .done)))))))))))))
        (.hook 5 (.op (some 15) (.p (.mv (.tmp 5)))
        (.op (some 16) (.p (.bin .add (.tmp 15) (.const (.int .i64 1))))
        (.op (some 5) (.p (.mv (.tmp 16)))
        .done))))))))))
  (.hook 8 (.op (some 4) (.p (.mv (.const (.bool true))))
  .ret))))))
theorem k12 : compF Tryz.prog 12 = some (c12, [(.t 4)], 27) := by kernel_rfl
/- "hallmark/hallmarkkit.SameStrings" -/
def c66 : S :=
  (.hook 0 (.op (some 4) (.p (.mv (.const (.bool false))))
  (.sq 1
    (.hook 1 (.op (some 6) (.p (.mv (.tmp 0)))
    (.op (some 7) (.p (.lenr (.tmp 6)))
    (.op (some 8) (.p (.mv (.tmp 1)))
    (.op (some 9) (.p (.lenr (.tmp 8)))
    (.op (some 10) (.p (.bin .neq (.tmp 7) (.tmp 9)))
    (.ite (.tmp 10)
      (.hook 2 (.op (some 4) (.p (.mv (.const (.bool false))))
      .ret))
      .done)))))))
  (.sq 3
    (.hook 3 (.op (some 5) (.p (.mv (.const (.int .i64 0))))
    (.block 0
      (.loop
        (.sq 4
          (.hook 4 (.op (some 11) (.p (.mv (.tmp 5)))
          (.op (some 12) (.p (.mv (.tmp 0)))
          (.op (some 13) (.p (.lenr (.tmp 12)))
          (.op (some 14) (.p (.bin .lss (.tmp 11) (.tmp 13)))
          (.ite (.tmp 14)
            .done
            (.exit 0)))))))
        (.sq 6
          (.block 1
            (.hook 6 (.op (some 17) (.p (.mv (.tmp 0)))
            (.op (some 18) (.p (.mv (.tmp 5)))
            (.op (some 19) (.p (.iad 1 (.tmp 17) (.tmp 18)))
            (.op (some 20) (.r (.ld false 1 (.tmp 19)))
            (.op (some 21) (.p (.mv (.tmp 1)))
            (.op (some 22) (.p (.mv (.tmp 5)))
            (.op (some 23) (.p (.iad 1 (.tmp 21) (.tmp 22)))
            (.op (some 24) (.r (.ld false 1 (.tmp 23)))
            (.op (some 25) (.p (.bin .neq (.tmp 20) (.tmp 24)))
            (.ite (.tmp 25)
              (.hook 7 (.op (some 4) (.p (.mv (.const (.bool false))))
              .ret))
              .done))))))))))))
        (.hook 5 (.op (some 15) (.p (.mv (.tmp 5)))
        (.op (some 16) (.p (.bin .add (.tmp 15) (.const (.int .i64 1))))
        (.op (some 5) (.p (.mv (.tmp 16)))
        .done))))))))))
  (.hook 8 (.op (some 4) (.p (.mv (.const (.bool true))))
  .ret))))))
theorem k66 : compF Tryz.prog 66 = some (c66, [(.t 4)], 26) := by kernel_rfl
/- "hallmark/hallmarkkit.keptBools" -/
def c32 : S :=
  (.hook 0 (.op (some 2) (.p (.mv (.const (.bool false))))
  (.sq 1
    (.hook 1 (.op (some 3) (.p (.mv (.const (.int .i64 0))))
    (.block 0
      (.loop
        (.sq 2
          (.hook 2 (.op (some 7) (.p (.mv (.tmp 3)))
          (.op (some 8) (.p (.mv (.tmp 0)))
          (.op (some 9) (.p (.lenr (.tmp 8)))
          (.op (some 10) (.p (.bin .lss (.tmp 7) (.tmp 9)))
          (.ite (.tmp 10)
            .done
            (.exit 0)))))))
        (.sq 4
          (.block 1
            (.hook 4 (.op (some 13) (.p (.mv (.tmp 0)))
            (.op (some 14) (.p (.mv (.tmp 3)))
            (.op (some 15) (.p (.iad 1 (.tmp 13) (.tmp 14)))
            (.op (some 16) (.r (.ld false 1 (.tmp 15)))
            (.op (some 4) (.p (.mv (.tmp 16)))
            (.hook 5 (.op (some 5) (.p (.mv (.const (.int .i64 0))))
            (.block 2
              (.loop
                (.sq 6
                  (.hook 6 (.op (some 17) (.p (.mv (.tmp 5)))
                  (.op (some 18) (.p (.bin .lss (.tmp 17) (.const (.int .i64 16))))
                  (.ite (.tmp 18)
                    .done
                    (.exit 2)))))
                (.sq 8
                  (.block 3
                    (.hook 8 (.op (some 21) (.p (.mv (.tmp 5)))
                    (.op (some 22) (.p (.bin .rem (.tmp 21) (.const (.int .i64 2))))
                    (.op (some 23) (.p (.bin .eql (.tmp 22) (.const (.int .i64 0))))
                    (.op (some 6) (.p (.mv (.tmp 23)))
                    (.hook 9 (.op (some 24) (.p (.mv (.tmp 4)))
                    (.op (some 25) (.p (.mv (.tmp 4)))
                    (.op (some 26) (.p (.lenr (.tmp 25)))
                    (.op (some 27) (.p (.bin .sub (.tmp 26) (.const (.int .i64 16))))
                    (.op (some 28) (.p (.mv (.tmp 5)))
                    (.op (some 29) (.p (.bin .add (.tmp 27) (.tmp 28)))
                    (.op (some 30) (.p (.iad 1 (.tmp 24) (.tmp 29)))
                    (.op (some 31) (.r (.ld false 1 (.tmp 30)))
                    (.op (some 32) (.p (.mv (.tmp 6)))
                    (.op (some 33) (.p (.binb .neq (.tmp 31) (.tmp 32)))
                    (.ite (.tmp 33)
                      (.hook 10 (.op (some 2) (.p (.mv (.const (.bool false))))
                      .ret))
                      .done))))))))))))))))))
                (.hook 7 (.op (some 19) (.p (.mv (.tmp 5)))
                (.op (some 20) (.p (.bin .add (.tmp 19) (.const (.int .i64 1))))
                (.op (some 5) (.p (.mv (.tmp 20)))
                .done)))))))))))))))))
        (.hook 3 (.op (some 11) (.p (.mv (.tmp 3)))
        (.op (some 12) (.p (.bin .add (.tmp 11) (.const (.int .i64 1))))
        (.op (some 3) (.p (.mv (.tmp 12)))
        .done))))))))))
  (.hook 11 (.op (some 2) (.p (.mv (.const (.bool true))))
  .ret)))))
theorem k32 : compF Tryz.prog 32 = some (c32, [(.t 2)], 34) := by kernel_rfl
/- "hallmark/hallmarkkit.keptInts" -/
def c33 : S :=
  (.hook 0 (.op (some 2) (.p (.mv (.const (.bool false))))
  (.sq 1
    (.hook 1 (.op (some 3) (.p (.mv (.const (.int .i64 0))))
    (.block 0
      (.loop
        (.sq 2
          (.hook 2 (.op (some 7) (.p (.mv (.tmp 3)))
          (.op (some 8) (.p (.mv (.tmp 0)))
          (.op (some 9) (.p (.lenr (.tmp 8)))
          (.op (some 10) (.p (.bin .lss (.tmp 7) (.tmp 9)))
          (.ite (.tmp 10)
            .done
            (.exit 0)))))))
        (.sq 4
          (.block 1
            (.hook 4 (.op (some 13) (.p (.mv (.tmp 0)))
            (.op (some 14) (.p (.mv (.tmp 3)))
            (.op (some 15) (.p (.iad 1 (.tmp 13) (.tmp 14)))
            (.op (some 16) (.r (.ld false 1 (.tmp 15)))
            (.op (some 4) (.p (.mv (.tmp 16)))
            (.hook 5 (.op (some 5) (.p (.mv (.const (.int .i64 0))))
            (.block 2
              (.loop
                (.sq 6
                  (.hook 6 (.op (some 17) (.p (.mv (.tmp 5)))
                  (.op (some 18) (.p (.bin .lss (.tmp 17) (.const (.int .i64 16))))
                  (.ite (.tmp 18)
                    .done
                    (.exit 2)))))
                (.sq 8
                  (.block 3
                    (.hook 8 (.op (some 21) (.p (.mv (.tmp 5)))
                    (.op (some 22) (.w (.call 68 [(.const (.int .i64 (-9))), (.tmp 21)]))
                    (.op (some 6) (.p (.mv (.tmp 22)))
                    (.hook 9 (.op (some 23) (.p (.mv (.tmp 4)))
                    (.op (some 24) (.p (.mv (.tmp 4)))
                    (.op (some 25) (.p (.lenr (.tmp 24)))
                    (.op (some 26) (.p (.bin .sub (.tmp 25) (.const (.int .i64 16))))
                    (.op (some 27) (.p (.mv (.tmp 5)))
                    (.op (some 28) (.p (.bin .add (.tmp 26) (.tmp 27)))
                    (.op (some 29) (.p (.iad 1 (.tmp 23) (.tmp 28)))
                    (.op (some 30) (.r (.ld false 1 (.tmp 29)))
                    (.op (some 31) (.p (.mv (.tmp 6)))
                    (.op (some 32) (.p (.bin .neq (.tmp 30) (.tmp 31)))
                    (.ite (.tmp 32)
                      (.hook 10 (.op (some 2) (.p (.mv (.const (.bool false))))
                      .ret))
                      .done)))))))))))))))))
                (.hook 7 (.op (some 19) (.p (.mv (.tmp 5)))
                (.op (some 20) (.p (.bin .add (.tmp 19) (.const (.int .i64 1))))
                (.op (some 5) (.p (.mv (.tmp 20)))
                .done)))))))))))))))))
        (.hook 3 (.op (some 11) (.p (.mv (.tmp 3)))
        (.op (some 12) (.p (.bin .add (.tmp 11) (.const (.int .i64 1))))
        (.op (some 3) (.p (.mv (.tmp 12)))
        .done))))))))))
  (.hook 11 (.op (some 2) (.p (.mv (.const (.bool true))))
  .ret)))))
theorem k33 : compF Tryz.prog 33 = some (c33, [(.t 2)], 33) := by kernel_rfl
/- "hallmark/hallmarkkit.keptBytes" -/
def c34 : S :=
  (.hook 0 (.op (some 2) (.p (.mv (.const (.bool false))))
  (.sq 1
    (.hook 1 (.op (some 3) (.p (.mv (.const (.int .i64 0))))
    (.block 0
      (.loop
        (.sq 2
          (.hook 2 (.op (some 7) (.p (.mv (.tmp 3)))
          (.op (some 8) (.p (.mv (.tmp 0)))
          (.op (some 9) (.p (.lenr (.tmp 8)))
          (.op (some 10) (.p (.bin .lss (.tmp 7) (.tmp 9)))
          (.ite (.tmp 10)
            .done
            (.exit 0)))))))
        (.sq 4
          (.block 1
            (.hook 4 (.op (some 13) (.p (.mv (.tmp 0)))
            (.op (some 14) (.p (.mv (.tmp 3)))
            (.op (some 15) (.p (.iad 1 (.tmp 13) (.tmp 14)))
            (.op (some 16) (.r (.ld false 1 (.tmp 15)))
            (.op (some 4) (.p (.mv (.tmp 16)))
            (.hook 5 (.op (some 5) (.p (.mv (.const (.int .i64 0))))
            (.block 2
              (.loop
                (.sq 6
                  (.hook 6 (.op (some 17) (.p (.mv (.tmp 5)))
                  (.op (some 18) (.p (.bin .lss (.tmp 17) (.const (.int .i64 16))))
                  (.ite (.tmp 18)
                    .done
                    (.exit 2)))))
                (.sq 8
                  (.block 3
                    (.hook 8 (.op (some 21) (.p (.mv (.tmp 5)))
                    (.op (some 22) (.w (.call 69 [(.const (.int .i64 (-9))), (.tmp 21)]))
                    (.op (some 6) (.p (.mv (.tmp 22)))
                    (.hook 9 (.op (some 23) (.p (.mv (.tmp 4)))
                    (.op (some 24) (.p (.mv (.tmp 4)))
                    (.op (some 25) (.p (.lenr (.tmp 24)))
                    (.op (some 26) (.p (.bin .sub (.tmp 25) (.const (.int .i64 16))))
                    (.op (some 27) (.p (.mv (.tmp 5)))
                    (.op (some 28) (.p (.bin .add (.tmp 26) (.tmp 27)))
                    (.op (some 29) (.p (.iad 1 (.tmp 23) (.tmp 28)))
                    (.op (some 30) (.r (.ld false 1 (.tmp 29)))
                    (.op (some 31) (.p (.mv (.tmp 6)))
                    (.op (some 32) (.p (.bin .neq (.tmp 30) (.tmp 31)))
                    (.ite (.tmp 32)
                      (.hook 10 (.op (some 2) (.p (.mv (.const (.bool false))))
                      .ret))
                      .done)))))))))))))))))
                (.hook 7 (.op (some 19) (.p (.mv (.tmp 5)))
                (.op (some 20) (.p (.bin .add (.tmp 19) (.const (.int .i64 1))))
                (.op (some 5) (.p (.mv (.tmp 20)))
                .done)))))))))))))))))
        (.hook 3 (.op (some 11) (.p (.mv (.tmp 3)))
        (.op (some 12) (.p (.bin .add (.tmp 11) (.const (.int .i64 1))))
        (.op (some 3) (.p (.mv (.tmp 12)))
        .done))))))))))
  (.hook 11 (.op (some 2) (.p (.mv (.const (.bool true))))
  .ret)))))
theorem k34 : compF Tryz.prog 34 = some (c34, [(.t 2)], 33) := by kernel_rfl
/- "hallmark/hallmarkkit.keptTokens" -/
def c36 : S :=
  (.hook 0 (.op (some 2) (.p (.mv (.const (.bool false))))
  (.sq 1
    (.hook 1 (.op (some 3) (.p (.mv (.const (.int .i64 0))))
    (.block 0
      (.loop
        (.sq 2
          (.hook 2 (.op (some 7) (.p (.mv (.tmp 3)))
          (.op (some 8) (.p (.mv (.tmp 0)))
          (.op (some 9) (.p (.lenr (.tmp 8)))
          (.op (some 10) (.p (.bin .lss (.tmp 7) (.tmp 9)))
          (.ite (.tmp 10)
            .done
            (.exit 0)))))))
        (.sq 4
          (.block 1
            (.hook 4 (.op (some 13) (.p (.mv (.tmp 0)))
            (.op (some 14) (.p (.mv (.tmp 3)))
            (.op (some 15) (.p (.iad 1 (.tmp 13) (.tmp 14)))
            (.op (some 16) (.r (.ld false 1 (.tmp 15)))
            (.op (some 4) (.p (.mv (.tmp 16)))
            (.hook 5 (.op (some 5) (.p (.mv (.const (.int .i64 0))))
            (.block 2
              (.loop
                (.sq 6
                  (.hook 6 (.op (some 17) (.p (.mv (.tmp 5)))
                  (.op (some 18) (.p (.bin .lss (.tmp 17) (.const (.int .i64 16))))
                  (.ite (.tmp 18)
                    .done
                    (.exit 2)))))
                (.sq 8
                  (.block 3
                    (.hook 8 (.op (some 21) (.p (.mv (.tmp 5)))
                    (.op (some 22) (.w (.call 70 [(.const (.int .i64 (-9))), (.tmp 21)]))
                    (.op (some 6) (.w (.alloc 4 [(.int .i64 0), (.int .i64 0), (.int .i64 0), (.string ⟨#[]⟩)]))
                    (.op none (.w (.st true 4 (.tmp 6) (.tmp 22)))
                    (.hook 9 (.op (some 23) (.p (.mv (.tmp 4)))
                    (.op (some 24) (.p (.mv (.tmp 4)))
                    (.op (some 25) (.p (.lenr (.tmp 24)))
                    (.op (some 26) (.p (.bin .sub (.tmp 25) (.const (.int .i64 16))))
                    (.op (some 27) (.p (.mv (.tmp 5)))
                    (.op (some 28) (.p (.bin .add (.tmp 26) (.tmp 27)))
                    (.op (some 29) (.p (.iad 4 (.tmp 23) (.tmp 28)))
                    (.op (some 30) (.r (.ld true 4 (.tmp 29)))
                    (.op (some 31) (.r (.ld true 4 (.tmp 6)))
                    (.op (some 32) (.w (.call 71 [(.tmp 30), (.tmp 31)]))
                    (.op (some 33) (.p (.not (.tmp 32)))
                    (.ite (.tmp 33)
                      (.hook 10 (.op (some 2) (.p (.mv (.const (.bool false))))
                      .ret))
                      .done)))))))))))))))))))
                (.hook 7 (.op (some 19) (.p (.mv (.tmp 5)))
                (.op (some 20) (.p (.bin .add (.tmp 19) (.const (.int .i64 1))))
                (.op (some 5) (.p (.mv (.tmp 20)))
                .done)))))))))))))))))
        (.hook 3 (.op (some 11) (.p (.mv (.tmp 3)))
        (.op (some 12) (.p (.bin .add (.tmp 11) (.const (.int .i64 1))))
        (.op (some 3) (.p (.mv (.tmp 12)))
        .done))))))))))
  (.hook 11 (.op (some 2) (.p (.mv (.const (.bool true))))
  .ret)))))
theorem k36 : compF Tryz.prog 36 = some (c36, [(.t 2)], 34) := by kernel_rfl
/- "hallmark/hallmarkkit.keptSpans" -/
def c37 : S :=
  (.hook 0 (.op (some 2) (.p (.mv (.const (.bool false))))
  (.sq 1
    (.hook 1 (.op (some 3) (.p (.mv (.const (.int .i64 0))))
    (.block 0
      (.loop
        (.sq 2
          (.hook 2 (.op (some 7) (.p (.mv (.tmp 3)))
          (.op (some 8) (.p (.mv (.tmp 0)))
          (.op (some 9) (.p (.lenr (.tmp 8)))
          (.op (some 10) (.p (.bin .lss (.tmp 7) (.tmp 9)))
          (.ite (.tmp 10)
            .done
            (.exit 0)))))))
        (.sq 4
          (.block 1
            (.hook 4 (.op (some 13) (.p (.mv (.tmp 0)))
            (.op (some 14) (.p (.mv (.tmp 3)))
            (.op (some 15) (.p (.iad 1 (.tmp 13) (.tmp 14)))
            (.op (some 16) (.r (.ld false 1 (.tmp 15)))
            (.op (some 4) (.p (.mv (.tmp 16)))
            (.hook 5 (.op (some 5) (.p (.mv (.const (.int .i64 0))))
            (.block 2
              (.loop
                (.sq 6
                  (.hook 6 (.op (some 17) (.p (.mv (.tmp 5)))
                  (.op (some 18) (.p (.bin .lss (.tmp 17) (.const (.int .i64 16))))
                  (.ite (.tmp 18)
                    .done
                    (.exit 2)))))
                (.sq 8
                  (.block 3
                    (.hook 8 (.op (some 21) (.p (.mv (.tmp 5)))
                    (.op (some 22) (.w (.call 72 [(.const (.int .i64 (-9))), (.tmp 21)]))
                    (.op (some 6) (.w (.alloc 2 [(.string ⟨#[]⟩), (.string ⟨#[]⟩)]))
                    (.op none (.w (.st true 2 (.tmp 6) (.tmp 22)))
                    (.hook 9 (.op (some 23) (.p (.mv (.tmp 4)))
                    (.op (some 24) (.p (.mv (.tmp 4)))
                    (.op (some 25) (.p (.lenr (.tmp 24)))
                    (.op (some 26) (.p (.bin .sub (.tmp 25) (.const (.int .i64 16))))
                    (.op (some 27) (.p (.mv (.tmp 5)))
                    (.op (some 28) (.p (.bin .add (.tmp 26) (.tmp 27)))
                    (.op (some 29) (.p (.iad 2 (.tmp 23) (.tmp 28)))
                    (.op (some 30) (.r (.ld true 2 (.tmp 29)))
                    (.op (some 31) (.r (.ld true 2 (.tmp 6)))
                    (.op (some 32) (.w (.call 73 [(.tmp 30), (.tmp 31)]))
                    (.op (some 33) (.p (.not (.tmp 32)))
                    (.ite (.tmp 33)
                      (.hook 10 (.op (some 2) (.p (.mv (.const (.bool false))))
                      .ret))
                      .done)))))))))))))))))))
                (.hook 7 (.op (some 19) (.p (.mv (.tmp 5)))
                (.op (some 20) (.p (.bin .add (.tmp 19) (.const (.int .i64 1))))
                (.op (some 5) (.p (.mv (.tmp 20)))
                .done)))))))))))))))))
        (.hook 3 (.op (some 11) (.p (.mv (.tmp 3)))
        (.op (some 12) (.p (.bin .add (.tmp 11) (.const (.int .i64 1))))
        (.op (some 3) (.p (.mv (.tmp 12)))
        .done))))))))))
  (.hook 11 (.op (some 2) (.p (.mv (.const (.bool true))))
  .ret)))))
theorem k37 : compF Tryz.prog 37 = some (c37, [(.t 2)], 34) := by kernel_rfl
/- "hallmark/hallmarkkit.keptArrs" -/
def c38 : S :=
  (.hook 0 (.op (some 2) (.p (.mv (.const (.bool false))))
  (.sq 1
    (.hook 1 (.op (some 3) (.p (.mv (.const (.int .i64 0))))
    (.block 0
      (.loop
        (.sq 2
          (.hook 2 (.op (some 7) (.p (.mv (.tmp 3)))
          (.op (some 8) (.p (.mv (.tmp 0)))
          (.op (some 9) (.p (.lenr (.tmp 8)))
          (.op (some 10) (.p (.bin .lss (.tmp 7) (.tmp 9)))
          (.ite (.tmp 10)
            .done
            (.exit 0)))))))
        (.sq 4
          (.block 1
            (.hook 4 (.op (some 13) (.p (.mv (.tmp 0)))
            (.op (some 14) (.p (.mv (.tmp 3)))
            (.op (some 15) (.p (.iad 1 (.tmp 13) (.tmp 14)))
            (.op (some 16) (.r (.ld false 1 (.tmp 15)))
            (.op (some 4) (.p (.mv (.tmp 16)))
            (.hook 5 (.op (some 5) (.p (.mv (.const (.int .i64 0))))
            (.block 2
              (.loop
                (.sq 6
                  (.hook 6 (.op (some 17) (.p (.mv (.tmp 5)))
                  (.op (some 18) (.p (.bin .lss (.tmp 17) (.const (.int .i64 16))))
                  (.ite (.tmp 18)
                    .done
                    (.exit 2)))))
                (.sq 8
                  (.block 3
                    (.hook 8 (.op (some 21) (.p (.mv (.tmp 5)))
                    (.op (some 22) (.w (.call 74 [(.const (.int .i64 (-9))), (.tmp 21)]))
                    (.op (some 6) (.w (.alloc 11 [(.bool false), (.bool false), (.bool false), (.bool false), (.slice none 0 0), (.bool false), (.slice none 0 0), (.slice none 0 0), (.slice none 0 0), (.int .i64 0), (.int .i64 0)]))
                    (.op none (.w (.st true 11 (.tmp 6) (.tmp 22)))
                    (.hook 9 (.op (some 23) (.p (.mv (.tmp 4)))
                    (.op (some 24) (.p (.mv (.tmp 4)))
                    (.op (some 25) (.p (.lenr (.tmp 24)))
                    (.op (some 26) (.p (.bin .sub (.tmp 25) (.const (.int .i64 16))))
                    (.op (some 27) (.p (.mv (.tmp 5)))
                    (.op (some 28) (.p (.bin .add (.tmp 26) (.tmp 27)))
                    (.op (some 29) (.p (.iad 11 (.tmp 23) (.tmp 28)))
                    (.op (some 30) (.r (.ld true 11 (.tmp 29)))
                    (.op (some 31) (.r (.ld true 11 (.tmp 6)))
                    (.op (some 32) (.w (.call 75 [(.tmp 30), (.tmp 31)]))
                    (.op (some 33) (.p (.not (.tmp 32)))
                    (.ite (.tmp 33)
                      (.hook 10 (.op (some 2) (.p (.mv (.const (.bool false))))
                      .ret))
                      .done)))))))))))))))))))
                (.hook 7 (.op (some 19) (.p (.mv (.tmp 5)))
                (.op (some 20) (.p (.bin .add (.tmp 19) (.const (.int .i64 1))))
                (.op (some 5) (.p (.mv (.tmp 20)))
                .done)))))))))))))))))
        (.hook 3 (.op (some 11) (.p (.mv (.tmp 3)))
        (.op (some 12) (.p (.bin .add (.tmp 11) (.const (.int .i64 1))))
        (.op (some 3) (.p (.mv (.tmp 12)))
        .done))))))))))
  (.hook 11 (.op (some 2) (.p (.mv (.const (.bool true))))
  .ret)))))
theorem k38 : compF Tryz.prog 38 = some (c38, [(.t 2)], 34) := by kernel_rfl
/- "hallmark/hallmarkkit.keptObjs" -/
def c39 : S :=
  (.hook 0 (.op (some 2) (.p (.mv (.const (.bool false))))
  (.sq 1
    (.hook 1 (.op (some 3) (.p (.mv (.const (.int .i64 0))))
    (.block 0
      (.loop
        (.sq 2
          (.hook 2 (.op (some 7) (.p (.mv (.tmp 3)))
          (.op (some 8) (.p (.mv (.tmp 0)))
          (.op (some 9) (.p (.lenr (.tmp 8)))
          (.op (some 10) (.p (.bin .lss (.tmp 7) (.tmp 9)))
          (.ite (.tmp 10)
            .done
            (.exit 0)))))))
        (.sq 4
          (.block 1
            (.hook 4 (.op (some 13) (.p (.mv (.tmp 0)))
            (.op (some 14) (.p (.mv (.tmp 3)))
            (.op (some 15) (.p (.iad 1 (.tmp 13) (.tmp 14)))
            (.op (some 16) (.r (.ld false 1 (.tmp 15)))
            (.op (some 4) (.p (.mv (.tmp 16)))
            (.hook 5 (.op (some 5) (.p (.mv (.const (.int .i64 0))))
            (.block 2
              (.loop
                (.sq 6
                  (.hook 6 (.op (some 17) (.p (.mv (.tmp 5)))
                  (.op (some 18) (.p (.bin .lss (.tmp 17) (.const (.int .i64 16))))
                  (.ite (.tmp 18)
                    .done
                    (.exit 2)))))
                (.sq 8
                  (.block 3
                    (.hook 8 (.op (some 21) (.p (.mv (.tmp 5)))
                    (.op (some 22) (.w (.call 76 [(.const (.int .i64 (-9))), (.tmp 21)]))
                    (.op (some 6) (.w (.alloc 12 [(.slice none 0 0), (.slice none 0 0), (.slice none 0 0), (.bool false), (.bool false), (.bool false), (.bool false), (.slice none 0 0), (.bool false), (.slice none 0 0), (.slice none 0 0), (.slice none 0 0)]))
                    (.op none (.w (.st true 12 (.tmp 6) (.tmp 22)))
                    (.hook 9 (.op (some 23) (.p (.mv (.tmp 4)))
                    (.op (some 24) (.p (.mv (.tmp 4)))
                    (.op (some 25) (.p (.lenr (.tmp 24)))
                    (.op (some 26) (.p (.bin .sub (.tmp 25) (.const (.int .i64 16))))
                    (.op (some 27) (.p (.mv (.tmp 5)))
                    (.op (some 28) (.p (.bin .add (.tmp 26) (.tmp 27)))
                    (.op (some 29) (.p (.iad 12 (.tmp 23) (.tmp 28)))
                    (.op (some 30) (.r (.ld true 12 (.tmp 29)))
                    (.op (some 31) (.r (.ld true 12 (.tmp 6)))
                    (.op (some 32) (.w (.call 77 [(.tmp 30), (.tmp 31)]))
                    (.op (some 33) (.p (.not (.tmp 32)))
                    (.ite (.tmp 33)
                      (.hook 10 (.op (some 2) (.p (.mv (.const (.bool false))))
                      .ret))
                      .done)))))))))))))))))))
                (.hook 7 (.op (some 19) (.p (.mv (.tmp 5)))
                (.op (some 20) (.p (.bin .add (.tmp 19) (.const (.int .i64 1))))
                (.op (some 5) (.p (.mv (.tmp 20)))
                .done)))))))))))))))))
        (.hook 3 (.op (some 11) (.p (.mv (.tmp 3)))
        (.op (some 12) (.p (.bin .add (.tmp 11) (.const (.int .i64 1))))
        (.op (some 3) (.p (.mv (.tmp 12)))
        .done))))))))))
  (.hook 11 (.op (some 2) (.p (.mv (.const (.bool true))))
  .ret)))))
theorem k39 : compF Tryz.prog 39 = some (c39, [(.t 2)], 34) := by kernel_rfl
/- "hallmark/hallmarkkit.keptTypes" -/
def c40 : S :=
  (.hook 0 (.op (some 2) (.p (.mv (.const (.bool false))))
  (.sq 1
    (.hook 1 (.op (some 3) (.p (.mv (.const (.int .i64 0))))
    (.block 0
      (.loop
        (.sq 2
          (.hook 2 (.op (some 7) (.p (.mv (.tmp 3)))
          (.op (some 8) (.p (.mv (.tmp 0)))
          (.op (some 9) (.p (.lenr (.tmp 8)))
          (.op (some 10) (.p (.bin .lss (.tmp 7) (.tmp 9)))
          (.ite (.tmp 10)
            .done
            (.exit 0)))))))
        (.sq 4
          (.block 1
            (.hook 4 (.op (some 13) (.p (.mv (.tmp 0)))
            (.op (some 14) (.p (.mv (.tmp 3)))
            (.op (some 15) (.p (.iad 1 (.tmp 13) (.tmp 14)))
            (.op (some 16) (.r (.ld false 1 (.tmp 15)))
            (.op (some 4) (.p (.mv (.tmp 16)))
            (.hook 5 (.op (some 5) (.p (.mv (.const (.int .i64 0))))
            (.block 2
              (.loop
                (.sq 6
                  (.hook 6 (.op (some 17) (.p (.mv (.tmp 5)))
                  (.op (some 18) (.p (.bin .lss (.tmp 17) (.const (.int .i64 16))))
                  (.ite (.tmp 18)
                    .done
                    (.exit 2)))))
                (.sq 8
                  (.block 3
                    (.hook 8 (.op (some 21) (.p (.mv (.tmp 5)))
                    (.op (some 22) (.w (.call 78 [(.const (.int .i64 (-9))), (.tmp 21)]))
                    (.op (some 6) (.w (.alloc 9 [(.bool false), (.bool false), (.bool false), (.bool false), (.slice none 0 0), (.bool false), (.slice none 0 0), (.slice none 0 0), (.slice none 0 0)]))
                    (.op none (.w (.st true 9 (.tmp 6) (.tmp 22)))
                    (.hook 9 (.op (some 23) (.p (.mv (.tmp 4)))
                    (.op (some 24) (.p (.mv (.tmp 4)))
                    (.op (some 25) (.p (.lenr (.tmp 24)))
                    (.op (some 26) (.p (.bin .sub (.tmp 25) (.const (.int .i64 16))))
                    (.op (some 27) (.p (.mv (.tmp 5)))
                    (.op (some 28) (.p (.bin .add (.tmp 26) (.tmp 27)))
                    (.op (some 29) (.p (.iad 9 (.tmp 23) (.tmp 28)))
                    (.op (some 30) (.r (.ld true 9 (.tmp 29)))
                    (.op (some 31) (.r (.ld true 9 (.tmp 6)))
                    (.op (some 32) (.w (.call 79 [(.tmp 30), (.tmp 31)]))
                    (.op (some 33) (.p (.not (.tmp 32)))
                    (.ite (.tmp 33)
                      (.hook 10 (.op (some 2) (.p (.mv (.const (.bool false))))
                      .ret))
                      .done)))))))))))))))))))
                (.hook 7 (.op (some 19) (.p (.mv (.tmp 5)))
                (.op (some 20) (.p (.bin .add (.tmp 19) (.const (.int .i64 1))))
                (.op (some 5) (.p (.mv (.tmp 20)))
                .done)))))))))))))))))
        (.hook 3 (.op (some 11) (.p (.mv (.tmp 3)))
        (.op (some 12) (.p (.bin .add (.tmp 11) (.const (.int .i64 1))))
        (.op (some 3) (.p (.mv (.tmp 12)))
        .done))))))))))
  (.hook 11 (.op (some 2) (.p (.mv (.const (.bool true))))
  .ret)))))
theorem k40 : compF Tryz.prog 40 = some (c40, [(.t 2)], 34) := by kernel_rfl
/- "hallmark/hallmarkkit.keptNodes" -/
def c41 : S :=
  (.hook 0 (.op (some 2) (.p (.mv (.const (.bool false))))
  (.sq 1
    (.hook 1 (.op (some 3) (.p (.mv (.const (.int .i64 0))))
    (.block 0
      (.loop
        (.sq 2
          (.hook 2 (.op (some 7) (.p (.mv (.tmp 3)))
          (.op (some 8) (.p (.mv (.tmp 0)))
          (.op (some 9) (.p (.lenr (.tmp 8)))
          (.op (some 10) (.p (.bin .lss (.tmp 7) (.tmp 9)))
          (.ite (.tmp 10)
            .done
            (.exit 0)))))))
        (.sq 4
          (.block 1
            (.hook 4 (.op (some 13) (.p (.mv (.tmp 0)))
            (.op (some 14) (.p (.mv (.tmp 3)))
            (.op (some 15) (.p (.iad 1 (.tmp 13) (.tmp 14)))
            (.op (some 16) (.r (.ld false 1 (.tmp 15)))
            (.op (some 4) (.p (.mv (.tmp 16)))
            (.hook 5 (.op (some 5) (.p (.mv (.const (.int .i64 0))))
            (.block 2
              (.loop
                (.sq 6
                  (.hook 6 (.op (some 17) (.p (.mv (.tmp 5)))
                  (.op (some 18) (.p (.bin .lss (.tmp 17) (.const (.int .i64 16))))
                  (.ite (.tmp 18)
                    .done
                    (.exit 2)))))
                (.sq 8
                  (.block 3
                    (.hook 8 (.op (some 21) (.p (.mv (.tmp 5)))
                    (.op (some 22) (.w (.call 80 [(.const (.int .i64 (-9))), (.tmp 21)]))
                    (.op (some 6) (.w (.alloc 10 [(.int .i64 0), (.int .i64 0), (.string ⟨#[]⟩), (.int .i64 0), (.string ⟨#[]⟩), (.string ⟨#[]⟩), (.slice none 0 0), (.slice none 0 0), (.slice none 0 0), (.slice none 0 0)]))
                    (.op none (.w (.st true 10 (.tmp 6) (.tmp 22)))
                    (.hook 9 (.op (some 23) (.p (.mv (.tmp 4)))
                    (.op (some 24) (.p (.mv (.tmp 4)))
                    (.op (some 25) (.p (.lenr (.tmp 24)))
                    (.op (some 26) (.p (.bin .sub (.tmp 25) (.const (.int .i64 16))))
                    (.op (some 27) (.p (.mv (.tmp 5)))
                    (.op (some 28) (.p (.bin .add (.tmp 26) (.tmp 27)))
                    (.op (some 29) (.p (.iad 10 (.tmp 23) (.tmp 28)))
                    (.op (some 30) (.r (.ld true 10 (.tmp 29)))
                    (.op (some 31) (.r (.ld true 10 (.tmp 6)))
                    (.op (some 32) (.w (.call 81 [(.tmp 30), (.tmp 31)]))
                    (.op (some 33) (.p (.not (.tmp 32)))
                    (.ite (.tmp 33)
                      (.hook 10 (.op (some 2) (.p (.mv (.const (.bool false))))
                      .ret))
                      .done)))))))))))))))))))
                (.hook 7 (.op (some 19) (.p (.mv (.tmp 5)))
                (.op (some 20) (.p (.bin .add (.tmp 19) (.const (.int .i64 1))))
                (.op (some 5) (.p (.mv (.tmp 20)))
                .done)))))))))))))))))
        (.hook 3 (.op (some 11) (.p (.mv (.tmp 3)))
        (.op (some 12) (.p (.bin .add (.tmp 11) (.const (.int .i64 1))))
        (.op (some 3) (.p (.mv (.tmp 12)))
        .done))))))))))
  (.hook 11 (.op (some 2) (.p (.mv (.const (.bool true))))
  .ret)))))
theorem k41 : compF Tryz.prog 41 = some (c41, [(.t 2)], 34) := by kernel_rfl
/- "hallmark/hallmarkkit.keptResults" -/
def c42 : S :=
  (.hook 0 (.op (some 2) (.p (.mv (.const (.bool false))))
  (.sq 1
    (.hook 1 (.op (some 3) (.p (.mv (.const (.int .i64 0))))
    (.block 0
      (.loop
        (.sq 2
          (.hook 2 (.op (some 7) (.p (.mv (.tmp 3)))
          (.op (some 8) (.p (.mv (.tmp 0)))
          (.op (some 9) (.p (.lenr (.tmp 8)))
          (.op (some 10) (.p (.bin .lss (.tmp 7) (.tmp 9)))
          (.ite (.tmp 10)
            .done
            (.exit 0)))))))
        (.sq 4
          (.block 1
            (.hook 4 (.op (some 13) (.p (.mv (.tmp 0)))
            (.op (some 14) (.p (.mv (.tmp 3)))
            (.op (some 15) (.p (.iad 1 (.tmp 13) (.tmp 14)))
            (.op (some 16) (.r (.ld false 1 (.tmp 15)))
            (.op (some 4) (.p (.mv (.tmp 16)))
            (.hook 5 (.op (some 5) (.p (.mv (.const (.int .i64 0))))
            (.block 2
              (.loop
                (.sq 6
                  (.hook 6 (.op (some 17) (.p (.mv (.tmp 5)))
                  (.op (some 18) (.p (.bin .lss (.tmp 17) (.const (.int .i64 16))))
                  (.ite (.tmp 18)
                    .done
                    (.exit 2)))))
                (.sq 8
                  (.block 3
                    (.hook 8 (.op (some 21) (.p (.mv (.tmp 5)))
                    (.op (some 22) (.w (.call 82 [(.const (.int .i64 (-9))), (.tmp 21)]))
                    (.op (some 6) (.w (.alloc 8 [(.slice none 0 0), (.int .i64 0), (.int .i64 0), (.string ⟨#[]⟩), (.string ⟨#[]⟩), (.slice none 0 0), (.slice none 0 0), (.int .i64 0)]))
                    (.op none (.w (.st true 8 (.tmp 6) (.tmp 22)))
                    (.hook 9 (.op (some 23) (.p (.mv (.tmp 4)))
                    (.op (some 24) (.p (.mv (.tmp 4)))
                    (.op (some 25) (.p (.lenr (.tmp 24)))
                    (.op (some 26) (.p (.bin .sub (.tmp 25) (.const (.int .i64 16))))
                    (.op (some 27) (.p (.mv (.tmp 5)))
                    (.op (some 28) (.p (.bin .add (.tmp 26) (.tmp 27)))
                    (.op (some 29) (.p (.iad 8 (.tmp 23) (.tmp 28)))
                    (.op (some 30) (.r (.ld true 8 (.tmp 29)))
                    (.op (some 31) (.r (.ld true 8 (.tmp 6)))
                    (.op (some 32) (.w (.call 83 [(.tmp 30), (.tmp 31)]))
                    (.op (some 33) (.p (.not (.tmp 32)))
                    (.ite (.tmp 33)
                      (.hook 10 (.op (some 2) (.p (.mv (.const (.bool false))))
                      .ret))
                      .done)))))))))))))))))))
                (.hook 7 (.op (some 19) (.p (.mv (.tmp 5)))
                (.op (some 20) (.p (.bin .add (.tmp 19) (.const (.int .i64 1))))
                (.op (some 5) (.p (.mv (.tmp 20)))
                .done)))))))))))))))))
        (.hook 3 (.op (some 11) (.p (.mv (.tmp 3)))
        (.op (some 12) (.p (.bin .add (.tmp 11) (.const (.int .i64 1))))
        (.op (some 3) (.p (.mv (.tmp 12)))
        .done))))))))))
  (.hook 11 (.op (some 2) (.p (.mv (.const (.bool true))))
  .ret)))))
theorem k42 : compF Tryz.prog 42 = some (c42, [(.t 2)], 34) := by kernel_rfl
/- "hallmark/hallmarkkit.keptTypeds" -/
def c43 : S :=
  (.hook 0 (.op (some 2) (.p (.mv (.const (.bool false))))
  (.sq 1
    (.hook 1 (.op (some 3) (.p (.mv (.const (.int .i64 0))))
    (.block 0
      (.loop
        (.sq 2
          (.hook 2 (.op (some 7) (.p (.mv (.tmp 3)))
          (.op (some 8) (.p (.mv (.tmp 0)))
          (.op (some 9) (.p (.lenr (.tmp 8)))
          (.op (some 10) (.p (.bin .lss (.tmp 7) (.tmp 9)))
          (.ite (.tmp 10)
            .done
            (.exit 0)))))))
        (.sq 4
          (.block 1
            (.hook 4 (.op (some 13) (.p (.mv (.tmp 0)))
            (.op (some 14) (.p (.mv (.tmp 3)))
            (.op (some 15) (.p (.iad 1 (.tmp 13) (.tmp 14)))
            (.op (some 16) (.r (.ld false 1 (.tmp 15)))
            (.op (some 4) (.p (.mv (.tmp 16)))
            (.hook 5 (.op (some 5) (.p (.mv (.const (.int .i64 0))))
            (.block 2
              (.loop
                (.sq 6
                  (.hook 6 (.op (some 17) (.p (.mv (.tmp 5)))
                  (.op (some 18) (.p (.bin .lss (.tmp 17) (.const (.int .i64 16))))
                  (.ite (.tmp 18)
                    .done
                    (.exit 2)))))
                (.sq 8
                  (.block 3
                    (.hook 8 (.op (some 21) (.p (.mv (.tmp 5)))
                    (.op (some 22) (.w (.call 84 [(.const (.int .i64 (-9))), (.tmp 21)]))
                    (.op (some 6) (.w (.alloc 49 [(.int .i64 0), (.int .i64 0), (.string ⟨#[]⟩), (.int .i64 0), (.string ⟨#[]⟩), (.string ⟨#[]⟩), (.slice none 0 0), (.slice none 0 0), (.slice none 0 0), (.slice none 0 0), (.int .i64 0), (.bool false), (.bool false), (.bool false), (.bool false), (.slice none 0 0), (.bool false), (.slice none 0 0), (.slice none 0 0), (.slice none 0 0), (.bool false), (.bool false), (.bool false), (.bool false), (.slice none 0 0), (.bool false), (.slice none 0 0), (.slice none 0 0), (.slice none 0 0), (.bool false), (.bool false), (.bool false), (.bool false), (.slice none 0 0), (.bool false), (.slice none 0 0), (.slice none 0 0), (.slice none 0 0), (.bool false), (.bool false), (.bool false), (.bool false), (.slice none 0 0), (.bool false), (.slice none 0 0), (.slice none 0 0), (.slice none 0 0), (.bool false), (.slice none 0 0)]))
                    (.op none (.w (.st true 49 (.tmp 6) (.tmp 22)))
                    (.hook 9 (.op (some 23) (.p (.mv (.tmp 4)))
                    (.op (some 24) (.p (.mv (.tmp 4)))
                    (.op (some 25) (.p (.lenr (.tmp 24)))
                    (.op (some 26) (.p (.bin .sub (.tmp 25) (.const (.int .i64 16))))
                    (.op (some 27) (.p (.mv (.tmp 5)))
                    (.op (some 28) (.p (.bin .add (.tmp 26) (.tmp 27)))
                    (.op (some 29) (.p (.iad 49 (.tmp 23) (.tmp 28)))
                    (.op (some 30) (.r (.ld true 49 (.tmp 29)))
                    (.op (some 31) (.r (.ld true 49 (.tmp 6)))
                    (.op (some 32) (.w (.call 85 [(.tmp 30), (.tmp 31)]))
                    (.op (some 33) (.p (.not (.tmp 32)))
                    (.ite (.tmp 33)
                      (.hook 10 (.op (some 2) (.p (.mv (.const (.bool false))))
                      .ret))
                      .done)))))))))))))))))))
                (.hook 7 (.op (some 19) (.p (.mv (.tmp 5)))
                (.op (some 20) (.p (.bin .add (.tmp 19) (.const (.int .i64 1))))
                (.op (some 5) (.p (.mv (.tmp 20)))
                .done)))))))))))))))))
        (.hook 3 (.op (some 11) (.p (.mv (.tmp 3)))
        (.op (some 12) (.p (.bin .add (.tmp 11) (.const (.int .i64 1))))
        (.op (some 3) (.p (.mv (.tmp 12)))
        .done))))))))))
  (.hook 11 (.op (some 2) (.p (.mv (.const (.bool true))))
  .ret)))))
theorem k43 : compF Tryz.prog 43 = some (c43, [(.t 2)], 34) := by kernel_rfl
/- "hallmark/hallmarkkit.keptCodes" -/
def c44 : S :=
  (.hook 0 (.op (some 2) (.p (.mv (.const (.bool false))))
  (.sq 1
    (.hook 1 (.op (some 3) (.p (.mv (.const (.int .i64 0))))
    (.block 0
      (.loop
        (.sq 2
          (.hook 2 (.op (some 7) (.p (.mv (.tmp 3)))
          (.op (some 8) (.p (.mv (.tmp 0)))
          (.op (some 9) (.p (.lenr (.tmp 8)))
          (.op (some 10) (.p (.bin .lss (.tmp 7) (.tmp 9)))
          (.ite (.tmp 10)
            .done
            (.exit 0)))))))
        (.sq 4
          (.block 1
            (.hook 4 (.op (some 13) (.p (.mv (.tmp 0)))
            (.op (some 14) (.p (.mv (.tmp 3)))
            (.op (some 15) (.p (.iad 1 (.tmp 13) (.tmp 14)))
            (.op (some 16) (.r (.ld false 1 (.tmp 15)))
            (.op (some 4) (.p (.mv (.tmp 16)))
            (.hook 5 (.op (some 5) (.p (.mv (.const (.int .i64 0))))
            (.block 2
              (.loop
                (.sq 6
                  (.hook 6 (.op (some 17) (.p (.mv (.tmp 5)))
                  (.op (some 18) (.p (.bin .lss (.tmp 17) (.const (.int .i64 16))))
                  (.ite (.tmp 18)
                    .done
                    (.exit 2)))))
                (.sq 8
                  (.block 3
                    (.hook 8 (.op (some 21) (.p (.mv (.tmp 5)))
                    (.op (some 22) (.w (.call 86 [(.const (.int .i64 (-9))), (.tmp 21)]))
                    (.op (some 6) (.w (.alloc 11 [(.int .i64 0), (.int .i64 0), (.int .i64 0), (.string ⟨#[]⟩), (.int .i64 0), (.string ⟨#[]⟩), (.string ⟨#[]⟩), (.slice none 0 0), (.slice none 0 0), (.slice none 0 0), (.slice none 0 0)]))
                    (.op none (.w (.st true 11 (.tmp 6) (.tmp 22)))
                    (.hook 9 (.op (some 23) (.p (.mv (.tmp 4)))
                    (.op (some 24) (.p (.mv (.tmp 4)))
                    (.op (some 25) (.p (.lenr (.tmp 24)))
                    (.op (some 26) (.p (.bin .sub (.tmp 25) (.const (.int .i64 16))))
                    (.op (some 27) (.p (.mv (.tmp 5)))
                    (.op (some 28) (.p (.bin .add (.tmp 26) (.tmp 27)))
                    (.op (some 29) (.p (.iad 11 (.tmp 23) (.tmp 28)))
                    (.op (some 30) (.r (.ld true 11 (.tmp 29)))
                    (.op (some 31) (.r (.ld true 11 (.tmp 6)))
                    (.op (some 32) (.w (.call 87 [(.tmp 30), (.tmp 31)]))
                    (.op (some 33) (.p (.not (.tmp 32)))
                    (.ite (.tmp 33)
                      (.hook 10 (.op (some 2) (.p (.mv (.const (.bool false))))
                      .ret))
                      .done)))))))))))))))))))
                (.hook 7 (.op (some 19) (.p (.mv (.tmp 5)))
                (.op (some 20) (.p (.bin .add (.tmp 19) (.const (.int .i64 1))))
                (.op (some 5) (.p (.mv (.tmp 20)))
                .done)))))))))))))))))
        (.hook 3 (.op (some 11) (.p (.mv (.tmp 3)))
        (.op (some 12) (.p (.bin .add (.tmp 11) (.const (.int .i64 1))))
        (.op (some 3) (.p (.mv (.tmp 12)))
        .done))))))))))
  (.hook 11 (.op (some 2) (.p (.mv (.const (.bool true))))
  .ret)))))
theorem k44 : compF Tryz.prog 44 = some (c44, [(.t 2)], 34) := by kernel_rfl
/- "hallmark/hallmarkkit.keptReasons" -/
def c45 : S :=
  (.hook 0 (.op (some 2) (.p (.mv (.const (.bool false))))
  (.sq 1
    (.hook 1 (.op (some 3) (.p (.mv (.const (.int .i64 0))))
    (.block 0
      (.loop
        (.sq 2
          (.hook 2 (.op (some 7) (.p (.mv (.tmp 3)))
          (.op (some 8) (.p (.mv (.tmp 0)))
          (.op (some 9) (.p (.lenr (.tmp 8)))
          (.op (some 10) (.p (.bin .lss (.tmp 7) (.tmp 9)))
          (.ite (.tmp 10)
            .done
            (.exit 0)))))))
        (.sq 4
          (.block 1
            (.hook 4 (.op (some 13) (.p (.mv (.tmp 0)))
            (.op (some 14) (.p (.mv (.tmp 3)))
            (.op (some 15) (.p (.iad 1 (.tmp 13) (.tmp 14)))
            (.op (some 16) (.r (.ld false 1 (.tmp 15)))
            (.op (some 4) (.p (.mv (.tmp 16)))
            (.hook 5 (.op (some 5) (.p (.mv (.const (.int .i64 0))))
            (.block 2
              (.loop
                (.sq 6
                  (.hook 6 (.op (some 17) (.p (.mv (.tmp 5)))
                  (.op (some 18) (.p (.bin .lss (.tmp 17) (.const (.int .i64 16))))
                  (.ite (.tmp 18)
                    .done
                    (.exit 2)))))
                (.sq 8
                  (.block 3
                    (.hook 8 (.op (some 21) (.p (.mv (.tmp 5)))
                    (.op (some 22) (.w (.call 88 [(.const (.int .i64 (-9))), (.tmp 21)]))
                    (.op (some 6) (.w (.alloc 21 [(.int .i64 0), (.int .i64 0), (.string ⟨#[]⟩), (.bool false), (.bool false), (.bool false), (.bool false), (.slice none 0 0), (.bool false), (.slice none 0 0), (.slice none 0 0), (.slice none 0 0), (.bool false), (.bool false), (.bool false), (.bool false), (.slice none 0 0), (.bool false), (.slice none 0 0), (.slice none 0 0), (.slice none 0 0)]))
                    (.op none (.w (.st true 21 (.tmp 6) (.tmp 22)))
                    (.hook 9 (.op (some 23) (.p (.mv (.tmp 4)))
                    (.op (some 24) (.p (.mv (.tmp 4)))
                    (.op (some 25) (.p (.lenr (.tmp 24)))
                    (.op (some 26) (.p (.bin .sub (.tmp 25) (.const (.int .i64 16))))
                    (.op (some 27) (.p (.mv (.tmp 5)))
                    (.op (some 28) (.p (.bin .add (.tmp 26) (.tmp 27)))
                    (.op (some 29) (.p (.iad 21 (.tmp 23) (.tmp 28)))
                    (.op (some 30) (.r (.ld true 21 (.tmp 29)))
                    (.op (some 31) (.r (.ld true 21 (.tmp 6)))
                    (.op (some 32) (.w (.call 89 [(.tmp 30), (.tmp 31)]))
                    (.op (some 33) (.p (.not (.tmp 32)))
                    (.ite (.tmp 33)
                      (.hook 10 (.op (some 2) (.p (.mv (.const (.bool false))))
                      .ret))
                      .done)))))))))))))))))))
                (.hook 7 (.op (some 19) (.p (.mv (.tmp 5)))
                (.op (some 20) (.p (.bin .add (.tmp 19) (.const (.int .i64 1))))
                (.op (some 5) (.p (.mv (.tmp 20)))
                .done)))))))))))))))))
        (.hook 3 (.op (some 11) (.p (.mv (.tmp 3)))
        (.op (some 12) (.p (.bin .add (.tmp 11) (.const (.int .i64 1))))
        (.op (some 3) (.p (.mv (.tmp 12)))
        .done))))))))))
  (.hook 11 (.op (some 2) (.p (.mv (.const (.bool true))))
  .ret)))))
theorem k45 : compF Tryz.prog 45 = some (c45, [(.t 2)], 34) := by kernel_rfl
/- "hallmark/hallmarkkit.keptVerdicts" -/
def c46 : S :=
  (.hook 0 (.op (some 2) (.p (.mv (.const (.bool false))))
  (.sq 1
    (.hook 1 (.op (some 3) (.p (.mv (.const (.int .i64 0))))
    (.block 0
      (.loop
        (.sq 2
          (.hook 2 (.op (some 7) (.p (.mv (.tmp 3)))
          (.op (some 8) (.p (.mv (.tmp 0)))
          (.op (some 9) (.p (.lenr (.tmp 8)))
          (.op (some 10) (.p (.bin .lss (.tmp 7) (.tmp 9)))
          (.ite (.tmp 10)
            .done
            (.exit 0)))))))
        (.sq 4
          (.block 1
            (.hook 4 (.op (some 13) (.p (.mv (.tmp 0)))
            (.op (some 14) (.p (.mv (.tmp 3)))
            (.op (some 15) (.p (.iad 1 (.tmp 13) (.tmp 14)))
            (.op (some 16) (.r (.ld false 1 (.tmp 15)))
            (.op (some 4) (.p (.mv (.tmp 16)))
            (.hook 5 (.op (some 5) (.p (.mv (.const (.int .i64 0))))
            (.block 2
              (.loop
                (.sq 6
                  (.hook 6 (.op (some 17) (.p (.mv (.tmp 5)))
                  (.op (some 18) (.p (.bin .lss (.tmp 17) (.const (.int .i64 16))))
                  (.ite (.tmp 18)
                    .done
                    (.exit 2)))))
                (.sq 8
                  (.block 3
                    (.hook 8 (.op (some 21) (.p (.mv (.tmp 5)))
                    (.op (some 22) (.w (.call 90 [(.const (.int .i64 (-9))), (.tmp 21)]))
                    (.op (some 6) (.w (.alloc 27 [(.int .i64 0), (.int .i64 0), (.int .i64 0), (.int .i64 0), (.int .i64 0), (.string ⟨#[]⟩), (.bool false), (.bool false), (.bool false), (.bool false), (.slice none 0 0), (.bool false), (.slice none 0 0), (.slice none 0 0), (.slice none 0 0), (.bool false), (.bool false), (.bool false), (.bool false), (.slice none 0 0), (.bool false), (.slice none 0 0), (.slice none 0 0), (.slice none 0 0), (.string ⟨#[]⟩), (.slice none 0 0), (.slice none 0 0)]))
                    (.op none (.w (.st true 27 (.tmp 6) (.tmp 22)))
                    (.hook 9 (.op (some 23) (.p (.mv (.tmp 4)))
                    (.op (some 24) (.p (.mv (.tmp 4)))
                    (.op (some 25) (.p (.lenr (.tmp 24)))
                    (.op (some 26) (.p (.bin .sub (.tmp 25) (.const (.int .i64 16))))
                    (.op (some 27) (.p (.mv (.tmp 5)))
                    (.op (some 28) (.p (.bin .add (.tmp 26) (.tmp 27)))
                    (.op (some 29) (.p (.iad 27 (.tmp 23) (.tmp 28)))
                    (.op (some 30) (.r (.ld true 27 (.tmp 29)))
                    (.op (some 31) (.r (.ld true 27 (.tmp 6)))
                    (.op (some 32) (.w (.call 91 [(.tmp 30), (.tmp 31)]))
                    (.op (some 33) (.p (.not (.tmp 32)))
                    (.ite (.tmp 33)
                      (.hook 10 (.op (some 2) (.p (.mv (.const (.bool false))))
                      .ret))
                      .done)))))))))))))))))))
                (.hook 7 (.op (some 19) (.p (.mv (.tmp 5)))
                (.op (some 20) (.p (.bin .add (.tmp 19) (.const (.int .i64 1))))
                (.op (some 5) (.p (.mv (.tmp 20)))
                .done)))))))))))))))))
        (.hook 3 (.op (some 11) (.p (.mv (.tmp 3)))
        (.op (some 12) (.p (.bin .add (.tmp 11) (.const (.int .i64 1))))
        (.op (some 3) (.p (.mv (.tmp 12)))
        .done))))))))))
  (.hook 11 (.op (some 2) (.p (.mv (.const (.bool true))))
  .ret)))))
theorem k46 : compF Tryz.prog 46 = some (c46, [(.t 2)], 34) := by kernel_rfl
/-- The mark at a place behind a lent row. -/
def mk9 (i : Nat) : List UInt8 := [35, 247, 255, 255, 46, UInt8.ofNat i, 0, 0]
theorem mword_calls (i : Nat) (hi : i < 16) (h : Hp) : VCalls Tryz.prog 56 [int (-9), int i] h (fun r h' => r = vstr (mk9 i) ∧ h' = h) := by
  refine xc k56 rfl ?_
  have hc : i = 0 ∨ i = 1 ∨ i = 2 ∨ i = 3 ∨ i = 4 ∨ i = 5 ∨ i = 6 ∨ i = 7 ∨ i = 8 ∨ i = 9 ∨ i = 10 ∨ i = 11 ∨ i = 12 ∨ i = 13 ∨ i = 14 ∨ i = 15 := by omega
  rcases hc with rfl | rfl | rfl | rfl | rfl | rfl | rfl | rfl | rfl | rfl | rfl | rfl | rfl | rfl | rfl | rfl
  all_goals
    refine run ?_
    refine .wrap ?_
    refine run ?_
    refine .wrap ?_
    refine run ?_
    refine .wrap ?_
    refine run ?_
    refine .wrap ?_
    refine run ?_
    refine .wrap ?_
    refine run ?_
    refine new_k fun kw => ?_
    refine run ?_
    refine ⟨[_, _, _, _, _, _, _, _], rfl, ?_⟩
    refine run ?_
    exact ret1 (retv ⟨rfl, rfl⟩)
theorem markS_calls (i : Nat) (hi : i < 16) (h : Hp) : VCalls Tryz.prog 67 [int (-9), int i] h (fun r h' => r = vstr (mk9 i) ∧ h' = h) := by
  refine xc k67 rfl ?_
  refine run ?_
  refine VCalls.use (mword_calls i hi h) ?_
  rintro _ _ ⟨rfl, rfl⟩
  refine run ?_
  exact retv ⟨rfl, rfl⟩
/-- The value that stands at a place behind a lent row. -/
def mkJ (i : Nat) : JV := .mk (-1) (mk9 i) [] [] []
theorem markV_calls (i : Nat) (hi : i < 16) (h : Hp) : VCalls Tryz.prog 24 [int (-9), int i] h (fun r h' => r = .agg (mkJ i).c5 ∧ h' = h) := by
  refine xc k24 rfl ?_
  refine run ?_
  refine new_k fun k1 => ?_
  refine run ?_
  refine VCalls.use (mword_calls i hi _) ?_
  rintro _ _ ⟨rfl, rfl⟩
  refine run ?_
  exact .gen VNl _ _ _ _ (HS.nils _) (.agg (.cons _ _ _ _ (.refl _) (.cons _ _ _ _ (.refl _) (.cons _ _ _ _ (.refl _) (.cons _ _ _ _ (.nilrow 5) (.cons _ _ _ _ (.nilrow 1) .nil)))))) (ret1 (retv ⟨rfl, rfl⟩))
theorem keptBools_nil (h : Hp) : VCalls Tryz.prog 32 [vnil] h (fun r h' => r = vbool true ∧ h' = h) := by
  refine xc k32 rfl ?_
  refine run ?_
  refine lp (fun _ : Unit => [(0, vnil), (2, vbool false), (3, int 0)]) (fun _ => h) (fun _ => True) (fun _ => 0) (wkx () trivial fits rfl) ?_
  rintro ⟨⟩ -
  refine run ?_
  exact retv ⟨rfl, rfl⟩
theorem keptInts_nil (h : Hp) : VCalls Tryz.prog 33 [vnil] h (fun r h' => r = vbool true ∧ h' = h) := by
  refine xc k33 rfl ?_
  refine run ?_
  refine lp (fun _ : Unit => [(0, vnil), (2, vbool false), (3, int 0)]) (fun _ => h) (fun _ => True) (fun _ => 0) (wkx () trivial fits rfl) ?_
  rintro ⟨⟩ -
  refine run ?_
  exact retv ⟨rfl, rfl⟩
theorem keptBytes_nil (h : Hp) : VCalls Tryz.prog 34 [vnil] h (fun r h' => r = vbool true ∧ h' = h) := by
  refine xc k34 rfl ?_
  refine run ?_
  refine lp (fun _ : Unit => [(0, vnil), (2, vbool false), (3, int 0)]) (fun _ => h) (fun _ => True) (fun _ => 0) (wkx () trivial fits rfl) ?_
  rintro ⟨⟩ -
  refine run ?_
  exact retv ⟨rfl, rfl⟩
theorem keptTokens_nil (h : Hp) : VCalls Tryz.prog 36 [vnil] h (fun r h' => r = vbool true ∧ h' = h) := by
  refine xc k36 rfl ?_
  refine run ?_
  refine lp (fun _ : Unit => [(0, vnil), (2, vbool false), (3, int 0)]) (fun _ => h) (fun _ => True) (fun _ => 0) (wkx () trivial fits rfl) ?_
  rintro ⟨⟩ -
  refine run ?_
  exact retv ⟨rfl, rfl⟩
theorem keptSpans_nil (h : Hp) : VCalls Tryz.prog 37 [vnil] h (fun r h' => r = vbool true ∧ h' = h) := by
  refine xc k37 rfl ?_
  refine run ?_
  refine lp (fun _ : Unit => [(0, vnil), (2, vbool false), (3, int 0)]) (fun _ => h) (fun _ => True) (fun _ => 0) (wkx () trivial fits rfl) ?_
  rintro ⟨⟩ -
  refine run ?_
  exact retv ⟨rfl, rfl⟩
theorem keptArrs_nil (h : Hp) : VCalls Tryz.prog 38 [vnil] h (fun r h' => r = vbool true ∧ h' = h) := by
  refine xc k38 rfl ?_
  refine run ?_
  refine lp (fun _ : Unit => [(0, vnil), (2, vbool false), (3, int 0)]) (fun _ => h) (fun _ => True) (fun _ => 0) (wkx () trivial fits rfl) ?_
  rintro ⟨⟩ -
  refine run ?_
  exact retv ⟨rfl, rfl⟩
theorem keptObjs_nil (h : Hp) : VCalls Tryz.prog 39 [vnil] h (fun r h' => r = vbool true ∧ h' = h) := by
  refine xc k39 rfl ?_
  refine run ?_
  refine lp (fun _ : Unit => [(0, vnil), (2, vbool false), (3, int 0)]) (fun _ => h) (fun _ => True) (fun _ => 0) (wkx () trivial fits rfl) ?_
  rintro ⟨⟩ -
  refine run ?_
  exact retv ⟨rfl, rfl⟩
theorem keptTypes_nil (h : Hp) : VCalls Tryz.prog 40 [vnil] h (fun r h' => r = vbool true ∧ h' = h) := by
  refine xc k40 rfl ?_
  refine run ?_
  refine lp (fun _ : Unit => [(0, vnil), (2, vbool false), (3, int 0)]) (fun _ => h) (fun _ => True) (fun _ => 0) (wkx () trivial fits rfl) ?_
  rintro ⟨⟩ -
  refine run ?_
  exact retv ⟨rfl, rfl⟩
theorem keptNodes_nil (h : Hp) : VCalls Tryz.prog 41 [vnil] h (fun r h' => r = vbool true ∧ h' = h) := by
  refine xc k41 rfl ?_
  refine run ?_
  refine lp (fun _ : Unit => [(0, vnil), (2, vbool false), (3, int 0)]) (fun _ => h) (fun _ => True) (fun _ => 0) (wkx () trivial fits rfl) ?_
  rintro ⟨⟩ -
  refine run ?_
  exact retv ⟨rfl, rfl⟩
theorem keptResults_nil (h : Hp) : VCalls Tryz.prog 42 [vnil] h (fun r h' => r = vbool true ∧ h' = h) := by
  refine xc k42 rfl ?_
  refine run ?_
  refine lp (fun _ : Unit => [(0, vnil), (2, vbool false), (3, int 0)]) (fun _ => h) (fun _ => True) (fun _ => 0) (wkx () trivial fits rfl) ?_
  rintro ⟨⟩ -
  refine run ?_
  exact retv ⟨rfl, rfl⟩
theorem keptTypeds_nil (h : Hp) : VCalls Tryz.prog 43 [vnil] h (fun r h' => r = vbool true ∧ h' = h) := by
  refine xc k43 rfl ?_
  refine run ?_
  refine lp (fun _ : Unit => [(0, vnil), (2, vbool false), (3, int 0)]) (fun _ => h) (fun _ => True) (fun _ => 0) (wkx () trivial fits rfl) ?_
  rintro ⟨⟩ -
  refine run ?_
  exact retv ⟨rfl, rfl⟩
theorem keptCodes_nil (h : Hp) : VCalls Tryz.prog 44 [vnil] h (fun r h' => r = vbool true ∧ h' = h) := by
  refine xc k44 rfl ?_
  refine run ?_
  refine lp (fun _ : Unit => [(0, vnil), (2, vbool false), (3, int 0)]) (fun _ => h) (fun _ => True) (fun _ => 0) (wkx () trivial fits rfl) ?_
  rintro ⟨⟩ -
  refine run ?_
  exact retv ⟨rfl, rfl⟩
theorem keptReasons_nil (h : Hp) : VCalls Tryz.prog 45 [vnil] h (fun r h' => r = vbool true ∧ h' = h) := by
  refine xc k45 rfl ?_
  refine run ?_
  refine lp (fun _ : Unit => [(0, vnil), (2, vbool false), (3, int 0)]) (fun _ => h) (fun _ => True) (fun _ => 0) (wkx () trivial fits rfl) ?_
  rintro ⟨⟩ -
  refine run ?_
  exact retv ⟨rfl, rfl⟩
theorem keptVerdicts_nil (h : Hp) : VCalls Tryz.prog 46 [vnil] h (fun r h' => r = vbool true ∧ h' = h) := by
  refine xc k46 rfl ?_
  refine run ?_
  refine lp (fun _ : Unit => [(0, vnil), (2, vbool false), (3, int 0)]) (fun _ => h) (fun _ => True) (fun _ => 0) (wkx () trivial fits rfl) ?_
  rintro ⟨⟩ -
  refine run ?_
  exact retv ⟨rfl, rfl⟩

theorem sameS_calls (a b : List (List UInt8)) (h : Hp) (ha : keysB a < 2 ^ 40) : VCalls Tryz.prog 66 [.row 1 (a.map keyC), .row 1 (b.map keyC)] h (fun r h' => r = vbool (decide (a = b)) ∧ h' = h) := by
  have hkl := keysB_len a
  have hne : ∀ {p : Prop}, (a = b → p) → ¬ p → decide (a = b) = false := fun hp hq => decide_eq_false fun he => hq (hp he)
  refine xc k66 rfl ?_
  refine run ?_
  refine br_nd (fun e0 => ?_) (fun e0 => ?_)
  · refine run ?_
    exact retv ⟨by rw [hne (fun h => congrArg (fun v => (v.length : Int)) h) e0]; rfl, rfl⟩
  refine run ?_
  refine lp (fun i : Nat => [(0, .row 1 (a.map keyC)), (1, .row 1 (b.map keyC)), (5, int i)]) (fun _ => h) (fun i => i ≤ a.length ∧ ∀ j, j < i → a.getD j [] = b.getD j []) (fun i => a.length - i) (wkx 0 ⟨by omega, fun j hj => by omega⟩ fits rfl) ?_
  rintro i ⟨hi, hj⟩
  refine run ?_
  refine br_d (fun hlt => ?_) (fun hlt => ?_)
  · refine run ?_
    refine at_key (by omega) ?_
    refine run ?_
    refine at_key (by omega) ?_
    refine run ?_
    refine br_nd (fun e6 => ?_) (fun e6 => ?_)
    · refine run ?_
      exact retv ⟨by rw [hne (fun h => congrArg (fun v => v.getD i []) h) e6]; rfl, rfl⟩
    · refine run ?_
      refine wkx (i + 1) ⟨⟨by omega, fun j hj2 => ?_⟩, by omega⟩ fits rfl
      by_cases hji : j = i
      · subst hji; exact e6
      · exact hj j (by omega)
  · obtain rfl : i = a.length := by omega
    have ek : a = b := by
      apply List.ext_getElem (by omega)
      intro j h1 h2
      have := hj j h1
      simpa [List.getD, h1, h2] using this
    refine run ?_
    exact retv ⟨by rw [decide_eq_true ek]; rfl, rfl⟩
/-- Two values held against each other. -/
def SvIH (n : Nat) : Prop := ∀ a b : JV, a.bk < n → a.bk < 2 ^ 40 → ∀ h : Hp, VCalls Tryz.prog 30 [.agg a.c5, .agg b.c5] h (fun r h' => r = vbool (decide (a = b)) ∧ h' = h)
theorem sameVs_ih {n : Nat} (IH : SvIH n) (a b : List JV) (hn : bkL a < n) (hb : bkL a < 2 ^ 40) (h : Hp) : VCalls Tryz.prog 12 [.row 5 (a.map JV.cells), .row 5 (b.map JV.cells)] h (fun r h' => r = vbool (decide (a = b)) ∧ h' = h) := by
  have hll := bkL_len a
  have hne : ∀ {p : Prop}, (a = b → p) → ¬ p → decide (a = b) = false := fun hp hq => decide_eq_false fun he => hq (hp he)
  refine xc k12 rfl ?_
  refine run ?_
  refine br_nd (fun e0 => ?_) (fun e0 => ?_)
  · refine run ?_
    exact retv ⟨by rw [hne (fun h => congrArg (fun v => (v.length : Int)) h) e0]; rfl, rfl⟩
  refine run ?_
  refine lp (fun i : Nat => [(0, .row 5 (a.map JV.cells)), (1, .row 5 (b.map JV.cells)), (5, int i)]) (fun _ => h) (fun i => i ≤ a.length ∧ ∀ j (h1 : j < i) (h2 : j < a.length) (h3 : j < b.length), a[j] = b[j]) (fun i => a.length - i) (wkx 0 ⟨by omega, fun j hj => by omega⟩ fits rfl) ?_
  rintro i ⟨hi, hq⟩
  refine run ?_
  refine br_d (fun hlt => ?_) (fun hlt => ?_)
  · have hia : i < a.length := by omega
    have hib : i < b.length := by omega
    have hml := bk_mem (List.getElem_mem hia)
    refine run ?_
    refine at_jv hia ?_
    refine run ?_
    refine at_jv hib ?_
    refine run ?_
    refine VCalls.use (IH a[i] b[i] (by omega) (by omega) _) ?_
    rintro _ _ ⟨rfl, rfl⟩
    refine run ?_
    refine br_nd (fun e7 => ?_) (fun e7 => ?_)
    · refine run ?_
      refine retv ⟨?_, rfl⟩
      rw [hne (p := a[i] = b[i]) (fun h => by subst h; rfl) e7]; rfl
    · refine run ?_
      refine wkx (i + 1) ⟨⟨by omega, fun j hj2 h2 h3 => ?_⟩, by omega⟩ fits rfl
      by_cases hji : j = i
      · subst hji; exact e7
      · exact hq j (by omega) h2 h3
  · have ei : a = b := List.ext_getElem (by omega) fun j h1 h2 => hq j (by omega) h1 h2
    refine run ?_
    exact retv ⟨by rw [decide_eq_true ei]; rfl, rfl⟩
theorem jv_dec (a b : JV) : decide (a = b) = (decide (a.kind = b.kind) && decide (a.num = b.num) && decide (a.text = b.text) && decide (a.items = b.items) && decide (a.keys = b.keys)) := by
  rw [Bool.eq_iff_iff]
  simp only [Bool.and_eq_true, decide_eq_true_eq]
  exact ⟨fun h => by subst h; simp, fun ⟨⟨⟨⟨h1, h2⟩, h3⟩, h4⟩, h5⟩ => jv_ext7 h1 h2 h3 h4 h5⟩
theorem sameV_ih {n : Nat} (IH : SvIH n) (a b : JV) (hn : a.bk < n + 1) (hb : a.bk < 2 ^ 40) (h : Hp) : VCalls Tryz.prog 30 [.agg a.c5, .agg b.c5] h (fun r h' => r = vbool (decide (a = b)) ∧ h' = h) := by
  have he := bk_eq a
  rw [jv_dec]
  refine xc k30 rfl ?_
  refine run ?_
  refine new_k fun k1 => ?_
  refine run ?_
  refine new_k fun k2 => ?_
  refine run ?_
  refine run ?_
  repeat' (first | (refine br_d (fun _ => ?_) (fun _ => ?_) <;> refine run ?_) | (refine br_nd (fun _ => ?_) (fun _ => ?_) <;> refine run ?_) | (refine Br.mk (fun _ => ?_) (fun _ => ?_) <;> refine run ?_) | (refine new_k fun _ => ?_; refine run ?_) | (refine VCalls.use (sameVs_ih IH a.items b.items (by omega) (by omega) _) ?_; rintro _ _ ⟨rfl, rfl⟩; refine run ?_) | (refine VCalls.use (sameS_calls a.keys b.keys _ (by omega)) ?_; rintro _ _ ⟨rfl, rfl⟩; refine run ?_))
  all_goals ((refine ret1 (ret1 (retv ⟨?_, rfl⟩)); simp_all [tupV]))
theorem svIH : ∀ n, SvIH n
  | 0 => fun a b hn => by omega
  | n + 1 => fun a b hn hb h => sameV_ih (svIH n) a b hn hb h
theorem sameV_calls (a b : JV) (hb : a.bk < 2 ^ 40) (h : Hp) : VCalls Tryz.prog 30 [.agg a.c5, .agg b.c5] h (fun r h' => r = vbool (decide (a = b)) ∧ h' = h) := svIH (a.bk + 1) a b (by omega) hb h
theorem sameVs_calls (a b : List JV) (hb : bkL a < 2 ^ 40) (h : Hp) : VCalls Tryz.prog 12 [.row 5 (a.map JV.cells), .row 5 (b.map JV.cells)] h (fun r h' => r = vbool (decide (a = b)) ∧ h' = h) := sameVs_ih (svIH (bkL a + 1)) a b (by omega) hb h
end Go.Proofs.YtpiicncihccheaaGreatDoor
