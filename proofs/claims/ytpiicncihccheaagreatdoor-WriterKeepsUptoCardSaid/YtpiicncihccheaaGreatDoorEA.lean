/- Walks of a loan: what is lent lies ahead of marks, and what is kept is held against them. -/
import Derived.Test.YtpiicncihccheaaGreatDoorE9
namespace Go.Proofs.YtpiicncihccheaaGreatDoor
open Go.XW Go.XW.DU Go.Lib Go.XW.U
/- "(*hallmark/hallmarkkit.Loan).Strings" -/
def c55 : S :=
  (.hook 0 (.op (some 4) (.p (.mv (.const (.slice none 0 0))))
  (.hook 1 (.op (some 5) (.p (.mv (.const (.slice none 0 0))))
  (.sq 2
    (.hook 2 (.op (some 6) (.p (.mv (.const (.int .i64 0))))
    (.block 0
      (.loop
        (.sq 3
          (.hook 3 (.op (some 9) (.p (.mv (.tmp 6)))
          (.op (some 10) (.p (.mv (.tmp 1)))
          (.op (some 11) (.p (.lenr (.tmp 10)))
          (.op (some 12) (.p (.bin .lss (.tmp 9) (.tmp 11)))
          (.ite (.tmp 12)
            .done
            (.exit 0)))))))
        (.sq 5
          (.block 1
            (.hook 5 (.op (some 15) (.p (.mv (.tmp 5)))
            (.op (some 16) (.p (.mv (.tmp 1)))
            (.op (some 17) (.p (.mv (.tmp 6)))
            (.op (some 18) (.p (.iad 1 (.tmp 16) (.tmp 17)))
            (.op (some 19) (.r (.ld false 1 (.tmp 18)))
            (.op (some 20) (.l 1 1 [(.string ⟨#[]⟩)] [(0, (1, (false, (.tmp 19))))])
            (.op (some 21) (.w (.app 9000 1 16 (.tmp 15) (.tmp 20)))
            (.op (some 5) (.p (.mv (.tmp 21)))
            .done))))))))))
        (.hook 4 (.op (some 13) (.p (.mv (.tmp 6)))
        (.op (some 14) (.p (.bin .add (.tmp 13) (.const (.int .i64 1))))
        (.op (some 6) (.p (.mv (.tmp 14)))
        .done))))))))))
  (.sq 6
    (.hook 6 (.op (some 7) (.p (.mv (.const (.int .i64 0))))
    (.block 2
      (.loop
        (.sq 7
          (.hook 7 (.op (some 22) (.p (.mv (.tmp 7)))
          (.op (some 23) (.p (.bin .lss (.tmp 22) (.const (.int .i64 16))))
          (.ite (.tmp 23)
            .done
            (.exit 2)))))
        (.sq 9
          (.block 3
            (.hook 9 (.op (some 26) (.p (.mv (.tmp 7)))
            (.op (some 27) (.w (.call 67 [(.const (.int .i64 (-9))), (.tmp 26)]))
            (.op (some 8) (.p (.mv (.tmp 27)))
            (.hook 10 (.op (some 28) (.p (.mv (.tmp 5)))
            (.op (some 29) (.p (.mv (.tmp 8)))
            (.op (some 30) (.l 1 1 [(.string ⟨#[]⟩)] [(0, (1, (false, (.tmp 29))))])
            (.op (some 31) (.w (.app 9000 1 16 (.tmp 28) (.tmp 30)))
            (.op (some 5) (.p (.mv (.tmp 31)))
            .done)))))))))))
        (.hook 8 (.op (some 24) (.p (.mv (.tmp 7)))
        (.op (some 25) (.p (.bin .add (.tmp 24) (.const (.int .i64 1))))
        (.op (some 7) (.p (.mv (.tmp 25)))
        .done))))))))))
  (.hook 11 (.op (some 32) (.p (.mv (.tmp 0)))
  (.op (some 33) (.p (.mv (.tmp 0)))
  (.op (some 34) (.p (.nilc (.tmp 33)))
  (.op (some 35) (.p (.fad (.tmp 34) 0))
  (.op (some 36) (.r (.ld false 1 (.tmp 35)))
  (.op (some 37) (.p (.mv (.tmp 5)))
  (.op (some 38) (.l 1 1 [(.slice none 0 0)] [(0, (1, (false, (.tmp 37))))])
  (.op (some 39) (.w (.app 47000 1 24 (.tmp 36) (.tmp 38)))
  (.op (some 40) (.p (.nilc (.tmp 32)))
  (.op (some 41) (.p (.fad (.tmp 40) 0))
  (.op none (.w (.st false 1 (.tmp 41) (.tmp 39)))
  (.hook 12 (.op (some 42) (.p (.mv (.tmp 5)))
  (.op (some 43) (.p (.mv (.tmp 1)))
  (.op (some 44) (.p (.lenr (.tmp 43)))
  (.op (some 45) (.p (.slc 1 (.tmp 42) none (some (.tmp 44)) none))
  (.op (some 4) (.p (.mv (.tmp 45)))
  .ret))))))))))))))))))))))))
theorem k55 : compF Tryz.prog 55 = some (c55, [(.t 4)], 46) := by kernel_rfl
/- "(*hallmark/hallmarkkit.Loan).Values" -/
def c7 : S :=
  (.hook 0 (.op (some 4) (.p (.mv (.const (.slice none 0 0))))
  (.hook 1 (.op (some 5) (.p (.mv (.const (.slice none 0 0))))
  (.sq 2
    (.hook 2 (.op (some 6) (.p (.mv (.const (.int .i64 0))))
    (.block 0
      (.loop
        (.sq 3
          (.hook 3 (.op (some 10) (.p (.mv (.tmp 6)))
          (.op (some 11) (.p (.mv (.tmp 1)))
          (.op (some 12) (.p (.lenr (.tmp 11)))
          (.op (some 13) (.p (.bin .lss (.tmp 10) (.tmp 12)))
          (.ite (.tmp 13)
            .done
            (.exit 0)))))))
        (.sq 5
          (.block 1
            (.hook 5 (.op (some 16) (.p (.mv (.tmp 0)))
            (.op (some 17) (.p (.mv (.tmp 1)))
            (.op (some 18) (.p (.mv (.tmp 6)))
            (.op (some 19) (.p (.iad 5 (.tmp 17) (.tmp 18)))
            (.op (some 20) (.r (.ld true 5 (.tmp 19)))
            (.op (some 21) (.w (.call 23 [(.tmp 16), (.tmp 20)]))
            (.op (some 7) (.w (.alloc 5 [(.int .i64 0), (.string ⟨#[]⟩), (.string ⟨#[]⟩), (.slice none 0 0), (.slice none 0 0)]))
            (.op none (.w (.st true 5 (.tmp 7) (.tmp 21)))
            (.hook 6 (.op (some 22) (.p (.mv (.tmp 5)))
            (.op (some 23) (.r (.ld true 5 (.tmp 7)))
            (.op (some 24) (.l 5 1 [(.int .i64 0), (.string ⟨#[]⟩), (.string ⟨#[]⟩), (.slice none 0 0), (.slice none 0 0)] [(0, (5, (true, (.tmp 23))))])
            (.op (some 25) (.w (.app 49000 5 88 (.tmp 22) (.tmp 24)))
            (.op (some 5) (.p (.mv (.tmp 25)))
            .done))))))))))))))))
        (.hook 4 (.op (some 14) (.p (.mv (.tmp 6)))
        (.op (some 15) (.p (.bin .add (.tmp 14) (.const (.int .i64 1))))
        (.op (some 6) (.p (.mv (.tmp 15)))
        .done))))))))))
  (.sq 7
    (.hook 7 (.op (some 8) (.p (.mv (.const (.int .i64 0))))
    (.block 2
      (.loop
        (.sq 8
          (.hook 8 (.op (some 26) (.p (.mv (.tmp 8)))
          (.op (some 27) (.p (.bin .lss (.tmp 26) (.const (.int .i64 16))))
          (.ite (.tmp 27)
            .done
            (.exit 2)))))
        (.sq 10
          (.block 3
            (.hook 10 (.op (some 30) (.p (.mv (.tmp 8)))
            (.op (some 31) (.w (.call 24 [(.const (.int .i64 (-9))), (.tmp 30)]))
            (.op (some 9) (.w (.alloc 5 [(.int .i64 0), (.string ⟨#[]⟩), (.string ⟨#[]⟩), (.slice none 0 0), (.slice none 0 0)]))
            (.op none (.w (.st true 5 (.tmp 9) (.tmp 31)))
            (.hook 11 (.op (some 32) (.p (.mv (.tmp 5)))
            (.op (some 33) (.r (.ld true 5 (.tmp 9)))
            (.op (some 34) (.l 5 1 [(.int .i64 0), (.string ⟨#[]⟩), (.string ⟨#[]⟩), (.slice none 0 0), (.slice none 0 0)] [(0, (5, (true, (.tmp 33))))])
            (.op (some 35) (.w (.app 49000 5 88 (.tmp 32) (.tmp 34)))
            (.op (some 5) (.p (.mv (.tmp 35)))
            .done))))))))))))
        (.hook 9 (.op (some 28) (.p (.mv (.tmp 8)))
        (.op (some 29) (.p (.bin .add (.tmp 28) (.const (.int .i64 1))))
        (.op (some 8) (.p (.mv (.tmp 29)))
        .done))))))))))
  (.hook 12 (.op (some 36) (.p (.mv (.tmp 0)))
  (.op (some 37) (.p (.mv (.tmp 0)))
  (.op (some 38) (.p (.nilc (.tmp 37)))
  (.op (some 39) (.p (.fad (.tmp 38) 4))
  (.op (some 40) (.r (.ld false 1 (.tmp 39)))
  (.op (some 41) (.p (.mv (.tmp 5)))
  (.op (some 42) (.l 1 1 [(.slice none 0 0)] [(0, (1, (false, (.tmp 41))))])
  (.op (some 43) (.w (.app 22000 1 24 (.tmp 40) (.tmp 42)))
  (.op (some 44) (.p (.nilc (.tmp 36)))
  (.op (some 45) (.p (.fad (.tmp 44) 4))
  (.op none (.w (.st false 1 (.tmp 45) (.tmp 43)))
  (.hook 13 (.op (some 46) (.p (.mv (.tmp 5)))
  (.op (some 47) (.p (.mv (.tmp 1)))
  (.op (some 48) (.p (.lenr (.tmp 47)))
  (.op (some 49) (.p (.slc 5 (.tmp 46) none (some (.tmp 48)) none))
  (.op (some 4) (.p (.mv (.tmp 49)))
  .ret))))))))))))))))))))))))
theorem k7 : compF Tryz.prog 7 = some (c7, [(.t 4)], 50) := by kernel_rfl
/- "(*hallmark/hallmarkkit.Loan).Value" -/
def c23 : S :=
  (.hook 0 (.op (some 3) (.w (.box true 5 (.tmp 1)))
  (.op (some 4) (.w (.alloc 5 [(.int .i64 0), (.string ⟨#[]⟩), (.string ⟨#[]⟩), (.slice none 0 0), (.slice none 0 0)]))
  (.hook 1 (.op (some 6) (.r (.ld true 5 (.tmp 3)))
  (.op (some 5) (.w (.alloc 5 [(.int .i64 0), (.string ⟨#[]⟩), (.string ⟨#[]⟩), (.slice none 0 0), (.slice none 0 0)]))
  (.op none (.w (.st true 5 (.tmp 5) (.tmp 6)))
  (.hook 2 (.op (some 7) (.p (.mv (.tmp 0)))
  (.op (some 8) (.p (.fad (.tmp 3) 3))
  (.op (some 9) (.r (.ld false 1 (.tmp 8)))
  (.op (some 10) (.w (.call 7 [(.tmp 7), (.tmp 9)]))
  (.op (some 11) (.p (.fad (.tmp 5) 3))
  (.op none (.w (.st false 1 (.tmp 11) (.tmp 10)))
  (.hook 3 (.op (some 12) (.p (.mv (.tmp 0)))
  (.op (some 13) (.p (.fad (.tmp 3) 4))
  (.op (some 14) (.r (.ld false 1 (.tmp 13)))
  (.op (some 15) (.w (.call 55 [(.tmp 12), (.tmp 14)]))
  (.op (some 16) (.p (.fad (.tmp 5) 4))
  (.op none (.w (.st false 1 (.tmp 16) (.tmp 15)))
  (.hook 4 (.op (some 17) (.r (.ld true 5 (.tmp 5)))
  (.op none (.w (.st true 5 (.tmp 4) (.tmp 17)))
  .ret))))))))))))))))))))))))
theorem k23 : compF Tryz.prog 23 = some (c23, [(.c 4 true 5)], 18) := by kernel_rfl
/- "(*hallmark/hallmarkkit.Loan).Kept" -/
def c13 : S :=
  (.hook 0 (.op (some 2) (.p (.mv (.const (.bool false))))
  (.sq 1
    (.hook 1 (.op (some 3) (.p (.mv (.tmp 0)))
    (.op (some 4) (.p (.nilc (.tmp 3)))
    (.op (some 5) (.p (.fad (.tmp 4) 0))
    (.op (some 6) (.r (.ld false 1 (.tmp 5)))
    (.op (some 7) (.w (.call 31 [(.tmp 6)]))
    (.op (some 8) (.p (.not (.tmp 7)))
    (.ite (.tmp 8)
      (.hook 2 (.op (some 2) (.p (.mv (.const (.bool false))))
      .ret))
      .done))))))))
  (.sq 3
    (.hook 3 (.op (some 9) (.p (.mv (.tmp 0)))
    (.op (some 10) (.p (.nilc (.tmp 9)))
    (.op (some 11) (.p (.fad (.tmp 10) 1))
    (.op (some 12) (.r (.ld false 1 (.tmp 11)))
    (.op (some 13) (.w (.call 32 [(.tmp 12)]))
    (.op (some 14) (.p (.not (.tmp 13)))
    (.ite (.tmp 14)
      (.hook 4 (.op (some 2) (.p (.mv (.const (.bool false))))
      .ret))
      .done))))))))
  (.sq 5
    (.hook 5 (.op (some 15) (.p (.mv (.tmp 0)))
    (.op (some 16) (.p (.nilc (.tmp 15)))
    (.op (some 17) (.p (.fad (.tmp 16) 2))
    (.op (some 18) (.r (.ld false 1 (.tmp 17)))
    (.op (some 19) (.w (.call 33 [(.tmp 18)]))
    (.op (some 20) (.p (.not (.tmp 19)))
    (.ite (.tmp 20)
      (.hook 6 (.op (some 2) (.p (.mv (.const (.bool false))))
      .ret))
      .done))))))))
  (.sq 7
    (.hook 7 (.op (some 21) (.p (.mv (.tmp 0)))
    (.op (some 22) (.p (.nilc (.tmp 21)))
    (.op (some 23) (.p (.fad (.tmp 22) 3))
    (.op (some 24) (.r (.ld false 1 (.tmp 23)))
    (.op (some 25) (.w (.call 34 [(.tmp 24)]))
    (.op (some 26) (.p (.not (.tmp 25)))
    (.ite (.tmp 26)
      (.hook 8 (.op (some 2) (.p (.mv (.const (.bool false))))
      .ret))
      .done))))))))
  (.sq 9
    (.hook 9 (.op (some 27) (.p (.mv (.tmp 0)))
    (.op (some 28) (.p (.nilc (.tmp 27)))
    (.op (some 29) (.p (.fad (.tmp 28) 4))
    (.op (some 30) (.r (.ld false 1 (.tmp 29)))
    (.op (some 31) (.w (.call 35 [(.tmp 30)]))
    (.op (some 32) (.p (.not (.tmp 31)))
    (.ite (.tmp 32)
      (.hook 10 (.op (some 2) (.p (.mv (.const (.bool false))))
      .ret))
      .done))))))))
  (.sq 11
    (.hook 11 (.op (some 33) (.p (.mv (.tmp 0)))
    (.op (some 34) (.p (.nilc (.tmp 33)))
    (.op (some 35) (.p (.fad (.tmp 34) 5))
    (.op (some 36) (.r (.ld false 1 (.tmp 35)))
    (.op (some 37) (.w (.call 36 [(.tmp 36)]))
    (.op (some 38) (.p (.not (.tmp 37)))
    (.ite (.tmp 38)
      (.hook 12 (.op (some 2) (.p (.mv (.const (.bool false))))
      .ret))
      .done))))))))
  (.sq 13
    (.hook 13 (.op (some 39) (.p (.mv (.tmp 0)))
    (.op (some 40) (.p (.nilc (.tmp 39)))
    (.op (some 41) (.p (.fad (.tmp 40) 6))
    (.op (some 42) (.r (.ld false 1 (.tmp 41)))
    (.op (some 43) (.w (.call 37 [(.tmp 42)]))
    (.op (some 44) (.p (.not (.tmp 43)))
    (.ite (.tmp 44)
      (.hook 14 (.op (some 2) (.p (.mv (.const (.bool false))))
      .ret))
      .done))))))))
  (.sq 15
    (.hook 15 (.op (some 45) (.p (.mv (.tmp 0)))
    (.op (some 46) (.p (.nilc (.tmp 45)))
    (.op (some 47) (.p (.fad (.tmp 46) 7))
    (.op (some 48) (.r (.ld false 1 (.tmp 47)))
    (.op (some 49) (.w (.call 38 [(.tmp 48)]))
    (.op (some 50) (.p (.not (.tmp 49)))
    (.ite (.tmp 50)
      (.hook 16 (.op (some 2) (.p (.mv (.const (.bool false))))
      .ret))
      .done))))))))
  (.sq 17
    (.hook 17 (.op (some 51) (.p (.mv (.tmp 0)))
    (.op (some 52) (.p (.nilc (.tmp 51)))
    (.op (some 53) (.p (.fad (.tmp 52) 8))
    (.op (some 54) (.r (.ld false 1 (.tmp 53)))
    (.op (some 55) (.w (.call 39 [(.tmp 54)]))
    (.op (some 56) (.p (.not (.tmp 55)))
    (.ite (.tmp 56)
      (.hook 18 (.op (some 2) (.p (.mv (.const (.bool false))))
      .ret))
      .done))))))))
  (.sq 19
    (.hook 19 (.op (some 57) (.p (.mv (.tmp 0)))
    (.op (some 58) (.p (.nilc (.tmp 57)))
    (.op (some 59) (.p (.fad (.tmp 58) 9))
    (.op (some 60) (.r (.ld false 1 (.tmp 59)))
    (.op (some 61) (.w (.call 40 [(.tmp 60)]))
    (.op (some 62) (.p (.not (.tmp 61)))
    (.ite (.tmp 62)
      (.hook 20 (.op (some 2) (.p (.mv (.const (.bool false))))
      .ret))
      .done))))))))
  (.sq 21
    (.hook 21 (.op (some 63) (.p (.mv (.tmp 0)))
    (.op (some 64) (.p (.nilc (.tmp 63)))
    (.op (some 65) (.p (.fad (.tmp 64) 10))
    (.op (some 66) (.r (.ld false 1 (.tmp 65)))
    (.op (some 67) (.w (.call 41 [(.tmp 66)]))
    (.op (some 68) (.p (.not (.tmp 67)))
    (.ite (.tmp 68)
      (.hook 22 (.op (some 2) (.p (.mv (.const (.bool false))))
      .ret))
      .done))))))))
  (.sq 23
    (.hook 23 (.op (some 69) (.p (.mv (.tmp 0)))
    (.op (some 70) (.p (.nilc (.tmp 69)))
    (.op (some 71) (.p (.fad (.tmp 70) 11))
    (.op (some 72) (.r (.ld false 1 (.tmp 71)))
    (.op (some 73) (.w (.call 42 [(.tmp 72)]))
    (.op (some 74) (.p (.not (.tmp 73)))
    (.ite (.tmp 74)
      (.hook 24 (.op (some 2) (.p (.mv (.const (.bool false))))
      .ret))
      .done))))))))
  (.sq 25
    (.hook 25 (.op (some 75) (.p (.mv (.tmp 0)))
    (.op (some 76) (.p (.nilc (.tmp 75)))
    (.op (some 77) (.p (.fad (.tmp 76) 12))
    (.op (some 78) (.r (.ld false 1 (.tmp 77)))
    (.op (some 79) (.w (.call 43 [(.tmp 78)]))
    (.op (some 80) (.p (.not (.tmp 79)))
    (.ite (.tmp 80)
      (.hook 26 (.op (some 2) (.p (.mv (.const (.bool false))))
      .ret))
      .done))))))))
  (.sq 27
    (.hook 27 (.op (some 81) (.p (.mv (.tmp 0)))
    (.op (some 82) (.p (.nilc (.tmp 81)))
    (.op (some 83) (.p (.fad (.tmp 82) 13))
    (.op (some 84) (.r (.ld false 1 (.tmp 83)))
    (.op (some 85) (.w (.call 44 [(.tmp 84)]))
    (.op (some 86) (.p (.not (.tmp 85)))
    (.ite (.tmp 86)
      (.hook 28 (.op (some 2) (.p (.mv (.const (.bool false))))
      .ret))
      .done))))))))
  (.sq 29
    (.hook 29 (.op (some 87) (.p (.mv (.tmp 0)))
    (.op (some 88) (.p (.nilc (.tmp 87)))
    (.op (some 89) (.p (.fad (.tmp 88) 14))
    (.op (some 90) (.r (.ld false 1 (.tmp 89)))
    (.op (some 91) (.w (.call 45 [(.tmp 90)]))
    (.op (some 92) (.p (.not (.tmp 91)))
    (.ite (.tmp 92)
      (.hook 30 (.op (some 2) (.p (.mv (.const (.bool false))))
      .ret))
      .done))))))))
  (.sq 31
    (.hook 31 (.op (some 93) (.p (.mv (.tmp 0)))
    (.op (some 94) (.p (.nilc (.tmp 93)))
    (.op (some 95) (.p (.fad (.tmp 94) 15))
    (.op (some 96) (.r (.ld false 1 (.tmp 95)))
    (.op (some 97) (.w (.call 46 [(.tmp 96)]))
    (.op (some 98) (.p (.not (.tmp 97)))
    (.ite (.tmp 98)
      (.hook 32 (.op (some 2) (.p (.mv (.const (.bool false))))
      .ret))
      .done))))))))
  (.hook 33 (.op (some 2) (.p (.mv (.const (.bool true))))
  .ret))))))))))))))))))))
theorem k13 : compF Tryz.prog 13 = some (c13, [(.t 2)], 99) := by kernel_rfl
/- "hallmark/hallmarkkit.keptStrings" -/
def c31 : S :=
  (.hook 0 (.op (some 2) (.p (.mv (.const (.bool false))))
  (.sq 1
    (.hook 1 (.op (some 3) (.p (.mv (.const (.int .i64 0))))
    (.block 0
      (.loop
        (.sq 2
          (.hook 2 (.op (some 7) (.p (.mv (.tmp 3)))
          (.op (some 8) (.p (.mv (.tmp 0)))
          (.op (some 9) (.p (.lenr (.tmp 8)))
          (.op (some 10) (.p (.bin .lss (.tmp 7) (.tmp 9)))
          (.ite (.tmp 10)
            .done
            (.exit 0)))))))
        (.sq 4
          (.block 1
            (.hook 4 (.op (some 13) (.p (.mv (.tmp 0)))
            (.op (some 14) (.p (.mv (.tmp 3)))
            (.op (some 15) (.p (.iad 1 (.tmp 13) (.tmp 14)))
            (.op (some 16) (.r (.ld false 1 (.tmp 15)))
            (.op (some 4) (.p (.mv (.tmp 16)))
            (.hook 5 (.op (some 5) (.p (.mv (.const (.int .i64 0))))
            (.block 2
              (.loop
                (.sq 6
                  (.hook 6 (.op (some 17) (.p (.mv (.tmp 5)))
                  (.op (some 18) (.p (.bin .lss (.tmp 17) (.const (.int .i64 16))))
                  (.ite (.tmp 18)
                    .done
                    (.exit 2)))))
                (.sq 8
                  (.block 3
                    (.hook 8 (.op (some 21) (.p (.mv (.tmp 5)))
                    (.op (some 22) (.w (.call 67 [(.const (.int .i64 (-9))), (.tmp 21)]))
                    (.op (some 6) (.p (.mv (.tmp 22)))
                    (.hook 9 (.op (some 23) (.p (.mv (.tmp 4)))
                    (.op (some 24) (.p (.mv (.tmp 4)))
                    (.op (some 25) (.p (.lenr (.tmp 24)))
                    (.op (some 26) (.p (.bin .sub (.tmp 25) (.const (.int .i64 16))))
                    (.op (some 27) (.p (.mv (.tmp 5)))
                    (.op (some 28) (.p (.bin .add (.tmp 26) (.tmp 27)))
                    (.op (some 29) (.p (.iad 1 (.tmp 23) (.tmp 28)))
                    (.op (some 30) (.r (.ld false 1 (.tmp 29)))
                    (.op (some 31) (.p (.mv (.tmp 6)))
                    (.op (some 32) (.p (.bin .neq (.tmp 30) (.tmp 31)))
                    (.ite (.tmp 32)
                      (.hook 10 (.op (some 2) (.p (.mv (.const (.bool false))))
                      .ret))
                      .done)))))))))))))))))
                (.hook 7 (.op (some 19) (.p (.mv (.tmp 5)))
                (.op (some 20) (.p (.bin .add (.tmp 19) (.const (.int .i64 1))))
                (.op (some 5) (.p (.mv (.tmp 20)))
                .done)))))))))))))))))
        (.hook 3 (.op (some 11) (.p (.mv (.tmp 3)))
        (.op (some 12) (.p (.bin .add (.tmp 11) (.const (.int .i64 1))))
        (.op (some 3) (.p (.mv (.tmp 12)))
        .done))))))))))
  (.hook 11 (.op (some 2) (.p (.mv (.const (.bool true))))
  .ret)))))
theorem k31 : compF Tryz.prog 31 = some (c31, [(.t 2)], 33) := by kernel_rfl
/- "hallmark/hallmarkkit.keptValues" -/
def c35 : S :=
  (.hook 0 (.op (some 2) (.p (.mv (.const (.bool false))))
  (.sq 1
    (.hook 1 (.op (some 3) (.p (.mv (.const (.int .i64 0))))
    (.block 0
      (.loop
        (.sq 2
          (.hook 2 (.op (some 7) (.p (.mv (.tmp 3)))
          (.op (some 8) (.p (.mv (.tmp 0)))
          (.op (some 9) (.p (.lenr (.tmp 8)))
          (.op (some 10) (.p (.bin .lss (.tmp 7) (.tmp 9)))
          (.ite (.tmp 10)
            .done
            (.exit 0)))))))
        (.sq 4
          (.block 1
            (.hook 4 (.op (some 13) (.p (.mv (.tmp 0)))
            (.op (some 14) (.p (.mv (.tmp 3)))
            (.op (some 15) (.p (.iad 1 (.tmp 13) (.tmp 14)))
            (.op (some 16) (.r (.ld false 1 (.tmp 15)))
            (.op (some 4) (.p (.mv (.tmp 16)))
            (.hook 5 (.op (some 5) (.p (.mv (.const (.int .i64 0))))
            (.block 2
              (.loop
                (.sq 6
                  (.hook 6 (.op (some 17) (.p (.mv (.tmp 5)))
                  (.op (some 18) (.p (.bin .lss (.tmp 17) (.const (.int .i64 16))))
                  (.ite (.tmp 18)
                    .done
                    (.exit 2)))))
                (.sq 8
                  (.block 3
                    (.hook 8 (.op (some 21) (.p (.mv (.tmp 5)))
                    (.op (some 22) (.w (.call 24 [(.const (.int .i64 (-9))), (.tmp 21)]))
                    (.op (some 6) (.w (.alloc 5 [(.int .i64 0), (.string ⟨#[]⟩), (.string ⟨#[]⟩), (.slice none 0 0), (.slice none 0 0)]))
                    (.op none (.w (.st true 5 (.tmp 6) (.tmp 22)))
                    (.hook 9 (.op (some 23) (.p (.mv (.tmp 4)))
                    (.op (some 24) (.p (.mv (.tmp 4)))
                    (.op (some 25) (.p (.lenr (.tmp 24)))
                    (.op (some 26) (.p (.bin .sub (.tmp 25) (.const (.int .i64 16))))
                    (.op (some 27) (.p (.mv (.tmp 5)))
                    (.op (some 28) (.p (.bin .add (.tmp 26) (.tmp 27)))
                    (.op (some 29) (.p (.iad 5 (.tmp 23) (.tmp 28)))
                    (.op (some 30) (.r (.ld true 5 (.tmp 29)))
                    (.op (some 31) (.r (.ld true 5 (.tmp 6)))
                    (.op (some 32) (.w (.call 30 [(.tmp 30), (.tmp 31)]))
                    (.op (some 33) (.p (.not (.tmp 32)))
                    (.ite (.tmp 33)
                      (.hook 10 (.op (some 2) (.p (.mv (.const (.bool false))))
                      .ret))
                      .done)))))))))))))))))))
                (.hook 7 (.op (some 19) (.p (.mv (.tmp 5)))
                (.op (some 20) (.p (.bin .add (.tmp 19) (.const (.int .i64 1))))
                (.op (some 5) (.p (.mv (.tmp 20)))
                .done)))))))))))))))))
        (.hook 3 (.op (some 11) (.p (.mv (.tmp 3)))
        (.op (some 12) (.p (.bin .add (.tmp 11) (.const (.int .i64 1))))
        (.op (some 3) (.p (.mv (.tmp 12)))
        .done))))))))))
  (.hook 11 (.op (some 2) (.p (.mv (.const (.bool true))))
  .ret)))))
theorem k35 : compF Tryz.prog 35 = some (c35, [(.t 2)], 34) := by kernel_rfl
/-- The marks behind a lent row of texts. -/
def mkS (n : Nat) : List (List UInt8) := (List.range n).map mk9
theorem mkS_len (n : Nat) : (mkS n).length = n := by simp [mkS]
theorem mkS_succ (n : Nat) : mkS (n + 1) = mkS n ++ [mk9 n] := by simp [mkS, List.range_succ]
def mkV (n : Nat) : List JV := (List.range n).map mkJ
theorem mkV_len (n : Nat) : (mkV n).length = n := by simp [mkV]
theorem mkV_succ (n : Nat) : mkV (n + 1) = mkV n ++ [mkJ n] := by simp [mkV, List.range_succ]
theorem mkS_get {j : Nat} (hj : j < 16) : (mkS 16)[j]? = some (mk9 j) := by simp [mkS, hj]
theorem mkV_get {j : Nat} (hj : j < 16) : (mkV 16)[j]? = some (mkJ j) := by simp [mkV, hj]
/-- A loan's row of texts, of values. -/
def slR (l : List (List UInt8)) : List V := [.row 1 ((l ++ mkS 16).map keyC)]
def vlR (l : List JV) : List V := [.row 5 ((l ++ mkV 16).map JV.cells)]
/-- What a loan holds. -/
def lnH (kh ks kv : Nat) (S : List (List (List UInt8))) (W : List (List JV)) (h : Hp) : Hp :=
  (kh, .blk 16 [[.osl 1 ks 0 S.length, vnil, vnil, vnil, .osl 1 kv 0 W.length, vnil, vnil, vnil, vnil, vnil, vnil, vnil, vnil, vnil, vnil, vnil]]) :: (ks, .blk 1 (S.map slR)) :: (kv, .blk 1 (W.map vlR)) :: h
theorem er_same {R : V → V → Prop} (hr : ∀ x, R x x) : ∀ es : List (List V), ER R es es
  | [] => .nil
  | x :: r => .cons _ _ _ _ (lr x) (er_same hr r)
where lr : ∀ l : List V, LR R l l
  | [] => .nil
  | x :: l => .cons _ _ _ _ (hr x) (lr l)
theorem er_last {R : V → V → Prop} (hr : ∀ x, R x x) {x y : V} (h : R x y) : ∀ es : List (List V), ER R (es ++ [[x]]) (es ++ [[y]])
  | [] => .cons _ _ _ _ (.cons _ _ _ _ h .nil) .nil
  | e :: r => .cons _ _ _ _ (er_same.lr hr e) (er_last hr h r)
theorem key_take (l : List (List UInt8)) (i : Nat) (hi : i < l.length) : (l.take (i + 1)).map keyC = (l.take i).map keyC ++ [[vstr (l.getD i [])]] := by
  rw [List.take_succ_eq_append_getElem hi, List.map_append]; congr 1; simp [keyC, List.getD, hi]
theorem lnS (kh ks kv : Nat) (S : List (List (List UInt8))) (W : List (List JV)) (l : List (List UInt8)) (h : Hp) : lnH kh ks kv (S ++ [l]) W h = (kh, .blk 16 [[.osl 1 ks 0 (S.length + 1), vnil, vnil, vnil, .osl 1 kv 0 W.length, vnil, vnil, vnil, vnil, vnil, vnil, vnil, vnil, vnil, vnil, vnil]]) :: (ks, .blk 1 (S.map slR ++ [[.row 1 ((l ++ mkS 16).map keyC)]])) :: (kv, .blk 1 (W.map vlR)) :: h := by simp [lnH, slR]
theorem lstrings_calls (l : List (List UInt8)) (kh ks kv : Nat) (S : List (List (List UInt8))) (W : List (List JV)) (h : Hp) (hl : l.length < 2 ^ 40) (hS : S.length < 2 ^ 42) :
    VCalls Tryz.prog 55 [.ptr 16 kh 0 0, .row 1 (l.map keyC)] (lnH kh ks kv S W h) (fun r h' => r = .row 1 (l.map keyC) ∧ ∃ ks2, h' = lnH kh ks2 kv (S ++ [l]) W h) := by
  refine VCalls.name 1 9000 fun k0 _ => ?_
  unfold lnH
  have hSl : (S.map slR).length = S.length := List.length_map _
  refine xc k55 rfl ?_
  refine run ?_
  refine lp (fun x : Nat × Nat => [(0, .ptr 16 kh 0 0), (1, .row 1 (l.map keyC)), (5, .osl 1 x.2 0 x.1), (6, int x.1)]) (fun x => (x.2, .blk 1 ((l.take x.1).map keyC)) :: lnH kh ks kv S W h) (fun x => x.1 ≤ l.length) (fun x => l.length - x.1) (wkx (0, k0) (by omega) fits rfl) ?_
  rintro ⟨i, k⟩ hi
  dsimp only at hi ⊢
  have hlt : ((l.take i).map keyC).length = i := by simp only [List.length_map, List.length_take]; omega
  unfold lnH
  refine run ?_
  refine br_d (fun hlt2 => ?_) (fun hlt2 => ?_)
  · refine run ?_
    refine at_key (by omega) ?_
    refine run ?_
    refine new_k fun k2 => ?_
    refine run ?_
    refine run ?_
    refine wkx (i + 1, k2) ⟨by dsimp only; omega, by dsimp only; omega⟩ fits ?_
    dsimp only
    rw [key_take l i (by omega)]
  · obtain rfl : i = l.length := by omega
    rw [List.take_length] at *
    refine run ?_
    refine lp (fun x : Nat × Nat => [(0, .ptr 16 kh 0 0), (1, .row 1 (l.map keyC)), (5, .osl 1 x.2 0 (l.length + x.1)), (7, int x.1)]) (fun x => (x.2, .blk 1 ((l ++ mkS x.1).map keyC)) :: lnH kh ks kv S W h) (fun x => x.1 ≤ 16) (fun x => 16 - x.1) (wkx (0, k) (by omega) fits (by simp [mkS, lnH])) ?_
    rintro ⟨j, k⟩ hj
    dsimp only at hj ⊢
    have hlj : ((l ++ mkS j).map keyC).length = l.length + j := by simp [mkS_len]
    unfold lnH
    refine run ?_
    refine br_d (fun hlt3 => ?_) (fun hlt3 => ?_)
    · refine run ?_
      refine VCalls.use (markS_calls j (by omega) _) ?_
      rintro _ _ ⟨rfl, rfl⟩
      refine run ?_
      refine new_k fun k2 => ?_
      refine run ?_
      refine run ?_
      refine wkx (j + 1, k2) ⟨by dsimp only; omega, by dsimp only; omega⟩ fits ?_
      dsimp only
      rw [mkS_succ, ← List.append_assoc]; simp only [List.map_append]; rfl
    · obtain rfl : j = 16 := by omega
      refine run ?_
      refine new_k fun k2 => ?_
      refine run ?_
      refine run ?_
      refine .gen (VFz k 1 ((l ++ mkS 16).map keyC)) _ _ _ (lnH kh k2 kv (S ++ [l]) W h) ?_ (.osl 0 l.length (by omega)) (retv ⟨by simp, k2, rfl⟩)
      rw [lnS]
      exact HS.freeze (h1 := []) (.skip _ _ _ (.blk _ _ _ _ _ _ (er_last (fun x => .same x) (.all _ (by omega)) _) (.same _)))
theorem jv_take (l : List JV) (i : Nat) (hi : i < l.length) : (l.take (i + 1)).map JV.cells = (l.take i).map JV.cells ++ [(l[i]).c5] := by
  rw [List.take_succ_eq_append_getElem hi, List.map_append]; congr 1; simp [JV.cells_c5]
theorem lnP (kh ks kv : Nat) (S : List (List (List UInt8))) (W : List (List JV)) (x : Nat × HO) (h : Hp) : (lnH kh ks kv S W (x :: h)).Perm (x :: lnH kh ks kv S W h) := by
  unfold lnH
  exact ((List.Perm.swap _ _ _).cons _ |>.cons _).trans (((List.Perm.swap _ _ _).cons _).trans (List.Perm.swap _ _ _))
/-- A loan of which the last row of values is written still. -/
def lnO (kh ks kv k n : Nat) (S : List (List (List UInt8))) (W : List (List JV)) (h : Hp) : Hp :=
  (kh, .blk 16 [[.osl 1 ks 0 S.length, vnil, vnil, vnil, .osl 1 kv 0 (W.length + 1), vnil, vnil, vnil, vnil, vnil, vnil, vnil, vnil, vnil, vnil, vnil]]) :: (ks, .blk 1 (S.map slR)) :: (kv, .blk 1 (W.map vlR ++ [[.osl 5 k 0 n]])) :: h
theorem lnV (kh ks kv : Nat) (S : List (List (List UInt8))) (W : List (List JV)) (l : List JV) (h : Hp) : lnH kh ks kv S (W ++ [l]) h = (kh, .blk 16 [[.osl 1 ks 0 S.length, vnil, vnil, vnil, .osl 1 kv 0 (W.length + 1), vnil, vnil, vnil, vnil, vnil, vnil, vnil, vnil, vnil, vnil, vnil]]) :: (ks, .blk 1 (S.map slR)) :: (kv, .blk 1 (W.map vlR ++ [[.row 5 ((l ++ mkV 16).map JV.cells)]])) :: h := by simp [lnH, vlR]
/-- Lists that are not too long. -/
def Sm {α : Type} (S : List (List α)) : Prop := ∀ l ∈ S, l.length < 2 ^ 40
theorem Sm.nil {α : Type} : Sm ([] : List (List α)) := fun _ h => by cases h
theorem Sm.add {α : Type} {S : List (List α)} {l : List α} (h : Sm S) (hl : l.length < 2 ^ 40) : Sm (S ++ [l]) := fun x hx => by
  rcases List.mem_append.1 hx with h1 | h1
  · exact h x h1
  · obtain rfl : x = l := by simpa using h1
    exact hl
/-- A value lent. -/
def LvIH (n : Nat) : Prop := ∀ v : JV, v.bk < n → v.bk < 2 ^ 40 → ∀ (kh ks kv : Nat) (S : List (List (List UInt8))) (W : List (List JV)) (h : Hp), S.length + v.bk < 2 ^ 41 → W.length + v.bk < 2 ^ 41 → Sm S → Sm W →
  VCalls Tryz.prog 23 [.ptr 16 kh 0 0, .agg v.c5] (lnH kh ks kv S W h) (fun r h' => r = .agg v.c5 ∧ ∃ ks2 kv2 S2 W2, S2.length ≤ S.length + v.bk ∧ W2.length ≤ W.length + v.bk ∧ Sm S2 ∧ Sm W2 ∧ h' = lnH kh ks2 kv2 S2 W2 h)
theorem lvals_own {n : Nat} (IH : LvIH n) (l : List JV) (hn : bkL l < n) (hb : bkL l < 2 ^ 40) (kh ks kv : Nat) (S : List (List (List UInt8))) (W : List (List JV)) (h : Hp) (hS : S.length + bkL l < 2 ^ 41) (hW : W.length + bkL l < 2 ^ 41) (sS : Sm S) (sW : Sm W) :
    VCalls Tryz.prog 7 [.ptr 16 kh 0 0, .row 5 (l.map JV.cells)] (lnH kh ks kv S W h) (fun r h' => ∃ k ks2 kv2 S2 W2, r = .osl 5 k 0 l.length ∧ S2.length ≤ S.length + bkL l ∧ W2.length ≤ W.length + bkL l ∧ Sm S2 ∧ Sm W2 ∧ h' = lnO kh ks2 kv2 k (l.length + 16) S2 W2 ((k, .blk 5 ((l ++ mkV 16).map JV.cells)) :: h)) := by
  refine VCalls.name 5 49000 fun k0 _ => ?_
  refine VCalls.perm (lnP _ _ _ _ _ _ _) ?_
  have hll := bkL_len l
  refine xc k7 rfl ?_
  refine run ?_
  refine lp (fun x : Nat × Nat × Nat × Nat × List (List (List UInt8)) × List (List JV) => [(0, .ptr 16 kh 0 0), (1, .row 5 (l.map JV.cells)), (5, .osl 5 x.2.1 0 x.1), (6, int x.1)]) (fun x => lnH kh x.2.2.1 x.2.2.2.1 x.2.2.2.2.1 x.2.2.2.2.2 ((x.2.1, .blk 5 ((l.take x.1).map JV.cells)) :: h)) (fun x => x.1 ≤ l.length ∧ x.2.2.2.2.1.length ≤ S.length + bkL (l.take x.1) ∧ x.2.2.2.2.2.length ≤ W.length + bkL (l.take x.1) ∧ Sm x.2.2.2.2.1 ∧ Sm x.2.2.2.2.2) (fun x => l.length - x.1) (wkx (0, k0, ks, kv, S, W) ⟨by omega, by simp, by simp, sS, sW⟩ fits rfl) ?_
  rintro ⟨i, k, ks1, kv1, S1, W1⟩ ⟨hi, hS1, hW1, sS1, sW1⟩
  dsimp only at hi hS1 hW1 ⊢
  have htl := bkL_take_le l i
  have hlt : ((l.take i).map JV.cells).length = i := by simp only [List.length_map, List.length_take]; omega
  refine run ?_
  refine br_d (fun hlt2 => ?_) (fun hlt2 => ?_)
  · have hil : i < l.length := by omega
    have hml := bk_mem (List.getElem_mem hil)
    have htk := bkL_take l i hil
    have htl2 := bkL_take_le l (i + 1)
    refine run ?_
    refine at_jv hil ?_
    refine run ?_
    refine VCalls.use (IH l[i] (by omega) (by omega) kh ks1 kv1 S1 W1 _ (by omega) (by omega) sS1 sW1) ?_
    rintro _ _ ⟨rfl, ks2, kv2, S2, W2, hS2, hW2, sS2, sW2, rfl⟩
    unfold lnH
    refine run ?_
    refine new_k fun k7 => ?_
    refine run ?_
    refine run ?_
    refine new_k fun k2 => ?_
    refine run ?_
    refine run ?_
    refine wkl (i + 1, k2, ks2, kv2, S2, W2) ⟨⟨by dsimp only; omega, by dsimp only; omega, by dsimp only; omega, sS2, sW2⟩, by dsimp only; omega⟩ fits ?_
    dsimp only
    rw [jv_take l i hil]
    exact List.sublist_cons_self _ _
  · obtain rfl : i = l.length := by omega
    rw [List.take_length] at *
    refine run ?_
    refine lp (fun x : Nat × Nat => [(0, .ptr 16 kh 0 0), (1, .row 5 (l.map JV.cells)), (5, .osl 5 x.2 0 (l.length + x.1)), (8, int x.1)]) (fun x => lnH kh ks1 kv1 S1 W1 ((x.2, .blk 5 ((l ++ mkV x.1).map JV.cells)) :: h)) (fun x => x.1 ≤ 16) (fun x => 16 - x.1) (wkx (0, k) (by omega) fits (by simp [mkV])) ?_
    rintro ⟨j, k⟩ hj
    dsimp only at hj ⊢
    have hlj : ((l ++ mkV j).map JV.cells).length = l.length + j := by simp [mkV_len]
    refine run ?_
    refine br_d (fun hlt3 => ?_) (fun hlt3 => ?_)
    · refine run ?_
      refine VCalls.use (markV_calls j (by omega) _) ?_
      rintro _ _ ⟨rfl, rfl⟩
      unfold lnH
      refine run ?_
      refine new_k fun k9 => ?_
      refine run ?_
      refine run ?_
      refine new_k fun k2 => ?_
      refine run ?_
      refine run ?_
      refine wkl (j + 1, k2) ⟨by dsimp only; omega, by dsimp only; omega⟩ fits ?_
      dsimp only
      rw [mkV_succ, ← List.append_assoc]; simp only [List.map_append]
      exact List.sublist_cons_self _ _
    · obtain rfl : j = 16 := by omega
      have hWl : (W1.map vlR).length = W1.length := List.length_map _
      unfold lnH
      refine run ?_
      refine new_k fun k2 => ?_
      refine run ?_
      refine run ?_
      exact retv ⟨k, ks1, k2, S1, W1, rfl, by omega, by omega, sS1, sW1, rfl⟩
theorem lvals_ih {n : Nat} (IH : LvIH n) (l : List JV) (hn : bkL l < n) (hb : bkL l < 2 ^ 40) (kh ks kv : Nat) (S : List (List (List UInt8))) (W : List (List JV)) (h : Hp) (hS : S.length + bkL l < 2 ^ 41) (hW : W.length + bkL l < 2 ^ 41) (sS : Sm S) (sW : Sm W) :
    VCalls Tryz.prog 7 [.ptr 16 kh 0 0, .row 5 (l.map JV.cells)] (lnH kh ks kv S W h) (fun r h' => r = .row 5 (l.map JV.cells) ∧ ∃ ks2 kv2 S2 W2, S2.length ≤ S.length + bkL l ∧ W2.length ≤ W.length + bkL l + 1 ∧ Sm S2 ∧ Sm W2 ∧ h' = lnH kh ks2 kv2 S2 W2 h) := by
  refine VCalls.ret (VCalls.imp (lvals_own IH l hn hb kh ks kv S W h hS hW sS sW) ?_)
  rintro _ _ ⟨k, ks2, kv2, S2, W2, rfl, hS2, hW2, sS2, sW2, rfl⟩
  have hlj : ((l ++ mkV 16).map JV.cells).length = l.length + 16 := by simp [mkV_len]
  refine .gen (VFz k 5 ((l ++ mkV 16).map JV.cells)) _ _ _ (lnH kh ks2 kv2 S2 (W2 ++ [l]) h) ?_ (.osl 0 l.length (by omega)) (retv ⟨by simp, ks2, kv2, S2, W2 ++ [l], hS2, by simp; omega, sS2, sW2.add (by have := bkL_len l; omega), rfl⟩)
  rw [lnV]
  exact HS.freeze (h1 := [_, _, _]) (.skip _ _ _ (.skip _ _ _ (.blk _ _ _ _ _ _ (er_last (fun x => .same x) (.all _ hlj) _) (.same _))))
theorem lnP3 (kh ks kv : Nat) (S : List (List (List UInt8))) (W : List (List JV)) (x y z : Nat × HO) (h : Hp) : (lnH kh ks kv S W (x :: y :: z :: h)).Perm (x :: y :: z :: lnH kh ks kv S W h) :=
  (lnP _ _ _ _ _ _ _).trans (((lnP _ _ _ _ _ _ _).trans ((lnP _ _ _ _ _ _ _).cons _)).cons _)
theorem lnL3 (kh ks kv : Nat) (S : List (List (List UInt8))) (W : List (List JV)) (x y z : Nat × HO) (h : Hp) : (lnH kh ks kv S W h).Sublist (lnH kh ks kv S W (x :: y :: z :: h)) :=
  .cons_cons _ (.cons_cons _ (.cons_cons _ (.cons _ (.cons _ (.cons _ (.refl _))))))
theorem lval_ih {n : Nat} (IH : LvIH n) (v : JV) (hn : v.bk < n + 1) (hb : v.bk < 2 ^ 40) (kh ks kv : Nat) (S : List (List (List UInt8))) (W : List (List JV)) (h : Hp) (hS : S.length + v.bk < 2 ^ 41) (hW : W.length + v.bk < 2 ^ 41) (sS : Sm S) (sW : Sm W) :
    VCalls Tryz.prog 23 [.ptr 16 kh 0 0, .agg v.c5] (lnH kh ks kv S W h) (fun r h' => r = .agg v.c5 ∧ ∃ ks2 kv2 S2 W2, S2.length ≤ S.length + v.bk ∧ W2.length ≤ W.length + v.bk ∧ Sm S2 ∧ Sm W2 ∧ h' = lnH kh ks2 kv2 S2 W2 h) := by
  have he := bk_eq v
  have hkl := keysB_len v.keys
  refine xc k23 rfl ?_
  refine run ?_
  refine new_k fun k3 => ?_
  refine run ?_
  refine new_k fun k4 => ?_
  refine run ?_
  refine new_k fun k5 => ?_
  refine run ?_
  refine VCalls.perm (lnP3 _ _ _ _ _ _ _ _ _) ?_
  refine VCalls.use (lvals_ih IH v.items (by omega) (by omega) kh ks kv S W _ (by omega) (by omega) sS sW) ?_
  rintro _ _ ⟨rfl, ks2, kv2, S2, W2, hS2, hW2, sS2, sW2, rfl⟩
  unfold lnH
  refine run ?_
  refine VCalls.use (lstrings_calls v.keys kh ks2 kv2 S2 W2 _ (by omega) (by omega)) ?_
  rintro _ _ ⟨rfl, ks3, rfl⟩
  unfold lnH
  refine run ?_
  exact .less _ _ _ (lnL3 kh ks3 kv2 (S2 ++ [v.keys]) W2 _ _ _ h) (retv ⟨rfl, ks3, kv2, S2 ++ [v.keys], W2, by simp; omega, by omega, sS2.add (by omega), sW2, rfl⟩)
theorem lvIH : ∀ n, LvIH n
  | 0 => fun v hn => by omega
  | n + 1 => fun v hn hb => lval_ih (lvIH n) v hn hb
/-- The values lent for a law, written still. -/
theorem lvals_calls (l : List JV) (hb : bkL l < 2 ^ 40) (kh ks kv : Nat) (h : Hp) :
    VCalls Tryz.prog 7 [.ptr 16 kh 0 0, .row 5 (l.map JV.cells)] (lnH kh ks kv [] [] h) (fun r h' => ∃ k ks2 kv2 S2 W2, r = .osl 5 k 0 l.length ∧ S2.length < 2 ^ 41 ∧ W2.length < 2 ^ 41 ∧ Sm S2 ∧ Sm W2 ∧ h' = lnO kh ks2 kv2 k (l.length + 16) S2 W2 ((k, .blk 5 ((l ++ mkV 16).map JV.cells)) :: h)) := by
  refine (lvals_own (lvIH (bkL l + 1)) l (by omega) hb kh ks kv [] [] h (by simp; omega) (by simp; omega) .nil .nil).imp ?_
  rintro r h' ⟨k, ks2, kv2, S2, W2, h1, h2, h3, h5, h6, h4⟩
  simp only [List.length_nil] at h2 h3
  exact ⟨k, ks2, kv2, S2, W2, h1, by omega, by omega, h5, h6, h4⟩
theorem at_key_of {l : List (List UInt8)} {i : Nat} {s : List UInt8} {K : List V → Prop} (hi : l[i]? = some s) (h : K [vstr s]) : At (l.map keyC) i K :=
  ⟨_, by simp [hi, keyC], h⟩
theorem keptS_calls (S : List (List (List UInt8))) (h : Hp) (hS : S.length < 2 ^ 41) (sS : Sm S) : VCalls Tryz.prog 31 [.row 1 (S.map slR)] h (fun r h' => r = vbool true ∧ h' = h) := by
  refine xc k31 rfl ?_
  refine run ?_
  refine lp (fun i : Nat => [(0, .row 1 (S.map slR)), (2, vbool false), (3, int i)]) (fun _ => h) (fun i => i ≤ S.length) (fun i => S.length - i) (wkx 0 (by omega) fits rfl) ?_
  rintro i hi
  refine run ?_
  refine br_d (fun hlt => ?_) (fun hlt => ?_)
  · have hil : i < S.length := by omega
    refine run ?_
    refine at_map' hil ?_
    have hl := sS _ (List.getElem_mem hil)
    generalize S[i] = l at hl ⊢
    have hlj : (l ++ mkS 16).length = l.length + 16 := by simp [mkS_len]
    refine run ?_
    refine lp (fun j : Nat => [(0, .row 1 (S.map slR)), (2, vbool false), (3, int i), (4, .row 1 ((l ++ mkS 16).map keyC)), (5, int j)]) (fun _ => h) (fun j => j ≤ 16) (fun j => 16 - j) (wkx 0 (by omega) fits rfl) ?_
    rintro j hj
    refine run ?_
    refine br_d (fun hlt2 => ?_) (fun hlt2 => ?_)
    · refine run ?_
      refine VCalls.use (markS_calls j (by omega) _) ?_
      rintro _ _ ⟨rfl, rfl⟩
      refine run ?_
      refine at_key_of (s := mk9 j) ?_ ?_
      · have e : ((((l ++ mkS 16).length : Nat) : Int) - 16 + (j : Int)).toNat = l.length + j := by omega
        rw [e, List.getElem?_append_right (by omega)]
        rw [show l.length + j - l.length = j by omega, mkS_get (by omega)]
      refine run ?_
      refine br_ndf rfl ?_
      refine run ?_
      exact wkx (j + 1) ⟨by omega, by omega⟩ fits rfl
    · refine run ?_
      exact wkx (i + 1) ⟨by omega, by omega⟩ fits rfl
  · refine run ?_
    exact retv ⟨rfl, rfl⟩
theorem at_jv_of {l : List JV} {i : Nat} {s : JV} {K : List V → Prop} (hi : l[i]? = some s) (h : K s.c5) : At (l.map JV.cells) i K :=
  ⟨_, by simp [hi, JV.cells_c5], h⟩
theorem keptV_calls (W : List (List JV)) (h : Hp) (hW : W.length < 2 ^ 42) (sW : Sm W) : VCalls Tryz.prog 35 [.row 1 (W.map vlR)] h (fun r h' => r = vbool true ∧ h' = h) := by
  refine xc k35 rfl ?_
  refine run ?_
  refine lp (fun i : Nat => [(0, .row 1 (W.map vlR)), (2, vbool false), (3, int i)]) (fun _ => h) (fun i => i ≤ W.length) (fun i => W.length - i) (wkx 0 (by omega) fits rfl) ?_
  rintro i hi
  refine run ?_
  refine br_d (fun hlt => ?_) (fun hlt => ?_)
  · have hil : i < W.length := by omega
    refine run ?_
    refine at_map' hil ?_
    have hl := sW _ (List.getElem_mem hil)
    generalize W[i] = l at hl ⊢
    have hlj : (l ++ mkV 16).length = l.length + 16 := by simp [mkV_len]
    refine run ?_
    refine lp (fun j : Nat => [(0, .row 1 (W.map vlR)), (2, vbool false), (3, int i), (4, .row 5 ((l ++ mkV 16).map JV.cells)), (5, int j)]) (fun _ => h) (fun j => j ≤ 16) (fun j => 16 - j) (wkx 0 (by omega) fits rfl) ?_
    rintro j hj
    refine run ?_
    refine br_d (fun hlt2 => ?_) (fun hlt2 => ?_)
    · refine run ?_
      refine VCalls.use (markV_calls j (by omega) _) ?_
      rintro _ _ ⟨rfl, rfl⟩
      refine run ?_
      refine new_k fun k6 => ?_
      refine run ?_
      refine at_jv_of (s := mkJ j) ?_ ?_
      · have e : ((((l ++ mkV 16).length : Nat) : Int) - 16 + (j : Int)).toNat = l.length + j := by omega
        rw [e, List.getElem?_append_right (by omega)]
        rw [show l.length + j - l.length = j by omega, mkV_get (by omega)]
      refine run ?_
      refine VCalls.use (sameV_calls (mkJ j) (mkJ j) (by simp [mkJ, JV.bk, mk9, bkL, keysB]) _) ?_
      rintro _ _ ⟨rfl, rfl⟩
      refine run ?_
      rw [decide_eq_true rfl]
      refine run ?_
      exact wkl (j + 1) ⟨by omega, by omega⟩ fits (List.sublist_cons_self _ _)
    · refine run ?_
      exact wkx (i + 1) ⟨by omega, by omega⟩ fits rfl
  · refine run ?_
    exact retv ⟨rfl, rfl⟩
end Go.Proofs.YtpiicncihccheaaGreatDoor
