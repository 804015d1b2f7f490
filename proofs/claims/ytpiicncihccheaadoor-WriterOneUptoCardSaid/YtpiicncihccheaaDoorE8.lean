/- Walks of the statements of layer 6: WriterOne, WriterBare. -/
import Derived.Test.YtpiicncihccheaaDoorE7
import Derived.Test.YtpiicncihccheaaDoorJ6
namespace Go.Proofs.YtpiicncihccheaaDoor
open Go.XW Go.XW.DU Go.Lib Go.XW.U
/- "hallmark/hallmarkref03.Like" -/
def c18 : S :=
  (.hook 0 (.op (some 2) (.w (.box true 5 (.tmp 0)))
  (.op (some 3) (.w (.box true 5 (.tmp 1)))
  (.op (some 4) (.p (.mv (.const (.bool false))))
  (.sq 1
    (.hook 1 (.op (some 7) (.p (.fad (.tmp 2) 0))
    (.op (some 8) (.r (.ld false 1 (.tmp 7)))
    (.op (some 9) (.p (.fad (.tmp 3) 0))
    (.op (some 10) (.r (.ld false 1 (.tmp 9)))
    (.op (some 11) (.p (.bin .neq (.tmp 8) (.tmp 10)))
    (.op (some 12) (.p (.mv (.tmp 11)))
    (.g 12 false (some 13) (.p (.fad (.tmp 2) 1))
    (.g 12 false (some 14) (.r (.ld false 1 (.tmp 13)))
    (.g 12 false (some 15) (.p (.fad (.tmp 3) 1))
    (.g 12 false (some 16) (.r (.ld false 1 (.tmp 15)))
    (.g 12 false (some 17) (.p (.bin .neq (.tmp 14) (.tmp 16)))
    (.op (some 18) (.p (.pick (.tmp 12) (.const (.bool true)) (.tmp 17)))
    (.op (some 19) (.p (.mv (.tmp 18)))
    (.g 19 false (some 20) (.p (.fad (.tmp 2) 2))
    (.g 19 false (some 21) (.r (.ld false 1 (.tmp 20)))
    (.g 19 false (some 22) (.p (.fad (.tmp 3) 2))
    (.g 19 false (some 23) (.r (.ld false 1 (.tmp 22)))
    (.g 19 false (some 24) (.p (.bin .neq (.tmp 21) (.tmp 23)))
    (.op (some 25) (.p (.pick (.tmp 19) (.const (.bool true)) (.tmp 24)))
    (.op (some 26) (.p (.mv (.tmp 25)))
    (.g 26 false (some 27) (.p (.fad (.tmp 2) 4))
    (.g 26 false (some 28) (.r (.ld false 1 (.tmp 27)))
    (.g 26 false (some 29) (.p (.lenr (.tmp 28)))
    (.g 26 false (some 30) (.p (.fad (.tmp 3) 4))
    (.g 26 false (some 31) (.r (.ld false 1 (.tmp 30)))
    (.g 26 false (some 32) (.p (.lenr (.tmp 31)))
    (.g 26 false (some 33) (.p (.bin .neq (.tmp 29) (.tmp 32)))
    (.op (some 34) (.p (.pick (.tmp 26) (.const (.bool true)) (.tmp 33)))
    (.op (some 35) (.p (.mv (.tmp 34)))
    (.g 35 false (some 36) (.p (.fad (.tmp 2) 3))
    (.g 35 false (some 37) (.r (.ld false 1 (.tmp 36)))
    (.g 35 false (some 38) (.p (.lenr (.tmp 37)))
    (.g 35 false (some 39) (.p (.fad (.tmp 3) 3))
    (.g 35 false (some 40) (.r (.ld false 1 (.tmp 39)))
    (.g 35 false (some 41) (.p (.lenr (.tmp 40)))
    (.g 35 false (some 42) (.p (.bin .neq (.tmp 38) (.tmp 41)))
    (.op (some 43) (.p (.pick (.tmp 35) (.const (.bool true)) (.tmp 42)))
    (.ite (.tmp 43)
      (.hook 2 (.op (some 4) (.p (.mv (.const (.bool false))))
      .ret))
      .done)))))))))))))))))))))))))))))))))))))))
  (.sq 3
    (.hook 3 (.op (some 5) (.p (.mv (.const (.int .i64 0))))
    (.block 0
      (.loop
        (.sq 4
          (.hook 4 (.op (some 44) (.p (.mv (.tmp 5)))
          (.op (some 45) (.p (.fad (.tmp 2) 4))
          (.op (some 46) (.r (.ld false 1 (.tmp 45)))
          (.op (some 47) (.p (.lenr (.tmp 46)))
          (.op (some 48) (.p (.bin .lss (.tmp 44) (.tmp 47)))
          (.ite (.tmp 48)
            .done
            (.exit 0))))))))
        (.sq 6
          (.block 1
            (.hook 6 (.op (some 51) (.p (.fad (.tmp 2) 4))
            (.op (some 52) (.r (.ld false 1 (.tmp 51)))
            (.op (some 53) (.p (.mv (.tmp 5)))
            (.op (some 54) (.p (.iad 1 (.tmp 52) (.tmp 53)))
            (.op (some 55) (.r (.ld false 1 (.tmp 54)))
            (.op (some 56) (.p (.fad (.tmp 3) 4))
            (.op (some 57) (.r (.ld false 1 (.tmp 56)))
            (.op (some 58) (.p (.mv (.tmp 5)))
            (.op (some 59) (.p (.iad 1 (.tmp 57) (.tmp 58)))
            (.op (some 60) (.r (.ld false 1 (.tmp 59)))
            (.op (some 61) (.p (.bin .neq (.tmp 55) (.tmp 60)))
            (.ite (.tmp 61)
              (.hook 7 (.op (some 4) (.p (.mv (.const (.bool false))))
              .ret))
              .done))))))))))))))
        (.hook 5 (.op (some 49) (.p (.mv (.tmp 5)))
        (.op (some 50) (.p (.bin .add (.tmp 49) (.const (.int .i64 1))))
        (.op (some 5) (.p (.mv (.tmp 50)))
        .done))))))))))
  (.sq 8
    (.hook 8 (.op (some 6) (.p (.mv (.const (.int .i64 0))))
    (.block 2
      (.loop
        (.sq 9
          (.hook 9 (.op (some 62) (.p (.mv (.tmp 6)))
          (.op (some 63) (.p (.fad (.tmp 2) 3))
          (.op (some 64) (.r (.ld false 1 (.tmp 63)))
          (.op (some 65) (.p (.lenr (.tmp 64)))
          (.op (some 66) (.p (.bin .lss (.tmp 62) (.tmp 65)))
          (.ite (.tmp 66)
            .done
            (.exit 2))))))))
        (.sq 11
          (.block 3
            (.hook 11 (.op (some 69) (.p (.fad (.tmp 2) 3))
            (.op (some 70) (.r (.ld false 1 (.tmp 69)))
            (.op (some 71) (.p (.mv (.tmp 6)))
            (.op (some 72) (.p (.iad 5 (.tmp 70) (.tmp 71)))
            (.op (some 73) (.r (.ld true 5 (.tmp 72)))
            (.op (some 74) (.p (.fad (.tmp 3) 3))
            (.op (some 75) (.r (.ld false 1 (.tmp 74)))
            (.op (some 76) (.p (.mv (.tmp 6)))
            (.op (some 77) (.p (.iad 5 (.tmp 75) (.tmp 76)))
            (.op (some 78) (.r (.ld true 5 (.tmp 77)))
            (.op (some 79) (.w (.call 18 [(.tmp 73), (.tmp 78)]))
            (.op (some 80) (.p (.not (.tmp 79)))
            (.ite (.tmp 80)
              (.hook 12 (.op (some 4) (.p (.mv (.const (.bool false))))
              .ret))
              .done)))))))))))))))
        (.hook 10 (.op (some 67) (.p (.mv (.tmp 6)))
        (.op (some 68) (.p (.bin .add (.tmp 67) (.const (.int .i64 1))))
        (.op (some 6) (.p (.mv (.tmp 68)))
        .done))))))))))
  (.hook 13 (.op (some 4) (.p (.mv (.const (.bool true))))
  .ret)))))))))
theorem k18 : compF Tryd.prog 18 = some (c18, [(.t 4)], 81) := by kernel_rfl
/- "hallmark/hallmarkref06.Bare" -/
def c19 : S :=
  (.hook 0 (.op (some 2) (.p (.mv (.const (.string ⟨#[]⟩))))
  (.hook 1 (.op (some 7) (.x (.row0 1))
  (.op (some 3) (.p (.mv (.tmp 7)))
  (.hook 2 (.op (some 4) (.p (.mv (.const (.bool false))))
  (.sq 3
    (.hook 3 (.op (some 5) (.p (.mv (.const (.int .i64 0))))
    (.block 0
      (.loop
        (.sq 4
          (.hook 4 (.op (some 8) (.p (.mv (.tmp 5)))
          (.op (some 9) (.p (.mv (.tmp 0)))
          (.op (some 10) (.p (.lens (.tmp 9)))
          (.op (some 11) (.p (.bin .lss (.tmp 8) (.tmp 10)))
          (.ite (.tmp 11)
            .done
            (.exit 0)))))))
        (.sq 6
          (.block 1
            (.hook 6 (.op (some 14) (.p (.mv (.tmp 0)))
            (.op (some 15) (.p (.mv (.tmp 5)))
            (.op (some 16) (.p (.sidx (.tmp 14) (.tmp 15)))
            (.op (some 6) (.p (.mv (.tmp 16)))
            (.sq 7
              (.hook 7 (.op (some 17) (.p (.mv (.tmp 4)))
              (.op (some 18) (.p (.mv (.tmp 17)))
              (.g 18 true (some 19) (.p (.mv (.tmp 6)))
              (.g 18 true (some 20) (.p (.bin .eql (.tmp 19) (.const (.int .u8 92))))
              (.op (some 21) (.p (.pick (.tmp 18) (.tmp 20) (.const (.bool false))))
              (.op (some 22) (.p (.mv (.tmp 21)))
              (.g 22 true (some 23) (.p (.mv (.tmp 5)))
              (.g 22 true (some 24) (.p (.bin .add (.tmp 23) (.const (.int .i64 1))))
              (.g 22 true (some 25) (.p (.mv (.tmp 0)))
              (.g 22 true (some 26) (.p (.lens (.tmp 25)))
              (.g 22 true (some 27) (.p (.bin .lss (.tmp 24) (.tmp 26)))
              (.op (some 28) (.p (.pick (.tmp 22) (.tmp 27) (.const (.bool false))))
              (.ite (.tmp 28)
                (.hook 8 (.op (some 29) (.p (.mv (.tmp 3)))
                (.op (some 30) (.p (.mv (.tmp 6)))
                (.op (some 31) (.p (.mv (.tmp 0)))
                (.op (some 32) (.p (.mv (.tmp 5)))
                (.op (some 33) (.p (.bin .add (.tmp 32) (.const (.int .i64 1))))
                (.op (some 34) (.p (.sidx (.tmp 31) (.tmp 33)))
                (.op (some 35) (.l 1 2 [(.int .u8 0)] [(0, (1, (false, (.tmp 30)))), (1, (1, (false, (.tmp 34))))])
                (.op (some 36) (.w (.app 5000 1 1 (.tmp 29) (.tmp 35)))
                (.op (some 3) (.p (.mv (.tmp 36)))
                (.hook 9 (.op (some 37) (.p (.mv (.tmp 5)))
                (.op (some 38) (.p (.bin .add (.tmp 37) (.const (.int .i64 1))))
                (.op (some 5) (.p (.mv (.tmp 38)))
                (.exit 1)))))))))))))))
                .done))))))))))))))
            (.sq 10
              (.hook 10 (.op (some 39) (.p (.mv (.tmp 6)))
              (.op (some 40) (.p (.bin .eql (.tmp 39) (.const (.int .u8 34))))
              (.ite (.tmp 40)
                (.hook 11 (.op (some 41) (.p (.mv (.tmp 4)))
                (.op (some 42) (.p (.not (.tmp 41)))
                (.op (some 4) (.p (.mv (.tmp 42)))
                .done))))
                .done))))
            (.hook 12 (.op (some 43) (.p (.mv (.tmp 4)))
            (.op (some 44) (.p (.mv (.tmp 43)))
            (.g 44 false (some 45) (.p (.mv (.tmp 6)))
            (.g 44 false (some 46) (.p (.bin .neq (.tmp 45) (.const (.int .u8 10))))
            (.g 44 false (some 47) (.p (.mv (.tmp 46)))
            (.g 47 true (some 48) (.p (.mv (.tmp 6)))
            (.g 47 true (some 49) (.p (.bin .neq (.tmp 48) (.const (.int .u8 32))))
            (.g 44 false (some 50) (.p (.pick (.tmp 47) (.tmp 49) (.const (.bool false))))
            (.op (some 51) (.p (.pick (.tmp 44) (.const (.bool true)) (.tmp 50)))
            (.ite (.tmp 51)
              (.hook 13 (.op (some 52) (.p (.mv (.tmp 3)))
              (.op (some 53) (.p (.mv (.tmp 6)))
              (.op (some 54) (.l 1 1 [(.int .u8 0)] [(0, (1, (false, (.tmp 53))))])
              (.op (some 55) (.w (.app 5000 1 1 (.tmp 52) (.tmp 54)))
              (.op (some 3) (.p (.mv (.tmp 55)))
              .done))))))
              .done)))))))))))))))))))
        (.hook 5 (.op (some 12) (.p (.mv (.tmp 5)))
        (.op (some 13) (.p (.bin .add (.tmp 12) (.const (.int .i64 1))))
        (.op (some 5) (.p (.mv (.tmp 13)))
        .done))))))))))
  (.hook 14 (.op (some 56) (.p (.mv (.tmp 3)))
  (.op (some 57) (.r (.txt (.tmp 56)))
  (.op (some 2) (.p (.mv (.tmp 57)))
  .ret))))))))))))
theorem k19 : compF Tryd.prog 19 = some (c19, [(.t 2)], 58) := by kernel_rfl
/- "hallmark/hallmarklaw06.WriterOne" -/
def c5 : S :=
  (.hook 0 (.op (some 3) (.w (.box true 5 (.tmp 0)))
  (.op (some 4) (.w (.box true 5 (.tmp 1)))
  (.op (some 6) (.p (.mv (.const (.bool false))))
  (.sq 1
    (.hook 1 (.op (some 16) (.w (.call 13 []))
    (.op (some 17) (.p (.not (.tmp 16)))
    (.ite (.tmp 17)
      (.hook 2 (.op (some 6) (.p (.mv (.const (.bool false))))
      .ret))
      .done))))
  (.sq 3
    (.hook 3 (.op (some 18) (.r (.ld true 5 (.tmp 3)))
    (.op (some 19) (.w (.call 11 [(.tmp 18)]))
    (.op (some 20) (.p (.not (.tmp 19)))
    (.op (some 21) (.p (.mv (.tmp 20)))
    (.g 21 false (some 22) (.r (.ld true 5 (.tmp 4)))
    (.g 21 false (some 23) (.w (.call 11 [(.tmp 22)]))
    (.g 21 false (some 24) (.p (.not (.tmp 23)))
    (.op (some 25) (.p (.pick (.tmp 21) (.const (.bool true)) (.tmp 24)))
    (.op (some 26) (.p (.mv (.tmp 25)))
    (.g 26 false (some 27) (.r (.ld true 5 (.tmp 3)))
    (.g 26 false (some 28) (.w (.call 17 [(.tmp 27)]))
    (.g 26 false (some 29) (.p (.not (.tmp 28)))
    (.op (some 30) (.p (.pick (.tmp 26) (.const (.bool true)) (.tmp 29)))
    (.op (some 31) (.p (.mv (.tmp 30)))
    (.g 31 false (some 32) (.r (.ld true 5 (.tmp 4)))
    (.g 31 false (some 33) (.w (.call 17 [(.tmp 32)]))
    (.g 31 false (some 34) (.p (.not (.tmp 33)))
    (.op (some 35) (.p (.pick (.tmp 31) (.const (.bool true)) (.tmp 34)))
    (.op (some 36) (.p (.mv (.tmp 35)))
    (.g 36 false (some 37) (.p (.mv (.tmp 2)))
    (.g 36 false (some 38) (.p (.bin .lss (.tmp 37) (.const (.int .i64 0))))
    (.op (some 39) (.p (.pick (.tmp 36) (.const (.bool true)) (.tmp 38)))
    (.op (some 40) (.p (.mv (.tmp 39)))
    (.g 40 false (some 41) (.p (.mv (.tmp 2)))
    (.g 40 false (some 42) (.p (.bin .gtr (.tmp 41) (.const (.int .i64 8))))
    (.op (some 43) (.p (.pick (.tmp 40) (.const (.bool true)) (.tmp 42)))
    (.ite (.tmp 43)
      (.hook 4 (.op (some 6) (.p (.mv (.const (.bool true))))
      .ret))
      .done))))))))))))))))))))))))))))
  (.hook 5 (.op (some 45) (.r (.ld true 5 (.tmp 3)))
  (.op (some 46) (.w (.call 14 [(.tmp 45)]))
  (.op (some 44) (.p (.mv (.tmp 46)))
  (.op (some 47) (.p (.ext (.tmp 44) 0))
  (.op (some 48) (.p (.ext (.tmp 44) 1))
  (.op (some 7) (.p (.mv (.tmp 47)))
  (.op (some 8) (.p (.mv (.tmp 48)))
  (.hook 6 (.op (some 50) (.r (.ld true 5 (.tmp 4)))
  (.op (some 51) (.w (.call 14 [(.tmp 50)]))
  (.op (some 49) (.p (.mv (.tmp 51)))
  (.op (some 52) (.p (.ext (.tmp 49) 0))
  (.op (some 53) (.p (.ext (.tmp 49) 1))
  (.op (some 9) (.p (.mv (.tmp 52)))
  (.op (some 10) (.p (.mv (.tmp 53)))
  (.hook 7 (.op (some 55) (.r (.ld true 5 (.tmp 3)))
  (.op (some 56) (.p (.mv (.tmp 2)))
  (.op (some 57) (.w (.call 10 [(.tmp 55), (.tmp 56)]))
  (.op (some 54) (.p (.mv (.tmp 57)))
  (.op (some 58) (.p (.ext (.tmp 54) 0))
  (.op (some 59) (.p (.ext (.tmp 54) 1))
  (.op (some 11) (.p (.mv (.tmp 58)))
  (.op (some 12) (.p (.mv (.tmp 59)))
  (.hook 8 (.op (some 61) (.r (.ld true 5 (.tmp 4)))
  (.op (some 62) (.p (.mv (.tmp 2)))
  (.op (some 63) (.w (.call 10 [(.tmp 61), (.tmp 62)]))
  (.op (some 60) (.p (.mv (.tmp 63)))
  (.op (some 64) (.p (.ext (.tmp 60) 0))
  (.op (some 65) (.p (.ext (.tmp 60) 1))
  (.op (some 13) (.p (.mv (.tmp 64)))
  (.op (some 14) (.p (.mv (.tmp 65)))
  (.hook 9 (.op (some 66) (.r (.ld true 5 (.tmp 3)))
  (.op (some 67) (.r (.ld true 5 (.tmp 4)))
  (.op (some 68) (.w (.call 18 [(.tmp 66), (.tmp 67)]))
  (.op (some 15) (.p (.mv (.tmp 68)))
  (.hook 10 (.op (some 69) (.p (.mv (.tmp 8)))
  (.op (some 70) (.p (.bin .eql (.tmp 69) (.const (.int .i64 0))))
  (.op (some 71) (.p (.mv (.tmp 70)))
  (.g 71 true (some 72) (.p (.mv (.tmp 10)))
  (.g 71 true (some 73) (.p (.bin .eql (.tmp 72) (.const (.int .i64 0))))
  (.op (some 74) (.p (.pick (.tmp 71) (.tmp 73) (.const (.bool false))))
  (.op (some 75) (.p (.mv (.tmp 74)))
  (.g 75 true (some 76) (.p (.mv (.tmp 12)))
  (.g 75 true (some 77) (.p (.bin .eql (.tmp 76) (.const (.int .i64 0))))
  (.op (some 78) (.p (.pick (.tmp 75) (.tmp 77) (.const (.bool false))))
  (.op (some 79) (.p (.mv (.tmp 78)))
  (.g 79 true (some 80) (.p (.mv (.tmp 14)))
  (.g 79 true (some 81) (.p (.bin .eql (.tmp 80) (.const (.int .i64 0))))
  (.op (some 82) (.p (.pick (.tmp 79) (.tmp 81) (.const (.bool false))))
  (.op (some 83) (.p (.mv (.tmp 82)))
  (.g 83 true (some 84) (.p (.mv (.tmp 7)))
  (.g 83 true (some 85) (.p (.mv (.tmp 9)))
  (.g 83 true (some 86) (.p (.bin .eql (.tmp 84) (.tmp 85)))
  (.g 83 true (some 87) (.p (.mv (.tmp 15)))
  (.g 83 true (some 88) (.p (.binb .eql (.tmp 86) (.tmp 87)))
  (.op (some 89) (.p (.pick (.tmp 83) (.tmp 88) (.const (.bool false))))
  (.op (some 90) (.p (.mv (.tmp 89)))
  (.g 90 true (some 91) (.p (.mv (.tmp 11)))
  (.g 90 true (some 92) (.p (.mv (.tmp 13)))
  (.g 90 true (some 93) (.p (.bin .eql (.tmp 91) (.tmp 92)))
  (.g 90 true (some 94) (.p (.mv (.tmp 15)))
  (.g 90 true (some 95) (.p (.binb .eql (.tmp 93) (.tmp 94)))
  (.op (some 96) (.p (.pick (.tmp 90) (.tmp 95) (.const (.bool false))))
  (.op (some 6) (.p (.mv (.tmp 96)))
  .ret)))))))))))))))))))))))))))))))))))))))))))))))))))))))))))))))))))))))))))
theorem k5 : compF Tryd.prog 5 = some (c5, [(.t 6)], 97) := by kernel_rfl
/- "hallmark/hallmarklaw06.WriterBare" -/
def c6 : S :=
  (.hook 0 (.op (some 2) (.w (.box true 5 (.tmp 0)))
  (.op (some 4) (.p (.mv (.const (.bool false))))
  (.sq 1
    (.hook 1 (.op (some 10) (.w (.call 13 []))
    (.op (some 11) (.p (.not (.tmp 10)))
    (.ite (.tmp 11)
      (.hook 2 (.op (some 4) (.p (.mv (.const (.bool false))))
      .ret))
      .done))))
  (.sq 3
    (.hook 3 (.op (some 12) (.r (.ld true 5 (.tmp 2)))
    (.op (some 13) (.w (.call 11 [(.tmp 12)]))
    (.op (some 14) (.p (.not (.tmp 13)))
    (.op (some 15) (.p (.mv (.tmp 14)))
    (.g 15 false (some 16) (.r (.ld true 5 (.tmp 2)))
    (.g 15 false (some 17) (.w (.call 17 [(.tmp 16)]))
    (.g 15 false (some 18) (.p (.not (.tmp 17)))
    (.op (some 19) (.p (.pick (.tmp 15) (.const (.bool true)) (.tmp 18)))
    (.op (some 20) (.p (.mv (.tmp 19)))
    (.g 20 false (some 21) (.p (.mv (.tmp 1)))
    (.g 20 false (some 22) (.p (.bin .lss (.tmp 21) (.const (.int .i64 0))))
    (.op (some 23) (.p (.pick (.tmp 20) (.const (.bool true)) (.tmp 22)))
    (.op (some 24) (.p (.mv (.tmp 23)))
    (.g 24 false (some 25) (.p (.mv (.tmp 1)))
    (.g 24 false (some 26) (.p (.bin .gtr (.tmp 25) (.const (.int .i64 8))))
    (.op (some 27) (.p (.pick (.tmp 24) (.const (.bool true)) (.tmp 26)))
    (.ite (.tmp 27)
      (.hook 4 (.op (some 4) (.p (.mv (.const (.bool true))))
      .ret))
      .done))))))))))))))))))
  (.hook 5 (.op (some 29) (.r (.ld true 5 (.tmp 2)))
  (.op (some 30) (.w (.call 14 [(.tmp 29)]))
  (.op (some 28) (.p (.mv (.tmp 30)))
  (.op (some 31) (.p (.ext (.tmp 28) 0))
  (.op (some 32) (.p (.ext (.tmp 28) 1))
  (.op (some 5) (.p (.mv (.tmp 31)))
  (.op (some 6) (.p (.mv (.tmp 32)))
  (.hook 6 (.op (some 34) (.r (.ld true 5 (.tmp 2)))
  (.op (some 35) (.p (.mv (.tmp 1)))
  (.op (some 36) (.w (.call 10 [(.tmp 34), (.tmp 35)]))
  (.op (some 33) (.p (.mv (.tmp 36)))
  (.op (some 37) (.p (.ext (.tmp 33) 0))
  (.op (some 38) (.p (.ext (.tmp 33) 1))
  (.op (some 7) (.p (.mv (.tmp 37)))
  (.op (some 8) (.p (.mv (.tmp 38)))
  (.sq 7
    (.hook 7 (.op (some 9) (.p (.mv (.const (.int .i64 0))))
    (.block 0
      (.loop
        (.sq 8
          (.hook 8 (.op (some 39) (.p (.mv (.tmp 9)))
          (.op (some 40) (.p (.mv (.tmp 5)))
          (.op (some 41) (.p (.lens (.tmp 40)))
          (.op (some 42) (.p (.bin .lss (.tmp 39) (.tmp 41)))
          (.ite (.tmp 42)
            .done
            (.exit 0)))))))
        (.sq 10
          (.block 1
            (.hook 10 (.op (some 45) (.p (.mv (.tmp 5)))
            (.op (some 46) (.p (.mv (.tmp 9)))
            (.op (some 47) (.p (.sidx (.tmp 45) (.tmp 46)))
            (.op (some 48) (.p (.bin .lss (.tmp 47) (.const (.int .u8 32))))
            (.ite (.tmp 48)
              (.hook 11 (.op (some 4) (.p (.mv (.const (.bool false))))
              .ret))
              .done)))))))
        (.hook 9 (.op (some 43) (.p (.mv (.tmp 9)))
        (.op (some 44) (.p (.bin .add (.tmp 43) (.const (.int .i64 1))))
        (.op (some 9) (.p (.mv (.tmp 44)))
        .done))))))))))
  (.hook 12 (.op (some 49) (.p (.mv (.tmp 6)))
  (.op (some 50) (.p (.bin .eql (.tmp 49) (.const (.int .i64 0))))
  (.op (some 51) (.p (.mv (.tmp 50)))
  (.g 51 true (some 52) (.p (.mv (.tmp 8)))
  (.g 51 true (some 53) (.p (.bin .eql (.tmp 52) (.const (.int .i64 0))))
  (.op (some 54) (.p (.pick (.tmp 51) (.tmp 53) (.const (.bool false))))
  (.op (some 55) (.p (.mv (.tmp 54)))
  (.g 55 true (some 56) (.p (.mv (.tmp 7)))
  (.g 55 true (some 57) (.w (.call 19 [(.tmp 56)]))
  (.g 55 true (some 58) (.p (.mv (.tmp 5)))
  (.g 55 true (some 59) (.p (.bin .eql (.tmp 57) (.tmp 58)))
  (.op (some 60) (.p (.pick (.tmp 55) (.tmp 59) (.const (.bool false))))
  (.op (some 61) (.p (.mv (.tmp 60)))
  (.g 61 true (some 62) (.p (.mv (.tmp 5)))
  (.g 61 true (some 63) (.w (.call 20 [(.tmp 62)]))
  (.op (some 64) (.p (.pick (.tmp 61) (.tmp 63) (.const (.bool false))))
  (.op (some 4) (.p (.mv (.tmp 64)))
  .ret)))))))))))))))))))))))))))))))))))))))))
theorem k6 : compF Tryd.prog 6 = some (c6, [(.t 4)], 65) := by kernel_rfl
noncomputable instance : DecidableEq JV := fun a b => Classical.propDecidable (a = b)
/-- Two lists that part at a place, or nowhere. -/
def LkIH (n : Nat) : Prop := ∀ a b : JV, a.bk < n → a.bk < 2 ^ 40 → ∀ h : Hp, VCalls Tryd.prog 18 [.agg a.c5, .agg b.c5] h (fun r h' => r = vbool (decide (a = b)) ∧ h' = h)
theorem like_ih {n : Nat} (IH : LkIH n) (a b : JV) (hn : a.bk < n + 1) (hb : a.bk < 2 ^ 40) (h : Hp) : VCalls Tryd.prog 18 [.agg a.c5, .agg b.c5] h (fun r h' => r = vbool (decide (a = b)) ∧ h' = h) := by
  have he := bk_eq a
  have hkl := keysB_len a.keys
  have hll := bkL_len a.items
  have hne : ∀ {p : Prop}, (a = b → p) → ¬ p → decide (a = b) = false := fun hp hq => decide_eq_false fun he => hq (hp he)
  refine xc k18 rfl ?_
  refine run ?_
  refine new_k fun k1 => ?_
  refine run ?_
  refine new_k fun k2 => ?_
  refine run ?_
  refine br_nd (fun e1 => ?_) (fun e1 => ?_)
  · refine run ?_
    exact ret1 (ret1 (retv ⟨by rw [hne (congrArg JV.kind) e1]; rfl, rfl⟩))
  refine run ?_
  refine br_nd (fun e2 => ?_) (fun e2 => ?_)
  · refine run ?_
    exact ret1 (ret1 (retv ⟨by rw [hne (congrArg JV.num) e2]; rfl, rfl⟩))
  refine run ?_
  refine br_nd (fun e3 => ?_) (fun e3 => ?_)
  · refine run ?_
    exact ret1 (ret1 (retv ⟨by rw [hne (congrArg JV.text) e3]; rfl, rfl⟩))
  refine run ?_
  refine br_nd (fun e4 => ?_) (fun e4 => ?_)
  · refine run ?_
    exact ret1 (ret1 (retv ⟨by rw [hne (fun h => congrArg (fun v => (v.keys.length : Int)) h) e4]; rfl, rfl⟩))
  refine run ?_
  refine br_nd (fun e5 => ?_) (fun e5 => ?_)
  · refine run ?_
    exact ret1 (ret1 (retv ⟨by rw [hne (fun h => congrArg (fun v => (v.items.length : Int)) h) e5]; rfl, rfl⟩))
  refine run ?_
  refine lp (fun i : Nat => [(2, .ptr 5 k1 0 0), (3, .ptr 5 k2 0 0), (5, int i)]) (fun _ => (k2, .blk 5 [b.c5]) :: (k1, .blk 5 [a.c5]) :: h) (fun i => i ≤ a.keys.length ∧ ∀ j, j < i → a.keys.getD j [] = b.keys.getD j []) (fun i => a.keys.length - i) (wkx 0 ⟨by omega, fun j hj => by omega⟩ fits rfl) ?_
  rintro i ⟨hi, hj⟩
  refine run ?_
  refine br_d (fun hlt => ?_) (fun hlt => ?_)
  · refine run ?_
    refine at_key (by omega) ?_
    refine run ?_
    refine at_key (by omega) ?_
    refine run ?_
    refine br_nd (fun e6 => ?_) (fun e6 => ?_)
    · refine run ?_
      exact ret1 (ret1 (retv ⟨by rw [hne (fun h => congrArg (fun v => v.keys.getD i []) h) e6]; rfl, rfl⟩))
    · refine run ?_
      refine wkx (i + 1) ⟨⟨by omega, fun j hj2 => ?_⟩, by omega⟩ fits rfl
      by_cases hji : j = i
      · subst hji; exact e6
      · exact hj j (by omega)
  · obtain rfl : i = a.keys.length := by omega
    have ek : a.keys = b.keys := by
      apply List.ext_getElem (by omega)
      intro j h1 h2
      have := hj j h1
      simpa [List.getD, h1, h2] using this
    refine run ?_
    refine lp (fun i : Nat => [(2, .ptr 5 k1 0 0), (3, .ptr 5 k2 0 0), (6, int i)]) (fun _ => (k2, .blk 5 [b.c5]) :: (k1, .blk 5 [a.c5]) :: h) (fun i => i ≤ a.items.length ∧ ∀ j (h1 : j < i) (h2 : j < a.items.length) (h3 : j < b.items.length), a.items[j] = b.items[j]) (fun i => a.items.length - i) (wkx 0 ⟨by omega, fun j hj => by omega⟩ fits rfl) ?_
    rintro i ⟨hi, hq⟩
    refine run ?_
    refine br_d (fun hlt2 => ?_) (fun hlt2 => ?_)
    · have hia : i < a.items.length := by omega
      have hib : i < b.items.length := by omega
      have hml := bk_mem (List.getElem_mem hia)
      refine run ?_
      refine at_jv hia ?_
      refine run ?_
      refine at_jv hib ?_
      refine run ?_
      refine VCalls.use (IH a.items[i] b.items[i] (by omega) (by omega) _) ?_
      rintro _ _ ⟨rfl, rfl⟩
      refine run ?_
      refine br_nd (fun e7 => ?_) (fun e7 => ?_)
      · refine run ?_
        refine ret1 (ret1 (retv ⟨?_, rfl⟩))
        rw [hne (p := a.items[i] = b.items[i]) (fun h => by subst h; rfl) e7]; rfl
      · refine run ?_
        refine wkx (i + 1) ⟨⟨by omega, fun j hj2 h2 h3 => ?_⟩, by omega⟩ fits rfl
        by_cases hji : j = i
        · subst hji; exact e7
        · exact hq j (by omega) h2 h3
    · have ei : a.items = b.items := List.ext_getElem (by omega) fun j h1 h2 => hq j (by omega) h1 h2
      refine run ?_
      refine ret1 (ret1 (retv ⟨?_, rfl⟩))
      rw [decide_eq_true (jv_ext e1 e2 e3 ei ek)]; rfl
theorem lkIH : ∀ n, LkIH n
  | 0 => fun a b hn => by omega
  | n + 1 => fun a b hn hb h => like_ih (lkIH n) a b hn hb h
theorem like_calls (a b : JV) (hb : a.bk < 2 ^ 40) (h : Hp) : VCalls Tryd.prog 18 [.agg a.c5, .agg b.c5] h (fun r h' => r = vbool (decide (a = b)) ∧ h' = h) := lkIH (a.bk + 1) a b (by omega) hb h
set_option maxHeartbeats 1000000 in
theorem wone_calls (a b : JV) (st : Int) (h : Hp) (ht : Tabs h) (ha : a.bk ≤ 2 ^ 21) (hb : b.bk ≤ 2 ^ 21) : VCalls Tryd.prog 5 [.agg a.c5, .agg b.c5, int st] h (fun r _ => r = vbool true) := by
  refine xc k5 rfl ?_
  refine run ?_
  refine new_k fun k1 => ?_
  refine run ?_
  refine new_k fun k2 => ?_
  refine run ?_
  have ht2 := (ht.cons (k1, .blk 5 [a.c5])).cons (k2, .blk 5 [b.c5])
  by_cases hab : (fmd a = true ∧ fmd b = true) ∧ ¬ st < 0 ∧ ¬ 8 < st
  · obtain ⟨⟨hfa, hfb⟩, hs0, hs8⟩ := hab
    have hT := write_inj (d := 0) (st := -1) hfa hfb
    have hL := write_inj (d := 0) (st := st) hfa hfb
    have ta : textV a (-1) = .tup [vstr (write a 0 (-1)), int 0] := by simp [textV, hfa]
    have tb : textV b (-1) = .tup [vstr (write b 0 (-1)), int 0] := by simp [textV, hfb]
    have la : laidV a st = .tup [vstr (write a 0 st), int 0] := by simp [laidV, textV, hfa, hs0, hs8]
    have lb : laidV b st = .tup [vstr (write b 0 st), int 0] := by simp [laidV, textV, hfb, hs0, hs8]
    refine run ?_
    repeat' (first | (refine br_d (fun _ => ?_) (fun _ => ?_) <;> refine run ?_) | (refine br_nd (fun _ => ?_) (fun _ => ?_) <;> refine run ?_) | (refine Br.mk (fun _ => ?_) (fun _ => ?_) <;> refine run ?_) | (refine new_k fun _ => ?_; refine run ?_) | (refine VCalls.use (lives_calls _ ht2) ?_; rintro _ _ ⟨rfl, rfl⟩; refine run ?_) | (refine VCalls.use (small_calls a (by omega) _) ?_; rintro _ _ ⟨⟨b, rfl⟩, rfl⟩; cases b <;> refine run ?_) | (refine VCalls.use (small_calls b (by omega) _) ?_; rintro _ _ ⟨⟨b, rfl⟩, rfl⟩; cases b <;> refine run ?_) | (refine VCalls.use (rformed_calls a (by omega) _) ?_; rintro _ _ ⟨rfl, rfl⟩; rw [hfa]; refine run ?_) | (refine VCalls.use (rformed_calls b (by omega) _) ?_; rintro _ _ ⟨rfl, rfl⟩; rw [hfb]; refine run ?_) | (refine VCalls.use (text_calls a _ ht2 ha) ?_; rintro _ _ ⟨rfl, rfl⟩; rw [ta]; refine run ?_) | (refine VCalls.use (text_calls b _ ht2 hb) ?_; rintro _ _ ⟨rfl, rfl⟩; rw [tb]; refine run ?_) | (refine VCalls.use (laid_calls a st _ ht2 ha) ?_; rintro _ _ ⟨rfl, rfl⟩; rw [la]; refine run ?_) | (refine VCalls.use (laid_calls b st _ ht2 hb) ?_; rintro _ _ ⟨rfl, rfl⟩; rw [lb]; refine run ?_) | (refine VCalls.use (like_calls a b (by omega) _) ?_; rintro _ _ ⟨rfl, rfl⟩; refine run ?_))
    all_goals ((first | exact retv rfl | (refine retv ?_; by_cases hab : a = b <;> simp_all [tupV]; done) | (exfalso; simp_all; done)))
  · refine run ?_
    repeat' (first | (refine br_d (fun _ => ?_) (fun _ => ?_) <;> refine run ?_) | (refine br_nd (fun _ => ?_) (fun _ => ?_) <;> refine run ?_) | (refine Br.mk (fun _ => ?_) (fun _ => ?_) <;> refine run ?_) | (refine new_k fun _ => ?_; refine run ?_) | (refine VCalls.use (lives_calls _ ht2) ?_; rintro _ _ ⟨rfl, rfl⟩; refine run ?_) | (refine VCalls.use (small_calls a (by omega) _) ?_; rintro _ _ ⟨⟨b, rfl⟩, rfl⟩; cases b <;> refine run ?_) | (refine VCalls.use (small_calls b (by omega) _) ?_; rintro _ _ ⟨⟨b, rfl⟩, rfl⟩; cases b <;> refine run ?_) | (refine VCalls.use (rformed_calls a (by omega) _) ?_; rintro _ _ ⟨rfl, rfl⟩; cases hfa : fmd a <;> refine run ?_) | (refine VCalls.use (rformed_calls b (by omega) _) ?_; rintro _ _ ⟨rfl, rfl⟩; cases hfb : fmd b <;> refine run ?_))
    all_goals ((first | exact retv rfl | (exfalso; simp_all; done) | (exfalso; simp_all; omega)))
theorem getD_cons_drop (s : List UInt8) (i : Nat) (h : i < s.length) : s.drop i = s.getD i 0 :: s.drop (i + 1) := by
  rw [List.drop_eq_getElem_cons h]; simp [List.getD, h]
theorem rbare_calls (s : List UInt8) (h : Hp) (hs : s.length < 2 ^ 47) : VCalls Tryd.prog 19 [vstr s] h (fun r h' => r = vstr (bare false s) ∧ h' = h) := by
  refine VCalls.name 1 5000 fun kb hkb => ?_
  refine xc k19 rfl ?_
  refine run ?_
  refine .osl kb ?_
  refine run ?_
  refine lp (fun x : Nat × Nat × Bool × List UInt8 => [(0, vstr s), (3, .osl 1 x.2.1 0 x.2.2.2.length), (4, vbool x.2.2.1), (5, int x.1)]) (fun x => (x.2.1, .blk 1 (rInts .u8 (nums x.2.2.2))) :: h) (fun x => x.1 ≤ s.length ∧ x.2.2.2.length ≤ x.1 ∧ bare false s = x.2.2.2 ++ bare x.2.2.1 (s.drop x.1)) (fun x => s.length - x.1) (wkx (0, kb, false, []) ⟨by omega, by simp, rfl⟩ fits rfl) ?_
  rintro ⟨i, k, ins, acc⟩ ⟨hi, hal, hb⟩
  dsimp only at hi hal hb ⊢
  refine run ?_
  refine br_d (fun hlt => ?_) (fun hlt => ?_)
  · have hil : i < s.length := by omega
    have hdr := getD_cons_drop s i hil
    rw [hdr] at hb
    generalize hc : s.getD i 0 = c at hb hdr
    have hn : ∀ k : UInt8, ¬ (c.toNat : Int) = k.toNat → c ≠ k := fun k hk he => hk (by rw [he])
    have hy : ∀ k : UInt8, (c.toNat : Int) = k.toNat → c = k := fun k hk => UInt8.toNat_inj.1 (by omega)
    cases ins with
    | true =>
      refine run ?_
      rw [hc]
      refine br_d (fun h92 => ?_) (fun h92 => ?_)
      · obtain rfl := hy 92 h92
        refine run ?_
        refine br_d (fun h1 => ?_) (fun h1 => ?_)
        · have hil2 : i + 1 < s.length := by omega
          have e1 : ((i : Int) + 1).toNat = i + 1 := by omega
          rw [getD_cons_drop s (i + 1) hil2, bare_92] at hb
          refine run ?_
          try rw [hc]
          refine app_bytes2 (bs := [92, s.getD (i + 1) 0]) rfl rfl rfl ?_
          refine run ?_
          refine new_k fun k' => ?_
          refine run ?_
          refine wkx (i + 2, k', true, acc ++ [92, s.getD (i + 1) 0]) ⟨⟨by dsimp only; omega, by simp; omega, ?_⟩, by dsimp only; omega⟩ fits rfl
          rw [hb, List.append_assoc]; rfl
        · have hlast : s.drop (i + 1) = [] := List.drop_eq_nil_of_le (by omega)
          rw [hlast] at hb
          refine run ?_
          try rw [hc]
          refine run ?_
          refine app_bytes2 (bs := [92]) rfl rfl rfl ?_
          refine run ?_
          refine new_k fun k' => ?_
          refine run ?_
          refine wkx (i + 1, k', true, acc ++ [92]) ⟨⟨by dsimp only; omega, by simp; omega, ?_⟩, by dsimp only; omega⟩ fits rfl
          dsimp only
          rw [hb, hlast, List.append_assoc]; rfl
      · have h92' := hn 92 h92
        refine run ?_
        try rw [hc]
        refine br_d (fun h34 => ?_) (fun h34 => ?_)
        · obtain rfl := hy 34 h34
          rw [bare_34] at hb
          refine run ?_
          try rw [hc]
          refine app_bytes2 (bs := [34]) rfl rfl rfl ?_
          refine run ?_
          refine new_k fun k' => ?_
          refine run ?_
          refine wkx (i + 1, k', false, acc ++ [34]) ⟨⟨by dsimp only; omega, by simp; omega, ?_⟩, by dsimp only; omega⟩ fits rfl
          dsimp only
          rw [hb, List.append_assoc]; rfl
        · have h34' := hn 34 h34
          rw [bare_step h92' h34'] at hb
          refine run ?_
          try rw [hc]
          refine app_bytes2 (bs := [c]) rfl rfl rfl ?_
          refine run ?_
          refine new_k fun k' => ?_
          refine run ?_
          refine wkx (i + 1, k', true, acc ++ [c]) ⟨⟨by dsimp only; omega, by simp; omega, ?_⟩, by dsimp only; omega⟩ fits rfl
          dsimp only
          rw [hb, List.append_assoc]; rfl
    | false =>
      refine run ?_
      rw [hc]
      refine br_d (fun h34 => ?_) (fun h34 => ?_)
      · obtain rfl := hy 34 h34
        have e34 : ∀ X, bare false (34 :: X) = 34 :: bare true X := fun X => by simp [bare]
        rw [e34] at hb
        refine run ?_
        try rw [hc]
        refine app_bytes2 (bs := [34]) rfl rfl rfl ?_
        refine run ?_
        refine new_k fun k' => ?_
        refine run ?_
        refine wkx (i + 1, k', true, acc ++ [34]) ⟨⟨by dsimp only; omega, by simp; omega, ?_⟩, by dsimp only; omega⟩ fits rfl
        dsimp only
        rw [hb, List.append_assoc]; rfl
      · have h34' := hn 34 h34
        refine run ?_
        try rw [hc]
        refine br_nd (fun h10 => ?_) (fun h10 => ?_)
        · have h10' := hn 10 h10
          refine run ?_
          try rw [hc]
          refine br_nd (fun h32 => ?_) (fun h32 => ?_)
          · have h32' := hn 32 h32
            rw [bare_keep h34' h10' h32'] at hb
            refine run ?_
            try rw [hc]
            refine app_bytes2 (bs := [c]) rfl rfl rfl ?_
            refine run ?_
            refine new_k fun k' => ?_
            refine run ?_
            refine wkx (i + 1, k', false, acc ++ [c]) ⟨⟨by dsimp only; omega, by simp; omega, ?_⟩, by dsimp only; omega⟩ fits rfl
            dsimp only
            rw [hb, List.append_assoc]; rfl
          · obtain rfl := hy 32 h32
            have e32 : ∀ X, bare false (32 :: X) = bare false X := fun X => by simp [bare]
            rw [e32] at hb
            refine run ?_
            exact wkx (i + 1, k, false, acc) ⟨⟨by dsimp only; omega, by dsimp only; omega, hb⟩, by dsimp only; omega⟩ fits rfl
        · obtain rfl := hy 10 h10
          have e10 : ∀ X, bare false (10 :: X) = bare false X := fun X => by simp [bare]
          rw [e10] at hb
          refine run ?_
          exact wkx (i + 1, k, false, acc) ⟨⟨by dsimp only; omega, by dsimp only; omega, hb⟩, by dsimp only; omega⟩ fits rfl
  · obtain rfl : i = s.length := by omega
    have hbn := bnums acc
    rw [List.drop_length] at hb
    have hb2 : bare false s = acc := by rw [hb]; cases ins <;> simp [bare]
    rw [hb2]
    refine run ?_
    refine ret1 (retv ⟨?_, rfl⟩)
    show vstr (ofNums (List.drop 0 (List.take (0 + _) _))) = _
    rw [txt_all]
set_option maxHeartbeats 1000000 in
theorem wbare_calls (v : JV) (st : Int) (h : Hp) (ht : Tabs h) (hb : v.bk ≤ 2 ^ 21) : VCalls Tryd.prog 6 [.agg v.c5, int st] h (fun r _ => r = vbool true) := by
  refine xc k6 rfl ?_
  refine run ?_
  refine new_k fun k1 => ?_
  refine run ?_
  have ht2 := ht.cons (k1, .blk 5 [v.c5])
  by_cases hab : fmd v = true ∧ ¬ st < 0 ∧ ¬ 8 < st
  · obtain ⟨hf, hs0, hs8⟩ := hab
    have tv : textV v (-1) = .tup [vstr (write v 0 (-1)), int 0] := by simp [textV, hf]
    have lv : laidV v st = .tup [vstr (write v 0 st), int 0] := by simp [laidV, textV, hf, hs0, hs8]
    have hwb := write_bound (st := -1) (by omega) v (d := 0) (by omega) (by omega)
    have hwl := write_bound (st := st) (by omega) v (d := 0) (by omega) (by omega)
    have hcl := write_cl hf 0
    have hva := write_valid hf 0
    have hba := bare_laid hf st
    refine VCalls.use (lives_calls _ ht2) ?_
    rintro _ _ ⟨rfl, rfl⟩
    refine run ?_
    refine VCalls.use (small_calls v (by omega) _) ?_
    rintro _ _ ⟨⟨b, rfl⟩, rfl⟩
    cases b with
    | false =>
      refine run ?_
      exact retv rfl
    | true =>
      refine run ?_
      refine VCalls.use (rformed_calls v (by omega) _) ?_
      rintro _ _ ⟨rfl, rfl⟩
      rw [hf]
      refine run ?_
      refine VCalls.use (text_calls v _ ht2 hb) ?_
      rintro _ _ ⟨rfl, rfl⟩
      rw [tv]
      refine run ?_
      refine VCalls.use (laid_calls v st _ ht2 hb) ?_
      rintro _ _ ⟨rfl, rfl⟩
      rw [lv]
      generalize write v 0 (-1) = T at *
      generalize write v 0 st = L at *
      refine run ?_
      refine lp (fun i : Nat => [(5, vstr T), (6, int 0), (7, vstr L), (8, int 0), (9, int i)]) (fun _ => (k1, .blk 5 [v.c5]) :: h) (fun i => i ≤ T.length) (fun i => T.length - i) (wkx 0 (by omega) fits rfl) ?_
      rintro i hi
      refine run ?_
      refine br_d (fun hlt => ?_) (fun hlt => ?_)
      · have hil : i < T.length := by omega
        have hc : 32 ≤ (T.getD i 0).toNat := by
          have := hcl (T.getD i 0) (by simp [List.getD, hil])
          exact this
        refine run ?_
        exact wkx (i + 1) ⟨by omega, by omega⟩ fits rfl
      · refine run ?_
        repeat' (first | (refine br_d (fun _ => ?_) (fun _ => ?_) <;> refine run ?_) | (refine br_nd (fun _ => ?_) (fun _ => ?_) <;> refine run ?_) | (refine Br.mk (fun _ => ?_) (fun _ => ?_) <;> refine run ?_) | (refine new_k fun _ => ?_; refine run ?_) | (refine VCalls.use (rbare_calls L _ (by omega)) ?_; rintro _ _ ⟨rfl, rfl⟩; rw [hba]; refine run ?_) | (refine VCalls.use (utf_calls T _ (by omega)) ?_; rintro _ _ ⟨rfl, rfl⟩; rw [hva]; refine run ?_))
        all_goals ((first | exact retv rfl | (refine retv ?_; simp_all [tupV]; done) | (exfalso; simp_all; done)))
  · refine run ?_
    repeat' (first | (refine br_d (fun _ => ?_) (fun _ => ?_) <;> refine run ?_) | (refine br_nd (fun _ => ?_) (fun _ => ?_) <;> refine run ?_) | (refine Br.mk (fun _ => ?_) (fun _ => ?_) <;> refine run ?_) | (refine new_k fun _ => ?_; refine run ?_) | (refine VCalls.use (lives_calls _ ht2) ?_; rintro _ _ ⟨rfl, rfl⟩; refine run ?_) | (refine VCalls.use (small_calls v (by omega) _) ?_; rintro _ _ ⟨⟨b, rfl⟩, rfl⟩; cases b <;> refine run ?_) | (refine VCalls.use (rformed_calls v (by omega) _) ?_; rintro _ _ ⟨rfl, rfl⟩; cases hfv : fmd v <;> refine run ?_))
    all_goals ((first | exact retv rfl | (exfalso; simp_all; done) | (exfalso; simp_all; omega)))
end Go.Proofs.YtpiicncihccheaaDoor
