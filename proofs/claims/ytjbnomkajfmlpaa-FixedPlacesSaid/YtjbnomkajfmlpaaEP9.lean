/- The functions of this claim as operations on plain values. -/
import Derived.Test.YtjbnomkajfmlpaaE29
import Derived.Test.YtjbnomkajfmlpaaProg
namespace Go.Proofs.Ytjbnomkajfmlpaa.E
open Go Go.RowKit Go.Proofs
set_option linter.unusedVariables false
set_option maxRecDepth 100000
def p8 : PFn :=
  ⟨160, [.t 4], .seq
    (.region [
      ⟨some 3, none, .bx 3 (.t 1)⟩,
      ⟨some 4, none, .mv true (.c (.bool false))⟩])
    (.seq
     (.seq
      (.region [
        ⟨some 13, none, .mv false (.t 0)⟩,
        ⟨some 14, none, .len false (.t 13)⟩,
        ⟨some 15, none, .bin .gtr (.t 14) (.c (.int .i64 3000))⟩,
        ⟨some 16, none, .mv false (.t 15)⟩,
        ⟨some 17, some (16, false), .fad 2 (.t 3)⟩,
        ⟨some 18, some (16, false), .ld 1 false false (.t 17)⟩,
        ⟨some 19, some (16, false), .bin .lss (.t 18) (.c (.int .i64 1))⟩,
        ⟨some 20, none, .pick (.t 16) (.c (.bool true)) (.t 19)⟩,
        ⟨some 21, none, .mv false (.t 20)⟩,
        ⟨some 22, some (21, false), .fad 2 (.t 3)⟩,
        ⟨some 23, some (21, false), .ld 1 false false (.t 22)⟩,
        ⟨some 24, some (21, false), .bin .gtr (.t 23) (.c (.int .i64 1000))⟩,
        ⟨some 25, none, .pick (.t 21) (.c (.bool true)) (.t 24)⟩,
        ⟨some 26, none, .mv false (.t 25)⟩,
        ⟨some 27, some (26, false), .fad 0 (.t 3)⟩,
        ⟨some 28, some (26, false), .ld 1 false false (.t 27)⟩,
        ⟨some 29, some (26, false), .bin .lss (.t 28) (.c (.int .i64 0))⟩,
        ⟨some 30, none, .pick (.t 26) (.c (.bool true)) (.t 29)⟩,
        ⟨some 31, none, .mv false (.t 30)⟩,
        ⟨some 32, some (31, false), .fad 0 (.t 3)⟩,
        ⟨some 33, some (31, false), .ld 1 false false (.t 32)⟩,
        ⟨some 34, some (31, false), .fad 1 (.t 3)⟩,
        ⟨some 35, some (31, false), .ld 1 false false (.t 34)⟩,
        ⟨some 36, some (31, false), .bin .gtr (.t 33) (.t 35)⟩,
        ⟨some 37, none, .pick (.t 31) (.c (.bool true)) (.t 36)⟩,
        ⟨some 38, none, .mv false (.t 37)⟩,
        ⟨some 39, some (38, false), .fad 1 (.t 3)⟩,
        ⟨some 40, some (38, false), .ld 1 false false (.t 39)⟩,
        ⟨some 41, some (38, false), .mv false (.t 0)⟩,
        ⟨some 42, some (38, false), .len false (.t 41)⟩,
        ⟨some 43, some (38, false), .bin .gtr (.t 40) (.t 42)⟩,
        ⟨some 44, none, .pick (.t 38) (.c (.bool true)) (.t 43)⟩])
      (.cond (.t 44)
       (.seq
        (.region [
          ⟨some 45, none, .callF 11 [] []⟩,
          ⟨some 4, none, .mv true (.t 45)⟩])
        .ret)
       .skip))
     (.seq
      (.region [
        ⟨some 47, none, .mv false (.t 0)⟩,
        ⟨some 48, none, .fad 2 (.t 3)⟩,
        ⟨some 49, none, .ld 1 false false (.t 48)⟩,
        ⟨some 50, none, .callF 14 [.t 47, .t 49] []⟩,
        ⟨some 46, none, .mv false (.t 50)⟩,
        ⟨some 51, none, .ext true (.t 46) 0⟩,
        ⟨some 52, none, .ext false (.t 46) 1⟩,
        ⟨some 53, none, .ext false (.t 46) 2⟩,
        ⟨some 5, none, .mv true (.t 51)⟩,
        ⟨some 6, none, .mv true (.t 52)⟩,
        ⟨some 7, none, .mv true (.t 53)⟩])
      (.seq
       (.region [
         ⟨some 8, none, .mv true (.c (.int .i64 0))⟩])
       (.seq
        (.seq
         (.region [
           ⟨some 9, none, .mv true (.c (.int .i64 0))⟩])
         (.block 0
          (.loop
           (.seq
            (.seq
             (.region [
               ⟨some 54, none, .mv false (.t 9)⟩,
               ⟨some 55, none, .mv false (.t 5)⟩,
               ⟨some 56, none, .len false (.t 55)⟩,
               ⟨some 57, none, .bin .lss (.t 54) (.t 56)⟩])
             (.cond (.t 57)
              .skip
              (.exit 0)))
            (.seq
             (.block 1
              (.seq
               (.region [
                 ⟨some 60, none, .mv false (.t 9)⟩,
                 ⟨some 61, none, .fad 2 (.t 3)⟩,
                 ⟨some 62, none, .ld 1 false false (.t 61)⟩,
                 ⟨some 63, none, .bin .mul (.t 60) (.t 62)⟩,
                 ⟨some 10, none, .mv true (.t 63)⟩])
               (.seq
                (.seq
                 (.draw [
                   ⟨some 64, none, .mv false (.t 5)⟩,
                   ⟨some 65, none, .mv false (.t 9)⟩,
                   ⟨some 66, none, .iad 2 (.t 64) (.t 65)⟩,
                   ⟨some 67, none, .fad 0 (.t 66)⟩,
                   ⟨some 68, none, .ld 1 false false (.t 67)⟩,
                   ⟨some 69, none, .mv false (.t 10)⟩,
                   ⟨some 70, none, .bin .neq (.t 68) (.t 69)⟩,
                   ⟨some 71, none, .mv false (.t 70)⟩,
                   ⟨some 72, some (71, false), .mv false (.t 5)⟩,
                   ⟨some 73, some (71, false), .mv false (.t 9)⟩,
                   ⟨some 74, some (71, false), .iad 2 (.t 72) (.t 73)⟩,
                   ⟨some 75, some (71, false), .fad 1 (.t 74)⟩,
                   ⟨some 76, some (71, false), .ld 1 false false (.t 75)⟩,
                   ⟨some 77, some (71, false), .len false (.t 76)⟩,
                   ⟨some 78, some (71, false), .bin .neq (.t 77) (.c (.int .i64 1))⟩,
                   ⟨some 79, none, .pick (.t 71) (.c (.bool true)) (.t 78)⟩,
                   ⟨some 80, none, .mv false (.t 79)⟩,
                   ⟨some 81, some (80, false), .mv false (.t 5)⟩,
                   ⟨some 82, some (80, false), .mv false (.t 9)⟩,
                   ⟨some 83, some (80, false), .iad 2 (.t 81) (.t 82)⟩,
                   ⟨some 84, some (80, false), .fad 1 (.t 83)⟩,
                   ⟨some 85, some (80, false), .ld 1 false false (.t 84)⟩,
                   ⟨some 86, some (80, false), .iad 1 (.t 85) (.c (.int .i64 0))⟩,
                   ⟨some 87, some (80, false), .ld 1 false false (.t 86)⟩,
                   ⟨some 88, some (80, false), .len false (.t 87)⟩,
                   ⟨some 89, some (80, false), .bin .neq (.t 88) (.c (.int .i64 1))⟩,
                   ⟨some 90, none, .pick (.t 80) (.c (.bool true)) (.t 89)⟩,
                   ⟨some 91, none, .mv false (.t 90)⟩,
                   ⟨some 92, some (91, false), .mv false (.t 10)⟩,
                   ⟨some 93, some (91, false), .fad 2 (.t 3)⟩,
                   ⟨some 94, some (91, false), .ld 1 false false (.t 93)⟩,
                   ⟨some 95, some (91, false), .bin .add (.t 92) (.t 94)⟩,
                   ⟨some 96, some (91, false), .mv false (.t 0)⟩,
                   ⟨some 97, some (91, false), .len false (.t 96)⟩,
                   ⟨some 98, some (91, false), .bin .gtr (.t 95) (.t 97)⟩,
                   ⟨some 99, none, .pick (.t 91) (.c (.bool true)) (.t 98)⟩,
                   ⟨some 100, none, .mv false (.t 99)⟩,
                   ⟨some 101, some (100, false), .mv false (.t 5)⟩,
                   ⟨some 102, some (100, false), .mv false (.t 9)⟩,
                   ⟨some 103, some (100, false), .iad 2 (.t 101) (.t 102)⟩,
                   ⟨some 104, some (100, false), .fad 1 (.t 103)⟩,
                   ⟨some 105, some (100, false), .ld 1 false false (.t 104)⟩,
                   ⟨some 106, some (100, false), .iad 1 (.t 105) (.c (.int .i64 0))⟩,
                   ⟨some 107, some (100, false), .ld 1 false false (.t 106)⟩,
                   ⟨some 108, some (100, false), .iad 1 (.t 107) (.c (.int .i64 0))⟩,
                   ⟨some 109, some (100, false), .ld 1 false false (.t 108)⟩,
                   ⟨some 110, some (100, false), .mv false (.t 0)⟩,
                   ⟨some 111, some (100, false), .mv false (.t 10)⟩,
                   ⟨some 112, some (100, false), .mv false (.t 10)⟩,
                   ⟨some 113, some (100, false), .fad 2 (.t 3)⟩,
                   ⟨some 114, some (100, false), .ld 1 false false (.t 113)⟩,
                   ⟨some 115, some (100, false), .bin .add (.t 112) (.t 114)⟩,
                   ⟨some 116, some (100, false), .sli 1 (.t 110) (some (.t 111)) (some (.t 115)) none⟩,
                   ⟨some 117, some (100, false), .cvS (.t 116)⟩,
                   ⟨some 118, some (100, false), .bin .neq (.t 109) (.t 117)⟩,
                   ⟨some 119, none, .pick (.t 100) (.c (.bool true)) (.t 118)⟩] [])
                 (.cond (.t 119)
                  (.seq
                   (.region [
                     ⟨some 4, none, .mv true (.c (.bool false))⟩])
                   .ret)
                  .skip))
                (.seq
                 (.region [
                   ⟨some 120, none, .mv false (.t 10)⟩,
                   ⟨some 121, none, .fad 0 (.t 3)⟩,
                   ⟨some 122, none, .ld 1 false false (.t 121)⟩,
                   ⟨some 123, none, .bin .geq (.t 120) (.t 122)⟩,
                   ⟨some 124, none, .mv false (.t 123)⟩,
                   ⟨some 125, some (124, true), .mv false (.t 10)⟩,
                   ⟨some 126, some (124, true), .fad 1 (.t 3)⟩,
                   ⟨some 127, some (124, true), .ld 1 false false (.t 126)⟩,
                   ⟨some 128, some (124, true), .bin .lss (.t 125) (.t 127)⟩,
                   ⟨some 129, none, .pick (.t 124) (.t 128) (.c (.bool false))⟩])
                 (.cond (.t 129)
                  (.region [
                    ⟨some 130, none, .mv false (.t 8)⟩,
                    ⟨some 131, none, .bin .add (.t 130) (.c (.int .i64 1))⟩,
                    ⟨some 8, none, .mv true (.t 131)⟩])
                  .skip)))))
             (.region [
               ⟨some 58, none, .mv false (.t 9)⟩,
               ⟨some 59, none, .bin .add (.t 58) (.c (.int .i64 1))⟩,
               ⟨some 9, none, .mv true (.t 59)⟩]))))))
        (.seq
         (.region [
           ⟨some 133, none, .mv false (.t 0)⟩,
           ⟨some 134, none, .fad 0 (.t 3)⟩,
           ⟨some 135, none, .ld 1 false false (.t 134)⟩,
           ⟨some 136, none, .fad 1 (.t 3)⟩,
           ⟨some 137, none, .ld 1 false false (.t 136)⟩,
           ⟨some 138, none, .fad 2 (.t 3)⟩,
           ⟨some 139, none, .ld 1 false false (.t 138)⟩,
           ⟨some 140, none, .callF 20 [.t 133, .t 135, .t 137, .t 139] []⟩,
           ⟨some 132, none, .mv false (.t 140)⟩,
           ⟨some 141, none, .ext true (.t 132) 0⟩,
           ⟨some 142, none, .ext false (.t 132) 1⟩,
           ⟨some 11, none, .mv true (.t 141)⟩,
           ⟨some 12, none, .mv true (.t 142)⟩])
         (.seq
          (.region [
            ⟨some 143, none, .callF 11 [] []⟩,
            ⟨some 144, none, .mv false (.t 143)⟩,
            ⟨some 145, some (144, true), .mv false (.t 11)⟩,
            ⟨some 146, some (144, true), .len false (.t 145)⟩,
            ⟨some 147, some (144, true), .mv false (.t 8)⟩,
            ⟨some 148, some (144, true), .bin .eql (.t 146) (.t 147)⟩,
            ⟨some 149, none, .pick (.t 144) (.t 148) (.c (.bool false))⟩,
            ⟨some 150, none, .mv false (.t 149)⟩,
            ⟨some 151, some (150, true), .mv false (.t 5)⟩,
            ⟨some 152, some (150, true), .len false (.t 151)⟩,
            ⟨some 153, some (150, true), .mv false (.t 0)⟩,
            ⟨some 154, some (150, true), .len false (.t 153)⟩,
            ⟨some 155, some (150, true), .fad 2 (.t 3)⟩,
            ⟨some 156, some (150, true), .ld 1 false false (.t 155)⟩,
            ⟨some 157, some (150, true), .bin .quo (.t 154) (.t 156)⟩,
            ⟨some 158, some (150, true), .bin .eql (.t 152) (.t 157)⟩,
            ⟨some 159, none, .pick (.t 150) (.t 158) (.c (.bool false))⟩,
            ⟨some 4, none, .mv true (.t 159)⟩])
          .ret))))))⟩
theorem t8 : compF Try.prog {} 8 = some p8 := by kernel_rfl
def p11 : PFn :=
  ⟨54, [.t 0], .seq
    (.region [
      ⟨some 0, none, .mv true (.c (.bool false))⟩])
    (.seq
     (.region [
       ⟨some 9, none, .nl 1 7 false [.int .u8 0, .int .u8 0, .int .u8 0, .int .u8 0, .int .u8 0, .int .u8 0, .int .u8 0] [(0, .c (.int .u8 97)), (1, .c (.int .u8 98)), (2, .c (.int .u8 99)), (3, .c (.int .u8 100)), (4, .c (.int .u8 101)), (5, .c (.int .u8 102)), (6, .c (.int .u8 103))]⟩,
       ⟨some 10, none, .cvM (.t 9)⟩,
       ⟨some 11, none, .callF 14 [.t 10, .c (.int .i64 3)] []⟩,
       ⟨some 8, none, .mv false (.t 11)⟩,
       ⟨some 12, none, .ext true (.t 8) 0⟩,
       ⟨some 13, none, .ext false (.t 8) 1⟩,
       ⟨some 14, none, .ext false (.t 8) 2⟩,
       ⟨some 1, none, .mv true (.t 12)⟩,
       ⟨some 2, none, .mv true (.t 13)⟩,
       ⟨some 3, none, .mv true (.t 14)⟩])
     (.seq
      (.region [
        ⟨some 16, none, .callF 12 [.c (.lst 0 [] true), .c (.int .i64 0)] []⟩,
        ⟨some 15, none, .mv false (.t 16)⟩,
        ⟨some 17, none, .ext true (.t 15) 0⟩,
        ⟨some 18, none, .ext false (.t 15) 1⟩,
        ⟨some 4, none, .mv true (.t 17)⟩,
        ⟨some 5, none, .mv true (.t 18)⟩])
      (.seq
       (.region [
         ⟨some 20, none, .bsl 1 2 false [.int .i64 0, .int .i64 0] [(0, .c (.int .i64 1)), (1, .c (.int .i64 2))] false⟩,
         ⟨some 21, none, .callF 23 [.c (.str [97, 98, 99]), .t 20] []⟩,
         ⟨some 19, none, .mv false (.t 21)⟩,
         ⟨some 22, none, .ext true (.t 19) 0⟩,
         ⟨some 23, none, .ext false (.t 19) 1⟩,
         ⟨some 6, none, .mv true (.t 22)⟩,
         ⟨some 7, none, .mv true (.t 23)⟩])
       (.seq
        (.region [
          ⟨some 24, none, .mv false (.t 1)⟩,
          ⟨some 25, none, .len false (.t 24)⟩,
          ⟨some 26, none, .bin .eql (.t 25) (.c (.int .i64 2))⟩,
          ⟨some 27, none, .mv false (.t 26)⟩,
          ⟨some 28, some (27, true), .mv false (.t 2)⟩,
          ⟨some 29, some (27, true), .bin .eql (.t 28) (.c (.int .i64 6))⟩,
          ⟨some 30, none, .pick (.t 27) (.t 29) (.c (.bool false))⟩,
          ⟨some 31, none, .mv false (.t 30)⟩,
          ⟨some 32, some (31, true), .mv false (.t 3)⟩,
          ⟨some 33, some (31, true), .bin .eql (.t 32) (.c (.int .i64 2))⟩,
          ⟨some 34, none, .pick (.t 31) (.t 33) (.c (.bool false))⟩,
          ⟨some 35, none, .mv false (.t 34)⟩,
          ⟨some 36, some (35, true), .mv false (.t 5)⟩,
          ⟨some 37, some (35, true), .bin .eql (.t 36) (.c (.int .i64 1))⟩,
          ⟨some 38, none, .pick (.t 35) (.t 37) (.c (.bool false))⟩,
          ⟨some 39, none, .mv false (.t 38)⟩,
          ⟨some 40, some (39, true), .mv false (.t 7)⟩,
          ⟨some 41, some (39, true), .bin .eql (.t 40) (.c (.int .i64 0))⟩,
          ⟨some 42, none, .pick (.t 39) (.t 41) (.c (.bool false))⟩,
          ⟨some 43, none, .mv false (.t 42)⟩,
          ⟨some 44, some (43, true), .mv false (.t 6)⟩,
          ⟨some 45, some (43, true), .len false (.t 44)⟩,
          ⟨some 46, some (43, true), .bin .eql (.t 45) (.c (.int .i64 2))⟩,
          ⟨some 47, none, .pick (.t 43) (.t 46) (.c (.bool false))⟩,
          ⟨some 48, none, .mv false (.t 47)⟩,
          ⟨some 49, some (48, true), .mv false (.t 6)⟩,
          ⟨some 50, some (48, true), .iad 1 (.t 49) (.c (.int .i64 1))⟩,
          ⟨some 51, some (48, true), .ld 1 false false (.t 50)⟩,
          ⟨some 52, some (48, true), .bin .eql (.t 51) (.c (.str [98, 99]))⟩,
          ⟨some 53, none, .pick (.t 48) (.t 52) (.c (.bool false))⟩,
          ⟨some 0, none, .mv true (.t 53)⟩])
        .ret))))⟩
theorem t11 : compF Try.prog {} 11 = some p11 := by kernel_rfl
def p14 : PFn :=
  ⟨25, [.t 4, .t 5, .t 6], .seq
    (.region [
      ⟨some 4, none, .mv true (.c (.lst 0 [] true))⟩,
      ⟨some 5, none, .mv true (.c (.int .i64 0))⟩,
      ⟨some 6, none, .mv true (.c (.int .i64 0))⟩])
    (.seq
     (.seq
      (.region [
        ⟨some 9, none, .mv false (.t 1)⟩,
        ⟨some 10, none, .callF 28 [.t 9] []⟩,
        ⟨some 11, none, .un .not (.t 10)⟩])
      (.cond (.t 11)
       (.seq
        (.region [
          ⟨some 4, none, .mv true (.c (.lst 0 [] true))⟩,
          ⟨some 5, none, .mv true (.c (.int .i64 0))⟩,
          ⟨some 6, none, .mv true (.c (.int .i64 1))⟩])
        .ret)
       .skip))
     (.seq
      (.region [
        ⟨some 12, none, .mv false (.t 0)⟩,
        ⟨some 13, none, .mv false (.t 1)⟩,
        ⟨some 14, none, .callF 30 [.t 12, .t 13] []⟩,
        ⟨some 7, none, .mv true (.t 14)⟩])
      (.seq
       (.region [
         ⟨some 8, none, .mv true (.c (.int .i64 0))⟩])
       (.seq
        (.seq
         (.region [
           ⟨some 15, none, .mv false (.t 7)⟩,
           ⟨some 16, none, .mv false (.t 0)⟩,
           ⟨some 17, none, .len false (.t 16)⟩,
           ⟨some 18, none, .bin .lss (.t 15) (.t 17)⟩])
         (.cond (.t 18)
          (.region [
            ⟨some 8, none, .mv true (.c (.int .i64 2))⟩])
          .skip))
        (.seq
         (.region [
           ⟨some 19, none, .mv false (.t 0)⟩,
           ⟨some 20, none, .mv false (.t 7)⟩,
           ⟨some 21, none, .mv false (.t 1)⟩,
           ⟨some 22, none, .callF 31 [.t 19, .c (.int .i64 0), .t 20, .t 21] []⟩,
           ⟨some 23, none, .mv true (.t 7)⟩,
           ⟨some 24, none, .mv true (.t 8)⟩,
           ⟨some 4, none, .mv true (.t 22)⟩,
           ⟨some 5, none, .mv true (.t 23)⟩,
           ⟨some 6, none, .mv true (.t 24)⟩])
         .ret)))))⟩
theorem t14 : compF Try.prog {} 14 = some p14 := by kernel_rfl
def p12 : PFn :=
  ⟨36, [.t 4, .t 5], .seq
    (.region [
      ⟨some 4, none, .mv true (.c (.lst 0 [] true))⟩,
      ⟨some 5, none, .mv true (.c (.int .i64 0))⟩])
    (.seq
     (.seq
      (.region [
        ⟨some 9, none, .mv false (.t 1)⟩,
        ⟨some 10, none, .callF 28 [.t 9] []⟩,
        ⟨some 11, none, .un .not (.t 10)⟩])
      (.cond (.t 11)
       (.seq
        (.region [
          ⟨some 4, none, .mv true (.c (.lst 0 [] true))⟩,
          ⟨some 5, none, .mv true (.c (.int .i64 1))⟩])
        .ret)
       .skip))
     (.seq
      (.region [
        ⟨some 6, none, .mv true (.c (.lst 0 [] true))⟩])
      (.seq
       (.seq
        (.region [
          ⟨some 12, none, .mv false (.t 0)⟩,
          ⟨some 13, none, .len false (.t 12)⟩,
          ⟨some 14, none, .mv false (.c (.int .i64 0))⟩])
        (.block 0
         (.loop
          (.seq
           (.region [
             ⟨some 15, none, .bin .lss (.t 14) (.t 13)⟩])
           (.seq
            (.cond (.t 15)
             .skip
             (.exit 0))
            (.seq
             (.block 1
              (.seq
               (.region [
                 ⟨some 16, none, .iad 1 (.t 12) (.t 14)⟩,
                 ⟨some 17, none, .ld 1 false false (.t 16)⟩,
                 ⟨some 8, none, .mv true (.t 17)⟩])
               (.seq
                (.seq
                 (.region [
                   ⟨some 18, none, .mv false (.t 8)⟩,
                   ⟨some 19, none, .len false (.t 18)⟩,
                   ⟨some 20, none, .bin .neq (.t 19) (.c (.int .i64 1))⟩,
                   ⟨some 21, none, .mv false (.t 20)⟩,
                   ⟨some 22, some (21, false), .mv false (.t 8)⟩,
                   ⟨some 23, some (21, false), .iad 1 (.t 22) (.c (.int .i64 0))⟩,
                   ⟨some 24, some (21, false), .ld 1 false false (.t 23)⟩,
                   ⟨some 25, some (21, false), .len true (.t 24)⟩,
                   ⟨some 26, some (21, false), .mv false (.t 1)⟩,
                   ⟨some 27, some (21, false), .bin .neq (.t 25) (.t 26)⟩,
                   ⟨some 28, none, .pick (.t 21) (.c (.bool true)) (.t 27)⟩])
                 (.cond (.t 28)
                  (.seq
                   (.region [
                     ⟨some 4, none, .mv true (.c (.lst 0 [] true))⟩,
                     ⟨some 5, none, .mv true (.c (.int .i64 10))⟩])
                   .ret)
                  .skip))
                (.region [
                  ⟨some 29, none, .mv true (.t 6)⟩,
                  ⟨some 30, none, .mv false (.t 8)⟩,
                  ⟨some 31, none, .iad 1 (.t 30) (.c (.int .i64 0))⟩,
                  ⟨some 32, none, .ld 1 false false (.t 31)⟩,
                  ⟨some 33, none, .app 1 1 (.t 29) (.t 32)⟩,
                  ⟨some 6, none, .mv true (.t 33)⟩]))))
             (.region [
               ⟨some 34, none, .bin .add (.t 14) (.c (.int .i64 1))⟩,
               ⟨some 14, none, .mv false (.t 34)⟩])))))))
       (.seq
        (.region [
          ⟨some 35, none, .mv true (.t 6)⟩,
          ⟨some 4, none, .mv true (.t 35)⟩,
          ⟨some 5, none, .mv true (.c (.int .i64 0))⟩])
        .ret))))⟩
theorem t12 : compF Try.prog {} 12 = some p12 := by kernel_rfl
def p23 : PFn :=
  ⟨35, [.t 4, .t 5], .seq
    (.region [
      ⟨some 4, none, .mv true (.c (.lst 0 [] true))⟩,
      ⟨some 5, none, .mv true (.c (.int .i64 0))⟩])
    (.seq
     (.seq
      (.region [
        ⟨some 9, none, .mv false (.t 1)⟩,
        ⟨some 10, none, .callF 33 [.t 9] []⟩,
        ⟨some 11, none, .un .not (.t 10)⟩])
      (.cond (.t 11)
       (.seq
        (.region [
          ⟨some 4, none, .mv true (.c (.lst 0 [] true))⟩,
          ⟨some 5, none, .mv true (.c (.int .i64 1))⟩])
        .ret)
       .skip))
     (.seq
      (.region [
        ⟨some 6, none, .mv true (.c (.lst 0 [] true))⟩])
      (.seq
       (.seq
        (.region [
          ⟨some 12, none, .mv false (.t 1)⟩,
          ⟨some 13, none, .len false (.t 12)⟩,
          ⟨some 14, none, .mv false (.c (.int .i64 0))⟩])
        (.block 0
         (.loop
          (.seq
           (.region [
             ⟨some 15, none, .bin .lss (.t 14) (.t 13)⟩])
           (.seq
            (.cond (.t 15)
             .skip
             (.exit 0))
            (.seq
             (.block 1
              (.seq
               (.region [
                 ⟨some 16, none, .iad 1 (.t 12) (.t 14)⟩,
                 ⟨some 17, none, .ld 1 false false (.t 16)⟩,
                 ⟨some 8, none, .mv true (.t 17)⟩])
               (.seq
                (.seq
                 (.region [
                   ⟨some 18, none, .mv false (.t 8)⟩,
                   ⟨some 19, none, .mv false (.t 0)⟩,
                   ⟨some 20, none, .len true (.t 19)⟩,
                   ⟨some 21, none, .bin .gtr (.t 18) (.t 20)⟩])
                 (.cond (.t 21)
                  (.seq
                   (.region [
                     ⟨some 4, none, .mv true (.c (.lst 0 [] true))⟩,
                     ⟨some 5, none, .mv true (.c (.int .i64 2))⟩])
                   .ret)
                  .skip))
                (.draw [
                  ⟨some 22, none, .mv true (.t 6)⟩,
                  ⟨some 23, none, .mv false (.t 0)⟩,
                  ⟨some 24, none, .mv false (.t 8)⟩,
                  ⟨some 25, none, .sls (.t 23) none (some (.t 24))⟩,
                  ⟨some 26, none, .bsl 1 1 false [.str []] [(0, .t 25)] false⟩,
                  ⟨some 27, none, .app 1 16 (.t 22) (.t 26)⟩,
                  ⟨some 28, none, .mv false (.t 0)⟩,
                  ⟨some 29, none, .mv false (.t 8)⟩,
                  ⟨some 30, none, .sls (.t 28) (some (.t 29)) none⟩,
                  ⟨some 6, none, .mv true (.t 27)⟩,
                  ⟨some 0, none, .mv true (.t 30)⟩] []))))
             (.region [
               ⟨some 31, none, .bin .add (.t 14) (.c (.int .i64 1))⟩,
               ⟨some 14, none, .mv false (.t 31)⟩])))))))
       (.seq
        (.seq
         (.region [
           ⟨some 32, none, .mv false (.t 0)⟩,
           ⟨some 33, none, .bin .neq (.t 32) (.c (.str []))⟩])
         (.cond (.t 33)
          (.seq
           (.region [
             ⟨some 4, none, .mv true (.c (.lst 0 [] true))⟩,
             ⟨some 5, none, .mv true (.c (.int .i64 5))⟩])
           .ret)
          .skip))
        (.seq
         (.region [
           ⟨some 34, none, .mv true (.t 6)⟩,
           ⟨some 4, none, .mv true (.t 34)⟩,
           ⟨some 5, none, .mv true (.c (.int .i64 0))⟩])
         .ret)))))⟩
theorem t23 : compF Try.prog {} 23 = some p23 := by kernel_rfl
def p33 : PFn :=
  ⟨18, [.t 2], .seq
    (.region [
      ⟨some 2, none, .mv true (.c (.bool false))⟩])
    (.seq
     (.region [
       ⟨some 3, none, .mv true (.c (.fn (.func 38) [] []))⟩])
     (.seq
      (.region [
        ⟨some 4, none, .mv false (.t 0)⟩,
        ⟨some 5, none, .len false (.t 4)⟩,
        ⟨some 6, none, .bin .geq (.t 5) (.c (.int .i64 1))⟩,
        ⟨some 7, none, .mv false (.t 6)⟩,
        ⟨some 8, some (7, true), .mv false (.t 0)⟩,
        ⟨some 9, some (7, true), .len false (.t 8)⟩,
        ⟨some 10, some (7, true), .bin .leq (.t 9) (.c (.int .i64 50))⟩,
        ⟨some 11, none, .pick (.t 7) (.t 10) (.c (.bool false))⟩,
        ⟨some 12, none, .mv false (.t 11)⟩,
        ⟨some 13, some (12, true), .mv false (.t 0)⟩,
        ⟨some 14, some (12, true), .mv false (.t 3)⟩,
        ⟨some 15, some (12, true), .callF 39 [.t 13, .t 14] []⟩,
        ⟨some 16, some (12, true), .un .not (.t 15)⟩,
        ⟨some 17, none, .pick (.t 12) (.t 16) (.c (.bool false))⟩,
        ⟨some 2, none, .mv true (.t 17)⟩])
      .ret))⟩
theorem t33 : compF Try.prog {} 33 = some p33 := by kernel_rfl
def p39 : PFn :=
  ⟨9, [.t 4], .seq
    (.region [
      ⟨some 4, none, .mv true (.c (.bool false))⟩])
    (.seq
     (.region [
       ⟨some 5, none, .mv false (.t 0)⟩,
       ⟨some 6, none, .mv false (.t 1)⟩,
       ⟨some 7, none, .callF 43 [.t 5, .t 6] []⟩,
       ⟨some 8, none, .bin .geq (.t 7) (.c (.int .i64 0))⟩,
       ⟨some 4, none, .mv true (.t 8)⟩])
     .ret)⟩
theorem t39 : compF Try.prog {} 39 = some p39 := by kernel_rfl
def p38 : PFn :=
  ⟨9, [.t 2], .seq
    (.region [
      ⟨some 2, none, .mv true (.c (.bool false))⟩])
    (.seq
     (.region [
       ⟨some 3, none, .mv false (.t 0)⟩,
       ⟨some 4, none, .bin .lss (.t 3) (.c (.int .i64 0))⟩,
       ⟨some 5, none, .mv false (.t 4)⟩,
       ⟨some 6, some (5, false), .mv false (.t 0)⟩,
       ⟨some 7, some (5, false), .bin .gtr (.t 6) (.c (.int .i64 1000))⟩,
       ⟨some 8, none, .pick (.t 5) (.c (.bool true)) (.t 7)⟩,
       ⟨some 2, none, .mv true (.t 8)⟩])
     .ret)⟩
theorem t38 : compF Try.prog {} 38 = some p38 := by kernel_rfl
def p43 : PFn :=
  ⟨19, [.t 4], .seq
    (.region [
      ⟨some 4, none, .mv true (.c (.int .i64 0))⟩])
    (.seq
     (.seq
      (.region [
        ⟨some 6, none, .mv false (.t 0)⟩,
        ⟨some 7, none, .len false (.t 6)⟩,
        ⟨some 8, none, .mv false (.c (.int .i64 0))⟩])
      (.block 0
       (.loop
        (.seq
         (.region [
           ⟨some 9, none, .bin .lss (.t 8) (.t 7)⟩])
         (.seq
          (.cond (.t 9)
           .skip
           (.exit 0))
          (.seq
           (.block 1
            (.seq
             (.region [
               ⟨some 10, none, .mv true (.t 8)⟩,
               ⟨some 5, none, .mv true (.t 10)⟩])
             (.seq
              (.region [
                ⟨some 11, none, .mv false (.t 1)⟩,
                ⟨some 12, none, .mv false (.t 0)⟩,
                ⟨some 13, none, .mv false (.t 5)⟩,
                ⟨some 14, none, .iad 1 (.t 12) (.t 13)⟩,
                ⟨some 15, none, .ld 1 false false (.t 14)⟩,
                ⟨some 16, none, .callV (.t 11) [.t 15]⟩])
              (.cond (.t 16)
               (.seq
                (.region [
                  ⟨some 17, none, .mv true (.t 5)⟩,
                  ⟨some 4, none, .mv true (.t 17)⟩])
                .ret)
               .skip))))
           (.region [
             ⟨some 18, none, .bin .add (.t 8) (.c (.int .i64 1))⟩,
             ⟨some 8, none, .mv false (.t 18)⟩])))))))
     (.seq
      (.region [
        ⟨some 4, none, .mv true (.c (.int .i64 (-1)))⟩])
      .ret))⟩
theorem t43 : compF Try.prog {} 43 = some p43 := by kernel_rfl
def p28 : PFn :=
  ⟨9, [.t 2], .seq
    (.region [
      ⟨some 2, none, .mv true (.c (.bool false))⟩])
    (.seq
     (.region [
       ⟨some 3, none, .mv false (.t 0)⟩,
       ⟨some 4, none, .bin .geq (.t 3) (.c (.int .i64 1))⟩,
       ⟨some 5, none, .mv false (.t 4)⟩,
       ⟨some 6, some (5, true), .mv false (.t 0)⟩,
       ⟨some 7, some (5, true), .bin .leq (.t 6) (.c (.int .i64 1000))⟩,
       ⟨some 8, none, .pick (.t 5) (.t 7) (.c (.bool false))⟩,
       ⟨some 2, none, .mv true (.t 8)⟩])
     .ret)⟩
theorem t28 : compF Try.prog {} 28 = some p28 := by kernel_rfl
def p30 : PFn :=
  ⟨12, [.t 4], .seq
    (.region [
      ⟨some 4, none, .mv true (.c (.int .i64 0))⟩])
    (.seq
     (.region [
       ⟨some 5, none, .mv false (.t 0)⟩,
       ⟨some 6, none, .len false (.t 5)⟩,
       ⟨some 7, none, .mv false (.t 0)⟩,
       ⟨some 8, none, .len false (.t 7)⟩,
       ⟨some 9, none, .mv false (.t 1)⟩,
       ⟨some 10, none, .bin .rem (.t 8) (.t 9)⟩,
       ⟨some 11, none, .bin .sub (.t 6) (.t 10)⟩,
       ⟨some 4, none, .mv true (.t 11)⟩])
     .ret)⟩
theorem t30 : compF Try.prog {} 30 = some p30 := by kernel_rfl
def p31 : PFn :=
  ⟨31, [.t 8], .seq
    (.region [
      ⟨some 8, none, .mv true (.c (.lst 0 [] true))⟩])
    (.seq
     (.region [
       ⟨some 9, none, .mv true (.c (.lst 0 [] true))⟩])
     (.seq
      (.block 0
       (.loop
        (.seq
         (.seq
          (.region [
            ⟨some 10, none, .mv false (.t 1)⟩,
            ⟨some 11, none, .mv false (.t 2)⟩,
            ⟨some 12, none, .bin .lss (.t 10) (.t 11)⟩])
          (.cond (.t 12)
           .skip
           (.exit 0)))
         (.seq
          (.block 1
           (.region [
             ⟨some 16, none, .mv true (.t 9)⟩,
             ⟨some 17, none, .mv false (.t 1)⟩,
             ⟨some 18, none, .mv false (.t 0)⟩,
             ⟨some 19, none, .mv false (.t 1)⟩,
             ⟨some 20, none, .mv false (.t 1)⟩,
             ⟨some 21, none, .mv false (.t 3)⟩,
             ⟨some 22, none, .bin .add (.t 20) (.t 21)⟩,
             ⟨some 23, none, .sli 1 (.t 18) (some (.t 19)) (some (.t 22)) none⟩,
             ⟨some 24, none, .cvS (.t 23)⟩,
             ⟨some 25, none, .bsl 1 1 false [.str []] [(0, .t 24)] false⟩,
             ⟨some 26, none, .bsl 1 1 false [.lst 0 [] true] [(0, .t 25)] false⟩,
             ⟨some 27, none, .build [.int .i64 0, .lst 0 [] true] [(0, (1, .t 17)), (1, (1, .t 26))]⟩,
             ⟨some 28, none, .bsl 2 1 true [.int .i64 0, .lst 0 [] true] [(0, .t 27)] false⟩,
             ⟨some 29, none, .app 2 32 (.t 16) (.t 28)⟩,
             ⟨some 9, none, .mv true (.t 29)⟩]))
          (.region [
            ⟨some 13, none, .mv false (.t 1)⟩,
            ⟨some 14, none, .mv false (.t 3)⟩,
            ⟨some 15, none, .bin .add (.t 13) (.t 14)⟩,
            ⟨some 1, none, .mv true (.t 15)⟩])))))
      (.seq
       (.region [
         ⟨some 30, none, .mv true (.t 9)⟩,
         ⟨some 8, none, .mv true (.t 30)⟩])
       .ret)))⟩
theorem t31 : compF Try.prog {} 31 = some p31 := by kernel_rfl
def p20 : PFn :=
  ⟨66, [.t 8, .t 9], .seq
    (.region [
      ⟨some 8, none, .mv true (.c (.lst 0 [] true))⟩,
      ⟨some 9, none, .mv true (.c (.int .i64 0))⟩])
    (.seq
     (.seq
      (.region [
        ⟨some 15, none, .mv false (.t 3)⟩,
        ⟨some 16, none, .callF 28 [.t 15] []⟩,
        ⟨some 17, none, .un .not (.t 16)⟩,
        ⟨some 18, none, .mv false (.t 17)⟩,
        ⟨some 19, some (18, false), .mv false (.t 1)⟩,
        ⟨some 20, some (18, false), .bin .lss (.t 19) (.c (.int .i64 0))⟩,
        ⟨some 21, none, .pick (.t 18) (.c (.bool true)) (.t 20)⟩,
        ⟨some 22, none, .mv false (.t 21)⟩,
        ⟨some 23, some (22, false), .mv false (.t 1)⟩,
        ⟨some 24, some (22, false), .mv false (.t 2)⟩,
        ⟨some 25, some (22, false), .bin .gtr (.t 23) (.t 24)⟩,
        ⟨some 26, none, .pick (.t 22) (.c (.bool true)) (.t 25)⟩,
        ⟨some 27, none, .mv false (.t 26)⟩,
        ⟨some 28, some (27, false), .mv false (.t 2)⟩,
        ⟨some 29, some (27, false), .mv false (.t 0)⟩,
        ⟨some 30, some (27, false), .len false (.t 29)⟩,
        ⟨some 31, some (27, false), .bin .gtr (.t 28) (.t 30)⟩,
        ⟨some 32, none, .pick (.t 27) (.c (.bool true)) (.t 31)⟩])
      (.cond (.t 32)
       (.seq
        (.region [
          ⟨some 8, none, .mv true (.c (.lst 0 [] true))⟩,
          ⟨some 9, none, .mv true (.c (.int .i64 1))⟩])
        .ret)
       .skip))
     (.seq
      (.region [
        ⟨some 33, none, .mv false (.t 0)⟩,
        ⟨some 34, none, .mv false (.t 3)⟩,
        ⟨some 35, none, .callF 30 [.t 33, .t 34] []⟩,
        ⟨some 10, none, .mv true (.t 35)⟩])
      (.seq
       (.region [
         ⟨some 36, none, .mv false (.t 1)⟩,
         ⟨some 37, none, .mv false (.t 3)⟩,
         ⟨some 38, none, .bin .add (.t 36) (.t 37)⟩,
         ⟨some 39, none, .bin .sub (.t 38) (.c (.int .i64 1))⟩,
         ⟨some 40, none, .mv false (.t 3)⟩,
         ⟨some 41, none, .bin .quo (.t 39) (.t 40)⟩,
         ⟨some 42, none, .mv false (.t 3)⟩,
         ⟨some 43, none, .bin .mul (.t 41) (.t 42)⟩,
         ⟨some 11, none, .mv true (.t 43)⟩])
       (.seq
        (.region [
          ⟨some 12, none, .mv true (.c (.lst 0 [] true))⟩])
        (.seq
         (.seq
          (.region [
            ⟨some 44, none, .mv false (.t 0)⟩,
            ⟨some 45, none, .mv false (.t 11)⟩,
            ⟨some 46, none, .mv false (.t 2)⟩,
            ⟨some 47, none, .mv false (.t 10)⟩,
            ⟨some 48, none, .mm false (.t 46) (.t 47)⟩,
            ⟨some 49, none, .mv false (.t 3)⟩,
            ⟨some 50, none, .callF 31 [.t 44, .t 45, .t 48, .t 49] []⟩,
            ⟨some 51, none, .len false (.t 50)⟩,
            ⟨some 52, none, .mv false (.c (.int .i64 0))⟩])
          (.block 0
           (.loop
            (.seq
             (.region [
               ⟨some 53, none, .bin .lss (.t 52) (.t 51)⟩])
             (.seq
              (.cond (.t 53)
               .skip
               (.exit 0))
              (.seq
               (.block 1
                (.seq
                 (.region [
                   ⟨some 54, none, .iad 2 (.t 50) (.t 52)⟩,
                   ⟨some 55, none, .ld 2 true false (.t 54)⟩,
                   ⟨some 14, none, .al [.int .i64 0, .lst 0 [] true]⟩,
                   ⟨none, none, .sto 2 (.t 14) (.t 55)⟩])
                 (.region [
                   ⟨some 56, none, .mv true (.t 12)⟩,
                   ⟨some 57, none, .fad 1 (.t 14)⟩,
                   ⟨some 58, none, .ld 1 false false (.t 57)⟩,
                   ⟨some 59, none, .app 1 24 (.t 56) (.t 58)⟩,
                   ⟨some 12, none, .mv true (.t 59)⟩])))
               (.region [
                 ⟨some 60, none, .bin .add (.t 52) (.c (.int .i64 1))⟩,
                 ⟨some 52, none, .mv false (.t 60)⟩])))))))
         (.seq
          (.seq
           (.region [
             ⟨some 61, none, .mv false (.t 10)⟩,
             ⟨some 62, none, .mv false (.t 2)⟩,
             ⟨some 63, none, .bin .lss (.t 61) (.t 62)⟩])
           (.cond (.t 63)
            (.seq
             (.region [
               ⟨some 64, none, .mv true (.t 12)⟩,
               ⟨some 8, none, .mv true (.t 64)⟩,
               ⟨some 9, none, .mv true (.c (.int .i64 2))⟩])
             .ret)
            .skip))
          (.seq
           (.region [
             ⟨some 65, none, .mv true (.t 12)⟩,
             ⟨some 8, none, .mv true (.t 65)⟩,
             ⟨some 9, none, .mv true (.c (.int .i64 0))⟩])
           .ret)))))))⟩
theorem t20 : compF Try.prog {} 20 = some p20 := by kernel_rfl
def tab : List (Nat × PFn) := [(8, p8), (11, p11), (14, p14), (12, p12), (23, p23), (33, p33), (39, p39), (38, p38), (43, p43), (28, p28), (30, p30), (31, p31), (20, p20)]
theorem tabOk : TabOk Try.prog tab := .cons t8 <| .cons t11 <| .cons t14 <| .cons t12 <| .cons t23 <| .cons t33 <| .cons t39 <| .cons t38 <| .cons t43 <| .cons t28 <| .cons t30 <| .cons t31 <| .cons t20 <| .nil
theorem hmix : Try.prog.follows .mixedOrders = true := by kernel_rfl
theorem good (n d : Nat) : Good Try.prog (evF (tabOf tab) n d) := evF_sound hmix tabOk d
end Go.Proofs.Ytjbnomkajfmlpaa.E

