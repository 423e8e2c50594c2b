/- Part 1 of the proof of TaskPlays: what the program's functions come to. -/
import Derived.Test.YtkjibelcaeanjaaL3
import Derived.Test.YtkjibelcaeanjaaProg
/- The functions of this claim as operations on plain values. -/
namespace Go.Proofs.Ytkjibelcaeanjaa.E
open Go Go.RowKit Go.Proofs
set_option linter.unusedVariables false
set_option maxRecDepth 100000
def p2 : PFn :=
  ⟨1, [], .region [
     ⟨some 0, none, .callF 1 [] []⟩]⟩
theorem t2 : compF Try.prog {} 2 = some p2 := by kernel_rfl
def p3 : PFn :=
  ⟨117, [.t 4], .seq
    (.region [
      ⟨some 2, none, .bxI 3 (.t 0)⟩,
      ⟨some 3, none, .bxI 5 (.t 1)⟩,
      ⟨some 4, none, .mv true (.c (.bool false))⟩])
    (.seq
     (.seq
      (.region [
        ⟨some 13, none, .ld 3 true false (.t 2)⟩,
        ⟨some 14, none, .callF 6 [.t 13] []⟩,
        ⟨some 15, none, .un .not (.t 14)⟩,
        ⟨some 16, none, .mv false (.t 15)⟩,
        ⟨some 17, some (16, false), .ld 3 true false (.t 2)⟩,
        ⟨some 18, some (16, false), .callF 7 [.t 17] []⟩,
        ⟨some 19, some (16, false), .un .not (.t 18)⟩,
        ⟨some 20, none, .pick (.t 16) (.c (.bool true)) (.t 19)⟩,
        ⟨some 21, none, .mv false (.t 20)⟩,
        ⟨some 22, some (21, false), .ld 3 true false (.t 2)⟩,
        ⟨some 23, some (21, false), .callF 9 [.t 22] []⟩,
        ⟨some 24, some (21, false), .callF 8 [.t 23] []⟩,
        ⟨some 25, some (21, false), .un .not (.t 24)⟩,
        ⟨some 26, none, .pick (.t 21) (.c (.bool true)) (.t 25)⟩,
        ⟨some 27, none, .mv false (.t 26)⟩,
        ⟨some 28, some (27, false), .ld 5 true false (.t 3)⟩,
        ⟨some 29, some (27, false), .callF 10 [.t 28] []⟩,
        ⟨some 30, some (27, false), .un .not (.t 29)⟩,
        ⟨some 31, none, .pick (.t 27) (.c (.bool true)) (.t 30)⟩])
      (.cond (.t 31)
       (.seq
        (.region [
          ⟨some 32, none, .callF 11 [] []⟩,
          ⟨some 4, none, .mv true (.t 32)⟩])
        .ret)
       .skip))
     (.seq
      (.region [
        ⟨some 34, none, .ld 3 true false (.t 2)⟩,
        ⟨some 35, none, .fad 3 (.t 3)⟩,
        ⟨some 36, none, .ld 1 false false (.t 35)⟩,
        ⟨some 37, none, .fad 4 (.t 3)⟩,
        ⟨some 38, none, .ld 1 false false (.t 37)⟩,
        ⟨some 39, none, .callF 12 [.t 34, .t 36, .t 38] []⟩,
        ⟨some 33, none, .mv true (.t 39)⟩,
        ⟨some 40, none, .ext false (.t 33) 0⟩,
        ⟨some 41, none, .ext false (.t 33) 1⟩,
        ⟨some 5, none, .mv true (.t 40)⟩,
        ⟨some 6, none, .mv true (.t 41)⟩])
      (.seq
       (.seq
        (.region [
          ⟨some 42, none, .mv false (.t 6)⟩])
        (.cond (.t 42)
         (.seq
          (.region [
            ⟨some 44, none, .ld 3 true false (.t 2)⟩,
            ⟨some 45, none, .mv false (.t 5)⟩,
            ⟨some 46, none, .fad 3 (.t 3)⟩,
            ⟨some 47, none, .ld 1 false false (.t 46)⟩,
            ⟨some 48, none, .fad 4 (.t 3)⟩,
            ⟨some 49, none, .ld 1 false false (.t 48)⟩,
            ⟨some 50, none, .callF 13 [.t 44, .t 45, .t 47, .t 49] []⟩,
            ⟨some 43, none, .mv true (.t 50)⟩,
            ⟨some 51, none, .ext true (.t 43) 0⟩,
            ⟨some 52, none, .ext false (.t 43) 1⟩,
            ⟨some 53, none, .ext false (.t 43) 2⟩,
            ⟨some 7, none, .al [.int .i64 0, .int .i64 0, .lst 0 [] true]⟩,
            ⟨none, none, .sto 3 (.t 7) (.t 51)⟩,
            ⟨some 8, none, .mv true (.t 52)⟩,
            ⟨some 9, none, .mv true (.t 53)⟩])
          (.seq
           (.region [
             ⟨some 54, none, .callF 11 [] []⟩,
             ⟨some 55, none, .mv false (.t 54)⟩,
             ⟨some 56, some (55, true), .mv false (.t 9)⟩,
             ⟨some 57, some (55, true), .bin .eql (.t 56) (.c (.int .i64 0))⟩,
             ⟨some 58, none, .pick (.t 55) (.t 57) (.c (.bool false))⟩,
             ⟨some 59, none, .mv false (.t 58)⟩,
             ⟨some 60, some (59, true), .mv false (.t 8)⟩,
             ⟨some 61, some (59, true), .fad 2 (.t 2)⟩,
             ⟨some 62, some (59, true), .ld 1 false false (.t 61)⟩,
             ⟨some 63, some (59, true), .mv false (.t 5)⟩,
             ⟨some 64, some (59, true), .iad 3 (.t 62) (.t 63)⟩,
             ⟨some 65, some (59, true), .fad 0 (.t 64)⟩,
             ⟨some 66, some (59, true), .ld 1 false false (.t 65)⟩,
             ⟨some 67, some (59, true), .len false (.t 66)⟩,
             ⟨some 68, some (59, true), .bin .eql (.t 60) (.t 67)⟩,
             ⟨some 69, none, .pick (.t 59) (.t 68) (.c (.bool false))⟩,
             ⟨some 70, none, .mv false (.t 69)⟩,
             ⟨some 71, some (70, true), .ld 3 true false (.t 7)⟩,
             ⟨some 72, some (70, true), .callF 14 [.t 71] []⟩,
             ⟨some 73, none, .pick (.t 70) (.t 72) (.c (.bool false))⟩,
             ⟨some 4, none, .mv true (.t 73)⟩])
           .ret))
         .skip))
       (.seq
        (.seq
         (.region [
           ⟨some 10, none, .mv true (.c (.int .i64 0))⟩])
         (.block 0
          (.loop
           (.seq
            (.seq
             (.region [
               ⟨some 74, none, .mv false (.t 10)⟩,
               ⟨some 75, none, .fad 2 (.t 2)⟩,
               ⟨some 76, none, .ld 1 false false (.t 75)⟩,
               ⟨some 77, none, .len false (.t 76)⟩,
               ⟨some 78, none, .bin .lss (.t 74) (.t 77)⟩])
             (.cond (.t 78)
              .skip
              (.exit 0)))
            (.seq
             (.block 1
              (.seq
               (.region [
                 ⟨some 11, none, .mv true (.c (.bool false))⟩])
               (.seq
                (.seq
                 (.region [
                   ⟨some 12, none, .mv true (.c (.int .i64 0))⟩])
                 (.block 2
                  (.loop
                   (.seq
                    (.seq
                     (.region [
                       ⟨some 81, none, .mv false (.t 12)⟩,
                       ⟨some 82, none, .fad 2 (.t 2)⟩,
                       ⟨some 83, none, .ld 1 false false (.t 82)⟩,
                       ⟨some 84, none, .mv false (.t 10)⟩,
                       ⟨some 85, none, .iad 3 (.t 83) (.t 84)⟩,
                       ⟨some 86, none, .fad 0 (.t 85)⟩,
                       ⟨some 87, none, .ld 1 false false (.t 86)⟩,
                       ⟨some 88, none, .len false (.t 87)⟩,
                       ⟨some 89, none, .bin .lss (.t 81) (.t 88)⟩])
                     (.cond (.t 89)
                      .skip
                      (.exit 2)))
                    (.seq
                     (.block 3
                      (.region [
                        ⟨some 92, none, .mv false (.t 11)⟩,
                        ⟨some 93, none, .mv false (.t 92)⟩,
                        ⟨some 94, some (93, false), .fad 2 (.t 2)⟩,
                        ⟨some 95, some (93, false), .ld 1 false false (.t 94)⟩,
                        ⟨some 96, some (93, false), .mv false (.t 10)⟩,
                        ⟨some 97, some (93, false), .iad 3 (.t 95) (.t 96)⟩,
                        ⟨some 98, some (93, false), .fad 0 (.t 97)⟩,
                        ⟨some 99, some (93, false), .ld 1 false false (.t 98)⟩,
                        ⟨some 100, some (93, false), .mv false (.t 12)⟩,
                        ⟨some 101, some (93, false), .iad 3 (.t 99) (.t 100)⟩,
                        ⟨some 102, some (93, false), .fad 2 (.t 101)⟩,
                        ⟨some 103, some (93, false), .ld 1 false false (.t 102)⟩,
                        ⟨some 104, none, .pick (.t 93) (.c (.bool true)) (.t 103)⟩,
                        ⟨some 11, none, .mv true (.t 104)⟩]))
                     (.region [
                       ⟨some 90, none, .mv false (.t 12)⟩,
                       ⟨some 91, none, .bin .add (.t 90) (.c (.int .i64 1))⟩,
                       ⟨some 12, none, .mv true (.t 91)⟩]))))))
                (.seq
                 (.region [
                   ⟨some 105, none, .fad 2 (.t 2)⟩,
                   ⟨some 106, none, .ld 1 false false (.t 105)⟩,
                   ⟨some 107, none, .mv false (.t 10)⟩,
                   ⟨some 108, none, .iad 3 (.t 106) (.t 107)⟩,
                   ⟨some 109, none, .fad 1 (.t 108)⟩,
                   ⟨some 110, none, .ld 1 false false (.t 109)⟩,
                   ⟨some 111, none, .bin .lss (.t 110) (.c (.int .i64 0))⟩,
                   ⟨some 112, none, .mv false (.t 111)⟩,
                   ⟨some 113, some (112, true), .mv false (.t 11)⟩,
                   ⟨some 114, some (112, true), .un .not (.t 113)⟩,
                   ⟨some 115, none, .pick (.t 112) (.t 114) (.c (.bool false))⟩])
                 (.cond (.t 115)
                  (.seq
                   (.region [
                     ⟨some 4, none, .mv true (.c (.bool false))⟩])
                   .ret)
                  .skip)))))
             (.region [
               ⟨some 79, none, .mv false (.t 10)⟩,
               ⟨some 80, none, .bin .add (.t 79) (.c (.int .i64 1))⟩,
               ⟨some 10, none, .mv true (.t 80)⟩]))))))
        (.seq
         (.region [
           ⟨some 116, none, .callF 11 [] []⟩,
           ⟨some 4, none, .mv true (.t 116)⟩])
         .ret)))))⟩
theorem t3 : compF Try.prog { ros := [2, 3] } 3 = some p3 := by kernel_rfl
def p4 : PFn :=
  ⟨124, [.t 4], .seq
    (.region [
      ⟨some 2, none, .bxI 3 (.t 0)⟩,
      ⟨some 4, none, .mv true (.c (.bool false))⟩])
    (.seq
     (.region [
       ⟨some 20, none, .fad 0 (.t 2)⟩,
       ⟨some 21, none, .ld 1 false false (.t 20)⟩,
       ⟨some 22, none, .fad 1 (.t 2)⟩,
       ⟨some 23, none, .ld 1 false false (.t 22)⟩,
       ⟨some 24, none, .fad 2 (.t 2)⟩,
       ⟨some 25, none, .ld 1 false false (.t 24)⟩,
       ⟨some 26, none, .callF 15 [.t 21, .t 23, .t 25] []⟩,
       ⟨some 19, none, .mv true (.t 26)⟩,
       ⟨some 27, none, .ext true (.t 19) 0⟩,
       ⟨some 28, none, .ext false (.t 19) 1⟩,
       ⟨some 5, none, .al [.int .i64 0, .int .i64 0, .lst 0 [] true]⟩,
       ⟨none, none, .sto 3 (.t 5) (.t 27)⟩,
       ⟨some 6, none, .mv true (.t 28)⟩])
     (.seq
      (.region [
        ⟨some 30, none, .fad 0 (.t 2)⟩,
        ⟨some 31, none, .ld 1 false false (.t 30)⟩,
        ⟨some 32, none, .fad 1 (.t 2)⟩,
        ⟨some 33, none, .ld 1 false false (.t 32)⟩,
        ⟨some 34, none, .fad 2 (.t 2)⟩,
        ⟨some 35, none, .ld 1 false false (.t 34)⟩,
        ⟨some 36, none, .callF 16 [.t 31, .t 33, .t 35] []⟩,
        ⟨some 29, none, .mv true (.t 36)⟩,
        ⟨some 37, none, .ext true (.t 29) 0⟩,
        ⟨some 38, none, .ext false (.t 29) 1⟩,
        ⟨some 7, none, .al [.int .i64 0, .int .i64 0, .lst 0 [] true]⟩,
        ⟨none, none, .sto 3 (.t 7) (.t 37)⟩,
        ⟨some 8, none, .mv true (.t 38)⟩])
      (.seq
       (.seq
        (.draw [
          ⟨some 39, none, .mv false (.t 6)⟩,
          ⟨some 40, none, .mv false (.t 8)⟩,
          ⟨some 41, none, .bin .neq (.t 39) (.t 40)⟩,
          ⟨some 42, none, .mv false (.t 41)⟩,
          ⟨some 43, some (42, false), .ld 3 true false (.t 5)⟩,
          ⟨some 44, some (42, false), .callF 9 [.t 43] []⟩,
          ⟨some 45, some (42, false), .ld 3 true false (.t 7)⟩,
          ⟨some 46, some (42, false), .callF 17 [.t 44, .t 45] []⟩,
          ⟨some 47, some (42, false), .un .not (.t 46)⟩,
          ⟨some 48, none, .pick (.t 42) (.c (.bool true)) (.t 47)⟩] [])
        (.cond (.t 48)
         (.seq
          (.region [
            ⟨some 4, none, .mv true (.c (.bool false))⟩])
          .ret)
         .skip))
       (.seq
        (.seq
         (.region [
           ⟨some 9, none, .mv true (.c (.int .i64 0))⟩])
         (.block 0
          (.loop
           (.seq
            (.seq
             (.region [
               ⟨some 49, none, .mv false (.t 6)⟩,
               ⟨some 50, none, .bin .eql (.t 49) (.c (.int .i64 0))⟩,
               ⟨some 51, none, .mv false (.t 50)⟩,
               ⟨some 52, some (51, true), .mv false (.t 9)⟩,
               ⟨some 53, some (51, true), .mv false (.t 1)⟩,
               ⟨some 54, some (51, true), .len false (.t 53)⟩,
               ⟨some 55, some (51, true), .bin .lss (.t 52) (.t 54)⟩,
               ⟨some 56, none, .pick (.t 51) (.t 55) (.c (.bool false))⟩,
               ⟨some 57, none, .mv false (.t 56)⟩,
               ⟨some 58, some (57, true), .mv false (.t 9)⟩,
               ⟨some 59, some (57, true), .bin .lss (.t 58) (.c (.int .i64 80))⟩,
               ⟨some 60, none, .pick (.t 57) (.t 59) (.c (.bool false))⟩])
             (.cond (.t 60)
              .skip
              (.exit 0)))
            (.seq
             (.block 1
              (.seq
               (.seq
                (.region [
                  ⟨some 63, none, .mv false (.t 1)⟩,
                  ⟨some 64, none, .mv false (.t 9)⟩,
                  ⟨some 65, none, .iad 5 (.t 63) (.t 64)⟩,
                  ⟨some 66, none, .ld 5 true false (.t 65)⟩,
                  ⟨some 67, none, .callF 10 [.t 66] []⟩,
                  ⟨some 68, none, .un .not (.t 67)⟩])
                (.cond (.t 68)
                 (.exit 1)
                 .skip))
               (.seq
                (.drawN [
                  ⟨some 69, none, .ld 3 true false (.t 5)⟩,
                  ⟨some 70, none, .ld 3 true false (.t 7)⟩,
                  ⟨some 10, none, .mv false (.c .unit)⟩,
                  ⟨some 11, none, .mv false (.c .unit)⟩,
                  ⟨some 10, none, .mvc 3 (.t 69)⟩,
                  ⟨some 11, none, .mvc 3 (.t 70)⟩] [] [(2, (4, (10, 3))), (3, (5, (11, 3)))])
                (.seq
                 (.drawN [
                   ⟨some 72, none, .ld 3 true false (.t 5)⟩,
                   ⟨some 73, none, .ld 3 true false (.t 7)⟩,
                   ⟨some 74, none, .mv false (.t 1)⟩,
                   ⟨some 75, none, .mv false (.t 9)⟩,
                   ⟨some 76, none, .iad 5 (.t 74) (.t 75)⟩,
                   ⟨some 77, none, .ld 5 true false (.t 76)⟩,
                   ⟨some 78, none, .callF 18 [.t 72, .t 73, .t 77] []⟩,
                   ⟨some 71, none, .mv true (.t 78)⟩,
                   ⟨some 79, none, .ext true (.t 71) 0⟩,
                   ⟨some 80, none, .ext false (.t 71) 1⟩,
                   ⟨some 81, none, .ext false (.t 71) 2⟩,
                   ⟨some 12, none, .mv false (.c .unit)⟩,
                   ⟨some 13, none, .mv false (.c .unit)⟩,
                   ⟨some 12, none, .mvc 3 (.t 79)⟩,
                   ⟨some 13, none, .mvc 3 (.t 80)⟩,
                   ⟨some 14, none, .mv true (.t 81)⟩] [] [(11, (13, (12, 3))), (12, (14, (13, 3)))])
                 (.seq
                  (.seq
                   (.draw [
                     ⟨some 82, none, .mv false (.t 14)⟩,
                     ⟨some 83, none, .un .not (.t 82)⟩,
                     ⟨some 84, none, .mv false (.t 83)⟩,
                     ⟨some 85, some (84, false), .ld 3 true false (.t 10)⟩,
                     ⟨some 86, some (84, false), .callF 9 [.t 85] []⟩,
                     ⟨some 87, some (84, false), .ld 3 true false (.t 11)⟩,
                     ⟨some 88, some (84, false), .callF 17 [.t 86, .t 87] []⟩,
                     ⟨some 89, some (84, false), .un .not (.t 88)⟩,
                     ⟨some 90, none, .pick (.t 84) (.c (.bool true)) (.t 89)⟩] [])
                   (.cond (.t 90)
                    (.seq
                     (.region [
                       ⟨some 4, none, .mv true (.c (.bool false))⟩])
                     .ret)
                    .skip))
                  (.seq
                   (.region [
                     ⟨some 91, none, .ld 3 true false (.t 12)⟩,
                     ⟨none, none, .sto 3 (.t 5) (.t 91)⟩])
                   (.seq
                    (.region [
                      ⟨some 92, none, .ld 3 true false (.t 13)⟩,
                      ⟨none, none, .sto 3 (.t 7) (.t 92)⟩])
                    (.seq
                     (.region [
                       ⟨some 94, none, .ld 3 true false (.t 5)⟩,
                       ⟨some 95, none, .callF 19 [.t 94] []⟩,
                       ⟨some 93, none, .mv true (.t 95)⟩,
                       ⟨some 96, none, .ext false (.t 93) 0⟩,
                       ⟨some 97, none, .ext false (.t 93) 1⟩,
                       ⟨some 15, none, .mv true (.t 96)⟩,
                       ⟨some 16, none, .mv true (.t 97)⟩])
                     (.seq
                      (.region [
                        ⟨some 99, none, .ld 3 true false (.t 7)⟩,
                        ⟨some 100, none, .callF 20 [.t 99] []⟩,
                        ⟨some 98, none, .mv true (.t 100)⟩,
                        ⟨some 101, none, .ext false (.t 98) 0⟩,
                        ⟨some 102, none, .ext false (.t 98) 1⟩,
                        ⟨some 17, none, .mv true (.t 101)⟩,
                        ⟨some 18, none, .mv true (.t 102)⟩])
                      (.seq
                       (.draw [
                         ⟨some 103, none, .ld 3 true false (.t 5)⟩,
                         ⟨some 104, none, .callF 21 [.t 103] []⟩,
                         ⟨some 105, none, .ld 3 true false (.t 7)⟩,
                         ⟨some 106, none, .callF 22 [.t 105] []⟩,
                         ⟨some 107, none, .binB true (.t 104) (.t 106)⟩,
                         ⟨some 108, none, .mv false (.t 107)⟩,
                         ⟨some 109, some (108, false), .mv false (.t 15)⟩,
                         ⟨some 110, some (108, false), .mv false (.t 17)⟩,
                         ⟨some 111, some (108, false), .bin .neq (.t 109) (.t 110)⟩,
                         ⟨some 112, none, .pick (.t 108) (.c (.bool true)) (.t 111)⟩,
                         ⟨some 113, none, .mv false (.t 112)⟩,
                         ⟨some 114, some (113, false), .mv false (.t 16)⟩,
                         ⟨some 115, some (113, false), .mv false (.t 18)⟩,
                         ⟨some 116, some (113, false), .binB true (.t 114) (.t 115)⟩,
                         ⟨some 117, none, .pick (.t 113) (.c (.bool true)) (.t 116)⟩,
                         ⟨some 118, none, .mv false (.t 117)⟩,
                         ⟨some 119, some (118, false), .ld 3 true false (.t 5)⟩,
                         ⟨some 120, some (118, false), .callF 14 [.t 119] []⟩,
                         ⟨some 121, some (118, false), .un .not (.t 120)⟩,
                         ⟨some 122, none, .pick (.t 118) (.c (.bool true)) (.t 121)⟩] [])
                       (.cond (.t 122)
                        (.seq
                         (.region [
                           ⟨some 4, none, .mv true (.c (.bool false))⟩])
                         .ret)
                        .skip)))))))))))
             (.region [
               ⟨some 61, none, .mv false (.t 9)⟩,
               ⟨some 62, none, .bin .add (.t 61) (.c (.int .i64 1))⟩,
               ⟨some 9, none, .mv true (.t 62)⟩]))))))
        (.seq
         (.region [
           ⟨some 123, none, .callF 11 [] []⟩,
           ⟨some 4, none, .mv true (.t 123)⟩])
         .ret)))))⟩
theorem t4 : compF Try.prog { ros := [2] } 4 = some p4 := by kernel_rfl
def p5 : PFn :=
  ⟨214, [.t 4], .seq
    (.region [
      ⟨some 2, none, .bxI 3 (.t 0)⟩,
      ⟨some 3, none, .bxI 5 (.t 1)⟩,
      ⟨some 4, none, .mv true (.c (.bool false))⟩])
    (.seq
     (.seq
      (.region [
        ⟨some 16, none, .ld 3 true false (.t 2)⟩,
        ⟨some 17, none, .callF 6 [.t 16] []⟩,
        ⟨some 18, none, .un .not (.t 17)⟩,
        ⟨some 19, none, .mv false (.t 18)⟩,
        ⟨some 20, some (19, false), .ld 3 true false (.t 2)⟩,
        ⟨some 21, some (19, false), .callF 9 [.t 20] []⟩,
        ⟨some 22, some (19, false), .callF 8 [.t 21] []⟩,
        ⟨some 23, some (19, false), .un .not (.t 22)⟩,
        ⟨some 24, none, .pick (.t 19) (.c (.bool true)) (.t 23)⟩,
        ⟨some 25, none, .mv false (.t 24)⟩,
        ⟨some 26, some (25, false), .ld 5 true false (.t 3)⟩,
        ⟨some 27, some (25, false), .callF 10 [.t 26] []⟩,
        ⟨some 28, some (25, false), .un .not (.t 27)⟩,
        ⟨some 29, none, .pick (.t 25) (.c (.bool true)) (.t 28)⟩,
        ⟨some 30, none, .mv false (.t 29)⟩,
        ⟨some 31, some (30, false), .fad 1 (.t 3)⟩,
        ⟨some 32, some (30, false), .ld 1 false false (.t 31)⟩,
        ⟨some 33, some (30, false), .bin .lss (.t 32) (.c (.int .i64 0))⟩,
        ⟨some 34, none, .pick (.t 30) (.c (.bool true)) (.t 33)⟩,
        ⟨some 35, none, .mv false (.t 34)⟩,
        ⟨some 36, some (35, false), .fad 1 (.t 3)⟩,
        ⟨some 37, some (35, false), .ld 1 false false (.t 36)⟩,
        ⟨some 38, some (35, false), .fad 2 (.t 2)⟩,
        ⟨some 39, some (35, false), .ld 1 false false (.t 38)⟩,
        ⟨some 40, some (35, false), .len false (.t 39)⟩,
        ⟨some 41, some (35, false), .bin .geq (.t 37) (.t 40)⟩,
        ⟨some 42, none, .pick (.t 35) (.c (.bool true)) (.t 41)⟩])
      (.cond (.t 42)
       (.seq
        (.region [
          ⟨some 43, none, .callF 11 [] []⟩,
          ⟨some 4, none, .mv true (.t 43)⟩])
        .ret)
       .skip))
     (.seq
      (.region [
        ⟨some 44, none, .fad 2 (.t 2)⟩,
        ⟨some 45, none, .ld 1 false false (.t 44)⟩,
        ⟨some 46, none, .fad 1 (.t 3)⟩,
        ⟨some 47, none, .ld 1 false false (.t 46)⟩,
        ⟨some 48, none, .iad 3 (.t 45) (.t 47)⟩,
        ⟨some 49, none, .fad 1 (.t 48)⟩,
        ⟨some 50, none, .ld 1 false false (.t 49)⟩,
        ⟨some 5, none, .mv true (.t 50)⟩])
      (.seq
       (.region [
         ⟨some 52, none, .ld 3 true false (.t 2)⟩,
         ⟨some 53, none, .fad 1 (.t 3)⟩,
         ⟨some 54, none, .ld 1 false false (.t 53)⟩,
         ⟨some 55, none, .fad 2 (.t 3)⟩,
         ⟨some 56, none, .ld 1 false false (.t 55)⟩,
         ⟨some 57, none, .callF 23 [.t 52, .t 54, .t 56] []⟩,
         ⟨some 51, none, .mv true (.t 57)⟩,
         ⟨some 58, none, .ext true (.t 51) 0⟩,
         ⟨some 59, none, .ext false (.t 51) 1⟩,
         ⟨some 6, none, .al [.int .i64 0, .int .i64 0, .lst 0 [] true]⟩,
         ⟨none, none, .sto 3 (.t 6) (.t 58)⟩,
         ⟨some 7, none, .mv true (.t 59)⟩])
       (.seq
        (.seq
         (.region [
           ⟨some 60, none, .fad 2 (.t 6)⟩,
           ⟨some 61, none, .ld 1 false false (.t 60)⟩,
           ⟨some 62, none, .len false (.t 61)⟩,
           ⟨some 63, none, .fad 2 (.t 2)⟩,
           ⟨some 64, none, .ld 1 false false (.t 63)⟩,
           ⟨some 65, none, .len false (.t 64)⟩,
           ⟨some 66, none, .bin .neq (.t 62) (.t 65)⟩])
         (.cond (.t 66)
          (.seq
           (.region [
             ⟨some 4, none, .mv true (.c (.bool false))⟩])
           .ret)
          .skip))
        (.seq
         (.seq
          (.draw [
            ⟨some 67, none, .mv false (.t 5)⟩,
            ⟨some 68, none, .bin .geq (.t 67) (.c (.int .i64 0))⟩,
            ⟨some 69, none, .mv false (.t 68)⟩,
            ⟨some 70, some (69, true), .mv false (.t 7)⟩,
            ⟨some 71, some (69, true), .mv false (.t 70)⟩,
            ⟨some 72, some (71, false), .ld 3 true false (.t 6)⟩,
            ⟨some 73, some (71, false), .ld 3 true false (.t 2)⟩,
            ⟨some 74, some (71, false), .callF 24 [.t 72, .t 73] []⟩,
            ⟨some 75, some (71, false), .un .not (.t 74)⟩,
            ⟨some 76, some (69, true), .pick (.t 71) (.c (.bool true)) (.t 75)⟩,
            ⟨some 77, none, .pick (.t 69) (.t 76) (.c (.bool false))⟩,
            ⟨some 78, none, .mv false (.t 77)⟩,
            ⟨some 79, some (78, false), .mv false (.t 7)⟩,
            ⟨some 80, some (78, false), .mv false (.t 79)⟩,
            ⟨some 81, some (80, true), .fad 2 (.t 6)⟩,
            ⟨some 82, some (80, true), .ld 1 false false (.t 81)⟩,
            ⟨some 83, some (80, true), .fad 1 (.t 3)⟩,
            ⟨some 84, some (80, true), .ld 1 false false (.t 83)⟩,
            ⟨some 85, some (80, true), .iad 3 (.t 82) (.t 84)⟩,
            ⟨some 86, some (80, true), .fad 1 (.t 85)⟩,
            ⟨some 87, some (80, true), .ld 1 false false (.t 86)⟩,
            ⟨some 88, some (80, true), .fad 2 (.t 3)⟩,
            ⟨some 89, some (80, true), .ld 1 false false (.t 88)⟩,
            ⟨some 90, some (80, true), .bin .neq (.t 87) (.t 89)⟩,
            ⟨some 91, some (78, false), .pick (.t 80) (.t 90) (.c (.bool false))⟩,
            ⟨some 92, none, .pick (.t 78) (.c (.bool true)) (.t 91)⟩] [])
          (.cond (.t 92)
           (.seq
            (.region [
              ⟨some 4, none, .mv true (.c (.bool false))⟩])
            .ret)
           .skip))
         (.seq
          (.region [
            ⟨some 94, none, .ld 3 true false (.t 6)⟩,
            ⟨some 95, none, .fad 1 (.t 3)⟩,
            ⟨some 96, none, .ld 1 false false (.t 95)⟩,
            ⟨some 97, none, .fad 2 (.t 3)⟩,
            ⟨some 98, none, .ld 1 false false (.t 97)⟩,
            ⟨some 99, none, .callF 23 [.t 94, .t 96, .t 98] []⟩,
            ⟨some 93, none, .mv true (.t 99)⟩,
            ⟨some 100, none, .ext true (.t 93) 0⟩,
            ⟨some 101, none, .ext false (.t 93) 1⟩,
            ⟨some 8, none, .al [.int .i64 0, .int .i64 0, .lst 0 [] true]⟩,
            ⟨none, none, .sto 3 (.t 8) (.t 100)⟩,
            ⟨some 9, none, .mv true (.t 101)⟩])
          (.seq
           (.region [
             ⟨some 103, none, .ld 3 true false (.t 2)⟩,
             ⟨some 104, none, .fad 1 (.t 3)⟩,
             ⟨some 105, none, .ld 1 false false (.t 104)⟩,
             ⟨some 106, none, .fad 2 (.t 3)⟩,
             ⟨some 107, none, .ld 1 false false (.t 106)⟩,
             ⟨some 108, none, .callF 25 [.t 103, .t 105, .t 107] []⟩,
             ⟨some 102, none, .mv true (.t 108)⟩,
             ⟨some 109, none, .ext true (.t 102) 0⟩,
             ⟨some 110, none, .ext false (.t 102) 1⟩,
             ⟨some 10, none, .al [.int .i64 0, .int .i64 0, .lst 0 [] true]⟩,
             ⟨none, none, .sto 3 (.t 10) (.t 109)⟩,
             ⟨some 11, none, .mv true (.t 110)⟩])
           (.seq
            (.region [
              ⟨some 112, none, .ld 3 true false (.t 2)⟩,
              ⟨some 113, none, .fad 1 (.t 3)⟩,
              ⟨some 114, none, .ld 1 false false (.t 113)⟩,
              ⟨some 115, none, .fad 2 (.t 3)⟩,
              ⟨some 116, none, .ld 1 false false (.t 115)⟩,
              ⟨some 117, none, .fad 4 (.t 3)⟩,
              ⟨some 118, none, .ld 1 false false (.t 117)⟩,
              ⟨some 119, none, .callF 26 [.t 112, .t 114, .t 116, .t 118] []⟩,
              ⟨some 111, none, .mv true (.t 119)⟩,
              ⟨some 120, none, .ext true (.t 111) 0⟩,
              ⟨some 121, none, .ext false (.t 111) 1⟩,
              ⟨some 12, none, .al [.int .i64 0, .int .i64 0, .lst 0 [] true]⟩,
              ⟨none, none, .sto 3 (.t 12) (.t 120)⟩,
              ⟨some 13, none, .mv true (.t 121)⟩])
            (.seq
             (.region [
               ⟨some 123, none, .ld 3 true false (.t 2)⟩,
               ⟨some 124, none, .fad 1 (.t 3)⟩,
               ⟨some 125, none, .ld 1 false false (.t 124)⟩,
               ⟨some 126, none, .fad 2 (.t 3)⟩,
               ⟨some 127, none, .ld 1 false false (.t 126)⟩,
               ⟨some 128, none, .callF 27 [.t 123, .t 125, .t 127] []⟩,
               ⟨some 122, none, .mv true (.t 128)⟩,
               ⟨some 129, none, .ext true (.t 122) 0⟩,
               ⟨some 130, none, .ext false (.t 122) 1⟩,
               ⟨some 14, none, .al [.int .i64 0, .int .i64 0, .lst 0 [] true]⟩,
               ⟨none, none, .sto 3 (.t 14) (.t 129)⟩,
               ⟨some 15, none, .mv true (.t 130)⟩])
             (.seq
              (.seq
               (.region [
                 ⟨some 131, none, .fad 2 (.t 10)⟩,
                 ⟨some 132, none, .ld 1 false false (.t 131)⟩,
                 ⟨some 133, none, .len false (.t 132)⟩,
                 ⟨some 134, none, .fad 2 (.t 2)⟩,
                 ⟨some 135, none, .ld 1 false false (.t 134)⟩,
                 ⟨some 136, none, .len false (.t 135)⟩,
                 ⟨some 137, none, .bin .neq (.t 133) (.t 136)⟩,
                 ⟨some 138, none, .mv false (.t 137)⟩,
                 ⟨some 139, some (138, false), .fad 2 (.t 12)⟩,
                 ⟨some 140, some (138, false), .ld 1 false false (.t 139)⟩,
                 ⟨some 141, some (138, false), .len false (.t 140)⟩,
                 ⟨some 142, some (138, false), .fad 2 (.t 2)⟩,
                 ⟨some 143, some (138, false), .ld 1 false false (.t 142)⟩,
                 ⟨some 144, some (138, false), .len false (.t 143)⟩,
                 ⟨some 145, some (138, false), .bin .neq (.t 141) (.t 144)⟩,
                 ⟨some 146, none, .pick (.t 138) (.c (.bool true)) (.t 145)⟩,
                 ⟨some 147, none, .mv false (.t 146)⟩,
                 ⟨some 148, some (147, false), .fad 2 (.t 14)⟩,
                 ⟨some 149, some (147, false), .ld 1 false false (.t 148)⟩,
                 ⟨some 150, some (147, false), .len false (.t 149)⟩,
                 ⟨some 151, some (147, false), .fad 2 (.t 2)⟩,
                 ⟨some 152, some (147, false), .ld 1 false false (.t 151)⟩,
                 ⟨some 153, some (147, false), .len false (.t 152)⟩,
                 ⟨some 154, some (147, false), .bin .neq (.t 150) (.t 153)⟩,
                 ⟨some 155, none, .pick (.t 147) (.c (.bool true)) (.t 154)⟩])
               (.cond (.t 155)
                (.seq
                 (.region [
                   ⟨some 4, none, .mv true (.c (.bool false))⟩])
                 .ret)
                .skip))
              (.seq
               (.seq
                (.region [
                  ⟨some 156, none, .mv false (.t 9)⟩,
                  ⟨some 157, none, .mv false (.t 156)⟩,
                  ⟨some 158, some (157, false), .fad 2 (.t 10)⟩,
                  ⟨some 159, some (157, false), .ld 1 false false (.t 158)⟩,
                  ⟨some 160, some (157, false), .fad 1 (.t 3)⟩,
                  ⟨some 161, some (157, false), .ld 1 false false (.t 160)⟩,
                  ⟨some 162, some (157, false), .iad 3 (.t 159) (.t 161)⟩,
                  ⟨some 163, some (157, false), .fad 1 (.t 162)⟩,
                  ⟨some 164, some (157, false), .ld 1 false false (.t 163)⟩,
                  ⟨some 165, some (157, false), .mv false (.t 5)⟩,
                  ⟨some 166, some (157, false), .bin .neq (.t 164) (.t 165)⟩,
                  ⟨some 167, none, .pick (.t 157) (.c (.bool true)) (.t 166)⟩,
                  ⟨some 168, none, .mv false (.t 167)⟩,
                  ⟨some 169, some (168, false), .fad 2 (.t 12)⟩,
                  ⟨some 170, some (168, false), .ld 1 false false (.t 169)⟩,
                  ⟨some 171, some (168, false), .fad 1 (.t 3)⟩,
                  ⟨some 172, some (168, false), .ld 1 false false (.t 171)⟩,
                  ⟨some 173, some (168, false), .iad 3 (.t 170) (.t 172)⟩,
                  ⟨some 174, some (168, false), .fad 1 (.t 173)⟩,
                  ⟨some 175, some (168, false), .ld 1 false false (.t 174)⟩,
                  ⟨some 176, some (168, false), .mv false (.t 5)⟩,
                  ⟨some 177, some (168, false), .bin .neq (.t 175) (.t 176)⟩,
                  ⟨some 178, none, .pick (.t 168) (.c (.bool true)) (.t 177)⟩,
                  ⟨some 179, none, .mv false (.t 178)⟩,
                  ⟨some 180, some (179, false), .mv false (.t 15)⟩,
                  ⟨some 181, some (179, false), .mv false (.t 5)⟩,
                  ⟨some 182, some (179, false), .bin .geq (.t 181) (.c (.int .i64 0))⟩,
                  ⟨some 183, some (179, false), .mv false (.t 182)⟩,
                  ⟨some 184, some (183, true), .mv false (.t 5)⟩,
                  ⟨some 185, some (183, true), .fad 2 (.t 3)⟩,
                  ⟨some 186, some (183, true), .ld 1 false false (.t 185)⟩,
                  ⟨some 187, some (183, true), .bin .eql (.t 184) (.t 186)⟩,
                  ⟨some 188, some (179, false), .pick (.t 183) (.t 187) (.c (.bool false))⟩,
                  ⟨some 189, some (179, false), .binB true (.t 180) (.t 188)⟩,
                  ⟨some 190, none, .pick (.t 179) (.c (.bool true)) (.t 189)⟩,
                  ⟨some 191, none, .mv false (.t 190)⟩,
                  ⟨some 192, some (191, false), .mv false (.t 15)⟩,
                  ⟨some 193, some (191, false), .mv false (.t 192)⟩,
                  ⟨some 194, some (193, true), .fad 2 (.t 14)⟩,
                  ⟨some 195, some (193, true), .ld 1 false false (.t 194)⟩,
                  ⟨some 196, some (193, true), .fad 1 (.t 3)⟩,
                  ⟨some 197, some (193, true), .ld 1 false false (.t 196)⟩,
                  ⟨some 198, some (193, true), .iad 3 (.t 195) (.t 197)⟩,
                  ⟨some 199, some (193, true), .fad 1 (.t 198)⟩,
                  ⟨some 200, some (193, true), .ld 1 false false (.t 199)⟩,
                  ⟨some 201, some (193, true), .bin .neq (.t 200) (.c (.int .i64 (-1)))⟩,
                  ⟨some 202, some (191, false), .pick (.t 193) (.t 201) (.c (.bool false))⟩,
                  ⟨some 203, none, .pick (.t 191) (.c (.bool true)) (.t 202)⟩])
                (.cond (.t 203)
                 (.seq
                  (.region [
                    ⟨some 4, none, .mv true (.c (.bool false))⟩])
                  .ret)
                 .skip))
               (.seq
                (.region [
                  ⟨some 204, none, .callF 11 [] []⟩,
                  ⟨some 205, none, .mv false (.t 204)⟩,
                  ⟨some 206, some (205, true), .mv false (.t 7)⟩,
                  ⟨some 207, some (205, true), .un .not (.t 206)⟩,
                  ⟨some 208, some (205, true), .mv false (.t 207)⟩,
                  ⟨some 209, some (208, false), .ld 3 true false (.t 2)⟩,
                  ⟨some 210, some (208, false), .callF 21 [.t 209] []⟩,
                  ⟨some 211, some (208, false), .un .not (.t 210)⟩,
                  ⟨some 212, some (205, true), .pick (.t 208) (.c (.bool true)) (.t 211)⟩,
                  ⟨some 213, none, .pick (.t 205) (.t 212) (.c (.bool false))⟩,
                  ⟨some 4, none, .mv true (.t 213)⟩])
                .ret))))))))))))⟩
theorem t5 : compF Try.prog { ros := [2, 3] } 5 = some p5 := by kernel_rfl
def p6 : PFn :=
  ⟨23, [.t 2], .seq
    (.region [
      ⟨some 1, none, .bxI 3 (.t 0)⟩,
      ⟨some 2, none, .mv true (.c (.bool false))⟩])
    (.seq
     (.seq
      (.region [
        ⟨some 3, none, .mv true (.c (.int .i64 0))⟩])
      (.block 0
       (.loop
        (.seq
         (.seq
          (.region [
            ⟨some 4, none, .mv false (.t 3)⟩,
            ⟨some 5, none, .fad 2 (.t 1)⟩,
            ⟨some 6, none, .ld 1 false false (.t 5)⟩,
            ⟨some 7, none, .len false (.t 6)⟩,
            ⟨some 8, none, .bin .lss (.t 4) (.t 7)⟩])
          (.cond (.t 8)
           .skip
           (.exit 0)))
         (.seq
          (.block 1
           (.seq
            (.region [
              ⟨some 11, none, .mv false (.t 3)⟩,
              ⟨some 12, none, .bin .eql (.t 11) (.c (.int .i64 50))⟩,
              ⟨some 13, none, .mv false (.t 12)⟩,
              ⟨some 14, some (13, false), .fad 2 (.t 1)⟩,
              ⟨some 15, some (13, false), .ld 1 false false (.t 14)⟩,
              ⟨some 16, some (13, false), .mv false (.t 3)⟩,
              ⟨some 17, some (13, false), .iad 3 (.t 15) (.t 16)⟩,
              ⟨some 18, some (13, false), .fad 0 (.t 17)⟩,
              ⟨some 19, some (13, false), .ld 1 false false (.t 18)⟩,
              ⟨some 20, some (13, false), .len false (.t 19)⟩,
              ⟨some 21, some (13, false), .bin .gtr (.t 20) (.c (.int .i64 50))⟩,
              ⟨some 22, none, .pick (.t 13) (.c (.bool true)) (.t 21)⟩])
            (.cond (.t 22)
             (.seq
              (.region [
                ⟨some 2, none, .mv true (.c (.bool false))⟩])
              .ret)
             .skip)))
          (.region [
            ⟨some 9, none, .mv false (.t 3)⟩,
            ⟨some 10, none, .bin .add (.t 9) (.c (.int .i64 1))⟩,
            ⟨some 3, none, .mv true (.t 10)⟩]))))))
     (.seq
      (.region [
        ⟨some 2, none, .mv true (.c (.bool true))⟩])
      .ret))⟩
theorem t6 : compF Try.prog { ros := [1] } 6 = some p6 := by kernel_rfl
def p7 : PFn :=
  ⟨47, [.t 2], .seq
    (.region [
      ⟨some 1, none, .bxI 3 (.t 0)⟩,
      ⟨some 2, none, .mv true (.c (.bool false))⟩])
    (.seq
     (.seq
      (.region [
        ⟨some 3, none, .mv true (.c (.int .i64 0))⟩])
      (.block 0
       (.loop
        (.seq
         (.seq
          (.region [
            ⟨some 5, none, .mv false (.t 3)⟩,
            ⟨some 6, none, .fad 2 (.t 1)⟩,
            ⟨some 7, none, .ld 1 false false (.t 6)⟩,
            ⟨some 8, none, .len false (.t 7)⟩,
            ⟨some 9, none, .bin .lss (.t 5) (.t 8)⟩])
          (.cond (.t 9)
           .skip
           (.exit 0)))
         (.seq
          (.block 1
           (.seq
            (.region [
              ⟨some 4, none, .mv true (.c (.int .i64 0))⟩])
            (.block 2
             (.loop
              (.seq
               (.seq
                (.region [
                  ⟨some 12, none, .mv false (.t 4)⟩,
                  ⟨some 13, none, .fad 2 (.t 1)⟩,
                  ⟨some 14, none, .ld 1 false false (.t 13)⟩,
                  ⟨some 15, none, .mv false (.t 3)⟩,
                  ⟨some 16, none, .iad 3 (.t 14) (.t 15)⟩,
                  ⟨some 17, none, .fad 0 (.t 16)⟩,
                  ⟨some 18, none, .ld 1 false false (.t 17)⟩,
                  ⟨some 19, none, .len false (.t 18)⟩,
                  ⟨some 20, none, .bin .lss (.t 12) (.t 19)⟩])
                (.cond (.t 20)
                 .skip
                 (.exit 2)))
               (.seq
                (.block 3
                 (.seq
                  (.region [
                    ⟨some 23, none, .fad 2 (.t 1)⟩,
                    ⟨some 24, none, .ld 1 false false (.t 23)⟩,
                    ⟨some 25, none, .mv false (.t 3)⟩,
                    ⟨some 26, none, .iad 3 (.t 24) (.t 25)⟩,
                    ⟨some 27, none, .fad 0 (.t 26)⟩,
                    ⟨some 28, none, .ld 1 false false (.t 27)⟩,
                    ⟨some 29, none, .mv false (.t 4)⟩,
                    ⟨some 30, none, .iad 3 (.t 28) (.t 29)⟩,
                    ⟨some 31, none, .fad 1 (.t 30)⟩,
                    ⟨some 32, none, .ld 1 false false (.t 31)⟩,
                    ⟨some 33, none, .bin .lss (.t 32) (.c (.int .i64 0))⟩,
                    ⟨some 34, none, .mv false (.t 33)⟩,
                    ⟨some 35, some (34, false), .fad 2 (.t 1)⟩,
                    ⟨some 36, some (34, false), .ld 1 false false (.t 35)⟩,
                    ⟨some 37, some (34, false), .mv false (.t 3)⟩,
                    ⟨some 38, some (34, false), .iad 3 (.t 36) (.t 37)⟩,
                    ⟨some 39, some (34, false), .fad 0 (.t 38)⟩,
                    ⟨some 40, some (34, false), .ld 1 false false (.t 39)⟩,
                    ⟨some 41, some (34, false), .mv false (.t 4)⟩,
                    ⟨some 42, some (34, false), .iad 3 (.t 40) (.t 41)⟩,
                    ⟨some 43, some (34, false), .fad 1 (.t 42)⟩,
                    ⟨some 44, some (34, false), .ld 1 false false (.t 43)⟩,
                    ⟨some 45, some (34, false), .bin .gtr (.t 44) (.c (.int .i64 1000000000))⟩,
                    ⟨some 46, none, .pick (.t 34) (.c (.bool true)) (.t 45)⟩])
                  (.cond (.t 46)
                   (.seq
                    (.region [
                      ⟨some 2, none, .mv true (.c (.bool false))⟩])
                    .ret)
                   .skip)))
                (.region [
                  ⟨some 21, none, .mv false (.t 4)⟩,
                  ⟨some 22, none, .bin .add (.t 21) (.c (.int .i64 1))⟩,
                  ⟨some 4, none, .mv true (.t 22)⟩])))))))
          (.region [
            ⟨some 10, none, .mv false (.t 3)⟩,
            ⟨some 11, none, .bin .add (.t 10) (.c (.int .i64 1))⟩,
            ⟨some 3, none, .mv true (.t 11)⟩]))))))
     (.seq
      (.region [
        ⟨some 2, none, .mv true (.c (.bool true))⟩])
      .ret))⟩
theorem t7 : compF Try.prog { ros := [1] } 7 = some p7 := by kernel_rfl
def p8 : PFn :=
  ⟨103, [.t 2], .seq
    (.region [
      ⟨some 1, none, .bxI 3 (.t 0)⟩,
      ⟨some 2, none, .mv true (.c (.bool false))⟩])
    (.seq
     (.seq
      (.region [
        ⟨some 6, none, .fad 0 (.t 1)⟩,
        ⟨some 7, none, .ld 1 false false (.t 6)⟩,
        ⟨some 8, none, .bin .lss (.t 7) (.c (.int .i64 1))⟩,
        ⟨some 9, none, .mv false (.t 8)⟩,
        ⟨some 10, some (9, false), .fad 0 (.t 1)⟩,
        ⟨some 11, some (9, false), .ld 1 false false (.t 10)⟩,
        ⟨some 12, some (9, false), .bin .gtr (.t 11) (.c (.int .i64 10))⟩,
        ⟨some 13, none, .pick (.t 9) (.c (.bool true)) (.t 12)⟩,
        ⟨some 14, none, .mv false (.t 13)⟩,
        ⟨some 15, some (14, false), .fad 1 (.t 1)⟩,
        ⟨some 16, some (14, false), .ld 1 false false (.t 15)⟩,
        ⟨some 17, some (14, false), .bin .lss (.t 16) (.c (.int .i64 1))⟩,
        ⟨some 18, none, .pick (.t 14) (.c (.bool true)) (.t 17)⟩,
        ⟨some 19, none, .mv false (.t 18)⟩,
        ⟨some 20, some (19, false), .fad 1 (.t 1)⟩,
        ⟨some 21, some (19, false), .ld 1 false false (.t 20)⟩,
        ⟨some 22, some (19, false), .bin .gtr (.t 21) (.c (.int .i64 1000))⟩,
        ⟨some 23, none, .pick (.t 19) (.c (.bool true)) (.t 22)⟩,
        ⟨some 24, none, .mv false (.t 23)⟩,
        ⟨some 25, some (24, false), .fad 2 (.t 1)⟩,
        ⟨some 26, some (24, false), .ld 1 false false (.t 25)⟩,
        ⟨some 27, some (24, false), .len false (.t 26)⟩,
        ⟨some 28, some (24, false), .bin .gtr (.t 27) (.c (.int .i64 200))⟩,
        ⟨some 29, none, .pick (.t 24) (.c (.bool true)) (.t 28)⟩])
      (.cond (.t 29)
       (.seq
        (.region [
          ⟨some 2, none, .mv true (.c (.bool false))⟩])
        .ret)
       .skip))
     (.seq
      (.seq
       (.region [
         ⟨some 3, none, .mv true (.c (.int .i64 0))⟩])
       (.block 0
        (.loop
         (.seq
          (.seq
           (.region [
             ⟨some 30, none, .mv false (.t 3)⟩,
             ⟨some 31, none, .fad 2 (.t 1)⟩,
             ⟨some 32, none, .ld 1 false false (.t 31)⟩,
             ⟨some 33, none, .len false (.t 32)⟩,
             ⟨some 34, none, .bin .lss (.t 30) (.t 33)⟩])
           (.cond (.t 34)
            .skip
            (.exit 0)))
          (.seq
           (.block 1
            (.seq
             (.region [
               ⟨some 37, none, .fad 2 (.t 1)⟩,
               ⟨some 38, none, .ld 1 false false (.t 37)⟩,
               ⟨some 39, none, .mv false (.t 3)⟩,
               ⟨some 40, none, .iad 3 (.t 38) (.t 39)⟩,
               ⟨some 41, none, .ld 3 true false (.t 40)⟩,
               ⟨some 4, none, .al [.lst 0 [] true, .int .i64 0, .int .i64 0]⟩,
               ⟨none, none, .sto 3 (.t 4) (.t 41)⟩])
             (.seq
              (.region [
                ⟨some 42, none, .ld 3 true false (.t 4)⟩,
                ⟨some 43, none, .callF 28 [.t 42] []⟩,
                ⟨some 5, none, .mv true (.t 43)⟩])
              (.seq
               (.seq
                (.region [
                  ⟨some 44, none, .fad 0 (.t 4)⟩,
                  ⟨some 45, none, .ld 1 false false (.t 44)⟩,
                  ⟨some 46, none, .len false (.t 45)⟩,
                  ⟨some 47, none, .bin .gtr (.t 46) (.c (.int .i64 500))⟩,
                  ⟨some 48, none, .mv false (.t 47)⟩,
                  ⟨some 49, some (48, false), .fad 1 (.t 4)⟩,
                  ⟨some 50, some (48, false), .ld 1 false false (.t 49)⟩,
                  ⟨some 51, some (48, false), .bin .lss (.t 50) (.c (.int .i64 (-1)))⟩,
                  ⟨some 52, none, .pick (.t 48) (.c (.bool true)) (.t 51)⟩,
                  ⟨some 53, none, .mv false (.t 52)⟩,
                  ⟨some 54, some (53, false), .fad 1 (.t 4)⟩,
                  ⟨some 55, some (53, false), .ld 1 false false (.t 54)⟩,
                  ⟨some 56, some (53, false), .fad 0 (.t 4)⟩,
                  ⟨some 57, some (53, false), .ld 1 false false (.t 56)⟩,
                  ⟨some 58, some (53, false), .len false (.t 57)⟩,
                  ⟨some 59, some (53, false), .bin .geq (.t 55) (.t 58)⟩,
                  ⟨some 60, none, .pick (.t 53) (.c (.bool true)) (.t 59)⟩,
                  ⟨some 61, none, .mv false (.t 60)⟩,
                  ⟨some 62, some (61, false), .fad 2 (.t 4)⟩,
                  ⟨some 63, some (61, false), .ld 1 false false (.t 62)⟩,
                  ⟨some 64, some (61, false), .bin .lss (.t 63) (.c (.int .i64 0))⟩,
                  ⟨some 65, none, .pick (.t 61) (.c (.bool true)) (.t 64)⟩,
                  ⟨some 66, none, .mv false (.t 65)⟩,
                  ⟨some 67, some (66, false), .mv false (.t 5)⟩,
                  ⟨some 68, some (66, false), .len false (.t 67)⟩,
                  ⟨some 69, some (66, false), .bin .gtr (.t 68) (.c (.int .i64 2))⟩,
                  ⟨some 70, none, .pick (.t 66) (.c (.bool true)) (.t 69)⟩,
                  ⟨some 71, none, .mv false (.t 70)⟩,
                  ⟨some 72, some (71, false), .mv false (.t 5)⟩,
                  ⟨some 73, some (71, false), .len false (.t 72)⟩,
                  ⟨some 74, some (71, false), .bin .gtr (.t 73) (.c (.int .i64 0))⟩,
                  ⟨some 75, some (71, false), .mv false (.t 74)⟩,
                  ⟨some 76, some (75, true), .fad 1 (.t 4)⟩,
                  ⟨some 77, some (75, true), .ld 1 false false (.t 76)⟩,
                  ⟨some 78, some (75, true), .bin .geq (.t 77) (.c (.int .i64 0))⟩,
                  ⟨some 79, some (71, false), .pick (.t 75) (.t 78) (.c (.bool false))⟩,
                  ⟨some 80, none, .pick (.t 71) (.c (.bool true)) (.t 79)⟩])
                (.cond (.t 80)
                 (.seq
                  (.region [
                    ⟨some 2, none, .mv true (.c (.bool false))⟩])
                  .ret)
                 .skip))
               (.seq
                (.draw [
                  ⟨some 81, none, .mv false (.t 5)⟩,
                  ⟨some 82, none, .len false (.t 81)⟩,
                  ⟨some 83, none, .bin .eql (.t 82) (.c (.int .i64 2))⟩,
                  ⟨some 84, none, .mv false (.t 83)⟩,
                  ⟨some 85, some (84, true), .fad 0 (.t 4)⟩,
                  ⟨some 86, some (84, true), .ld 1 false false (.t 85)⟩,
                  ⟨some 87, some (84, true), .mv false (.t 5)⟩,
                  ⟨some 88, some (84, true), .iad 1 (.t 87) (.c (.int .i64 0))⟩,
                  ⟨some 89, some (84, true), .ld 1 false false (.t 88)⟩,
                  ⟨some 90, some (84, true), .iad 3 (.t 86) (.t 89)⟩,
                  ⟨some 91, some (84, true), .fad 0 (.t 90)⟩,
                  ⟨some 92, some (84, true), .ld 1 false false (.t 91)⟩,
                  ⟨some 93, some (84, true), .fad 0 (.t 4)⟩,
                  ⟨some 94, some (84, true), .ld 1 false false (.t 93)⟩,
                  ⟨some 95, some (84, true), .mv false (.t 5)⟩,
                  ⟨some 96, some (84, true), .iad 1 (.t 95) (.c (.int .i64 1))⟩,
                  ⟨some 97, some (84, true), .ld 1 false false (.t 96)⟩,
                  ⟨some 98, some (84, true), .iad 3 (.t 94) (.t 97)⟩,
                  ⟨some 99, some (84, true), .fad 0 (.t 98)⟩,
                  ⟨some 100, some (84, true), .ld 1 false false (.t 99)⟩,
                  ⟨some 101, some (84, true), .bin .eql (.t 92) (.t 100)⟩,
                  ⟨some 102, none, .pick (.t 84) (.t 101) (.c (.bool false))⟩] [])
                (.cond (.t 102)
                 (.seq
                  (.region [
                    ⟨some 2, none, .mv true (.c (.bool false))⟩])
                  .ret)
                 .skip))))))
           (.region [
             ⟨some 35, none, .mv false (.t 3)⟩,
             ⟨some 36, none, .bin .add (.t 35) (.c (.int .i64 1))⟩,
             ⟨some 3, none, .mv true (.t 36)⟩]))))))
      (.seq
       (.region [
         ⟨some 2, none, .mv true (.c (.bool true))⟩])
       .ret)))⟩
theorem t8 : compF Try.prog { ros := [1] } 8 = some p8 := by kernel_rfl
def p9 : PFn :=
  ⟨72, [.c 2 3 true], .seq
    (.region [
      ⟨some 1, none, .bxI 3 (.t 0)⟩,
      ⟨some 2, none, .al [.int .i64 0, .int .i64 0, .lst 0 [] true]⟩])
    (.seq
     (.region [
       ⟨some 8, none, .fad 0 (.t 1)⟩,
       ⟨some 9, none, .ld 1 false false (.t 8)⟩,
       ⟨some 10, none, .fad 1 (.t 1)⟩,
       ⟨some 11, none, .ld 1 false false (.t 10)⟩,
       ⟨some 12, none, .build [.int .i64 0, .int .i64 0, .lst 0 [] true] [(0, (1, .t 9)), (1, (1, .t 11))]⟩,
       ⟨some 3, none, .al [.int .i64 0, .int .i64 0, .lst 0 [] true]⟩,
       ⟨none, none, .sto 3 (.t 3) (.t 12)⟩])
     (.seq
      (.seq
       (.region [
         ⟨some 4, none, .mv true (.c (.int .i64 0))⟩])
       (.block 0
        (.loop
         (.seq
          (.seq
           (.region [
             ⟨some 13, none, .mv false (.t 4)⟩,
             ⟨some 14, none, .fad 2 (.t 1)⟩,
             ⟨some 15, none, .ld 1 false false (.t 14)⟩,
             ⟨some 16, none, .len false (.t 15)⟩,
             ⟨some 17, none, .bin .lss (.t 13) (.t 16)⟩])
           (.cond (.t 17)
            .skip
            (.exit 0)))
          (.seq
           (.block 1
            (.seq
             (.drawN [
               ⟨some 20, none, .fad 2 (.t 1)⟩,
               ⟨some 21, none, .ld 1 false false (.t 20)⟩,
               ⟨some 22, none, .mv false (.t 4)⟩,
               ⟨some 23, none, .iad 3 (.t 21) (.t 22)⟩,
               ⟨some 24, none, .fad 1 (.t 23)⟩,
               ⟨some 25, none, .ld 1 false false (.t 24)⟩,
               ⟨some 26, none, .fad 2 (.t 1)⟩,
               ⟨some 27, none, .ld 1 false false (.t 26)⟩,
               ⟨some 28, none, .mv false (.t 4)⟩,
               ⟨some 29, none, .iad 3 (.t 27) (.t 28)⟩,
               ⟨some 30, none, .fad 2 (.t 29)⟩,
               ⟨some 31, none, .ld 1 false false (.t 30)⟩,
               ⟨some 32, none, .build [.lst 0 [] true, .int .i64 0, .int .i64 0] [(1, (1, .t 25)), (2, (1, .t 31))]⟩,
               ⟨some 5, none, .mv false (.c .unit)⟩,
               ⟨some 5, none, .mvc 3 (.t 32)⟩] [] [(13, (14, (5, 3)))])
             (.seq
              (.seq
               (.region [
                 ⟨some 6, none, .mv true (.c (.int .i64 0))⟩])
               (.block 2
                (.loop
                 (.seq
                  (.seq
                   (.region [
                     ⟨some 33, none, .mv false (.t 6)⟩,
                     ⟨some 34, none, .fad 2 (.t 1)⟩,
                     ⟨some 35, none, .ld 1 false false (.t 34)⟩,
                     ⟨some 36, none, .mv false (.t 4)⟩,
                     ⟨some 37, none, .iad 3 (.t 35) (.t 36)⟩,
                     ⟨some 38, none, .fad 0 (.t 37)⟩,
                     ⟨some 39, none, .ld 1 false false (.t 38)⟩,
                     ⟨some 40, none, .len false (.t 39)⟩,
                     ⟨some 41, none, .bin .lss (.t 33) (.t 40)⟩])
                   (.cond (.t 41)
                    .skip
                    (.exit 2)))
                  (.seq
                   (.block 3
                    (.seq
                     (.region [
                       ⟨some 44, none, .fad 2 (.t 1)⟩,
                       ⟨some 45, none, .ld 1 false false (.t 44)⟩,
                       ⟨some 46, none, .mv false (.t 4)⟩,
                       ⟨some 47, none, .iad 3 (.t 45) (.t 46)⟩,
                       ⟨some 48, none, .fad 0 (.t 47)⟩,
                       ⟨some 49, none, .ld 1 false false (.t 48)⟩,
                       ⟨some 50, none, .mv false (.t 6)⟩,
                       ⟨some 51, none, .iad 3 (.t 49) (.t 50)⟩,
                       ⟨some 52, none, .ld 3 true false (.t 51)⟩,
                       ⟨some 7, none, .al [.int .i64 0, .int .i64 0, .bool false]⟩,
                       ⟨none, none, .sto 3 (.t 7) (.t 52)⟩])
                     (.region [
                       ⟨some 53, none, .fad 0 (.t 5)⟩,
                       ⟨some 54, none, .ld 1 false false (.t 53)⟩,
                       ⟨some 55, none, .fad 0 (.t 7)⟩,
                       ⟨some 56, none, .ld 1 false false (.t 55)⟩,
                       ⟨some 57, none, .fad 1 (.t 7)⟩,
                       ⟨some 58, none, .ld 1 false false (.t 57)⟩,
                       ⟨some 59, none, .fad 2 (.t 7)⟩,
                       ⟨some 60, none, .ld 1 false false (.t 59)⟩,
                       ⟨some 61, none, .build [.int .i64 0, .int .i64 0, .bool false] [(0, (1, .t 56)), (1, (1, .t 58)), (2, (1, .t 60))]⟩,
                       ⟨some 62, none, .bsl 3 1 true [.int .i64 0, .int .i64 0, .bool false] [(0, .t 61)] false⟩,
                       ⟨some 63, none, .app 3 24 (.t 54) (.t 62)⟩,
                       ⟨some 64, none, .fad 0 (.t 5)⟩,
                       ⟨none, none, .sto 1 (.t 64) (.t 63)⟩])))
                   (.region [
                     ⟨some 42, none, .mv false (.t 6)⟩,
                     ⟨some 43, none, .bin .add (.t 42) (.c (.int .i64 1))⟩,
                     ⟨some 6, none, .mv true (.t 43)⟩]))))))
              (.region [
                ⟨some 65, none, .fad 2 (.t 3)⟩,
                ⟨some 66, none, .ld 1 false false (.t 65)⟩,
                ⟨some 67, none, .ld 3 true false (.t 5)⟩,
                ⟨some 68, none, .bsl 3 1 true [.lst 0 [] true, .int .i64 0, .int .i64 0] [(0, .t 67)] false⟩,
                ⟨some 69, none, .app 3 40 (.t 66) (.t 68)⟩,
                ⟨some 70, none, .fad 2 (.t 3)⟩,
                ⟨none, none, .sto 1 (.t 70) (.t 69)⟩]))))
           (.region [
             ⟨some 18, none, .mv false (.t 4)⟩,
             ⟨some 19, none, .bin .add (.t 18) (.c (.int .i64 1))⟩,
             ⟨some 4, none, .mv true (.t 19)⟩]))))))
      (.seq
       (.region [
         ⟨some 71, none, .ld 3 true false (.t 3)⟩,
         ⟨none, none, .sto 3 (.t 2) (.t 71)⟩])
       .ret)))⟩
theorem t9 : compF Try.prog { ros := [1] } 9 = some p9 := by kernel_rfl
def p10 : PFn :=
  ⟨11, [.t 2], .seq
    (.region [
      ⟨some 1, none, .bxI 5 (.t 0)⟩,
      ⟨some 2, none, .mv true (.c (.bool false))⟩])
    (.seq
     (.region [
       ⟨some 3, none, .fad 4 (.t 1)⟩,
       ⟨some 4, none, .ld 1 false false (.t 3)⟩,
       ⟨some 5, none, .bin .geq (.t 4) (.c (.int .i64 0))⟩,
       ⟨some 6, none, .mv false (.t 5)⟩,
       ⟨some 7, some (6, true), .fad 4 (.t 1)⟩,
       ⟨some 8, some (6, true), .ld 1 false false (.t 7)⟩,
       ⟨some 9, some (6, true), .bin .leq (.t 8) (.c (.int .i64 1000000000))⟩,
       ⟨some 10, none, .pick (.t 6) (.t 9) (.c (.bool false))⟩,
       ⟨some 2, none, .mv true (.t 10)⟩])
     .ret)⟩
theorem t10 : compF Try.prog { ros := [1] } 10 = some p10 := by kernel_rfl
def p11 : PFn :=
  ⟨66, [.t 0], .seq
    (.region [
      ⟨some 0, none, .mv true (.c (.bool false))⟩])
    (.seq
     (.region [
       ⟨some 11, none, .callF 15 [.c (.int .i64 2), .c (.int .i64 3), .c (.int .i64 10)] []⟩,
       ⟨some 10, none, .mv true (.t 11)⟩,
       ⟨some 12, none, .ext true (.t 10) 0⟩,
       ⟨some 13, none, .ext false (.t 10) 1⟩,
       ⟨some 1, none, .al [.int .i64 0, .int .i64 0, .lst 0 [] true]⟩,
       ⟨none, none, .sto 3 (.t 1) (.t 12)⟩,
       ⟨some 2, none, .mv true (.t 13)⟩])
     (.seq
      (.region [
        ⟨some 15, none, .ld 3 true false (.t 1)⟩,
        ⟨some 16, none, .callF 13 [.t 15, .c (.int .i64 0), .c (.int .i64 1), .c (.int .i64 0)] []⟩,
        ⟨some 14, none, .mv true (.t 16)⟩,
        ⟨some 17, none, .ext true (.t 14) 0⟩,
        ⟨some 18, none, .ext false (.t 14) 1⟩,
        ⟨some 19, none, .ext false (.t 14) 2⟩,
        ⟨none, none, .sto 3 (.t 1) (.t 17)⟩,
        ⟨some 3, none, .mv true (.t 18)⟩,
        ⟨some 4, none, .mv true (.t 19)⟩])
      (.seq
       (.region [
         ⟨some 21, none, .ld 3 true false (.t 1)⟩,
         ⟨some 22, none, .callF 12 [.t 21, .c (.int .i64 2), .c (.int .i64 0)] []⟩,
         ⟨some 20, none, .mv true (.t 22)⟩,
         ⟨some 23, none, .ext false (.t 20) 0⟩,
         ⟨some 24, none, .ext false (.t 20) 1⟩,
         ⟨some 5, none, .mv true (.t 23)⟩,
         ⟨some 6, none, .mv true (.t 24)⟩])
       (.seq
        (.region [
          ⟨some 26, none, .ld 3 true false (.t 1)⟩,
          ⟨some 27, none, .mv false (.t 3)⟩,
          ⟨some 28, none, .callF 23 [.t 26, .c (.int .i64 0), .t 27] []⟩,
          ⟨some 25, none, .mv true (.t 28)⟩,
          ⟨some 29, none, .ext true (.t 25) 0⟩,
          ⟨some 30, none, .ext false (.t 25) 1⟩,
          ⟨none, none, .sto 3 (.t 1) (.t 29)⟩,
          ⟨some 7, none, .mv true (.t 30)⟩])
        (.seq
         (.region [
           ⟨some 32, none, .ld 3 true false (.t 1)⟩,
           ⟨some 33, none, .mv false (.t 3)⟩,
           ⟨some 34, none, .callF 23 [.t 32, .c (.int .i64 0), .t 33] []⟩,
           ⟨some 31, none, .mv true (.t 34)⟩,
           ⟨some 35, none, .ext true (.t 31) 0⟩,
           ⟨some 36, none, .ext false (.t 31) 1⟩,
           ⟨some 8, none, .al [.int .i64 0, .int .i64 0, .lst 0 [] true]⟩,
           ⟨none, none, .sto 3 (.t 8) (.t 35)⟩,
           ⟨some 9, none, .mv true (.t 36)⟩])
         (.seq
          (.region [
            ⟨some 37, none, .mv false (.t 2)⟩,
            ⟨some 38, none, .bin .eql (.t 37) (.c (.int .i64 0))⟩,
            ⟨some 39, none, .mv false (.t 38)⟩,
            ⟨some 40, some (39, true), .mv false (.t 4)⟩,
            ⟨some 41, some (39, true), .bin .eql (.t 40) (.c (.int .i64 0))⟩,
            ⟨some 42, none, .pick (.t 39) (.t 41) (.c (.bool false))⟩,
            ⟨some 43, none, .mv false (.t 42)⟩,
            ⟨some 44, some (43, true), .mv false (.t 3)⟩,
            ⟨some 45, some (43, true), .bin .eql (.t 44) (.c (.int .i64 0))⟩,
            ⟨some 46, none, .pick (.t 43) (.t 45) (.c (.bool false))⟩,
            ⟨some 47, none, .mv false (.t 46)⟩,
            ⟨some 48, some (47, true), .mv false (.t 6)⟩,
            ⟨some 49, none, .pick (.t 47) (.t 48) (.c (.bool false))⟩,
            ⟨some 50, none, .mv false (.t 49)⟩,
            ⟨some 51, some (50, true), .mv false (.t 5)⟩,
            ⟨some 52, some (50, true), .bin .eql (.t 51) (.c (.int .i64 1))⟩,
            ⟨some 53, none, .pick (.t 50) (.t 52) (.c (.bool false))⟩,
            ⟨some 54, none, .mv false (.t 53)⟩,
            ⟨some 55, some (54, true), .mv false (.t 7)⟩,
            ⟨some 56, none, .pick (.t 54) (.t 55) (.c (.bool false))⟩,
            ⟨some 57, none, .mv false (.t 56)⟩,
            ⟨some 58, some (57, true), .mv false (.t 9)⟩,
            ⟨some 59, some (57, true), .un .not (.t 58)⟩,
            ⟨some 60, none, .pick (.t 57) (.t 59) (.c (.bool false))⟩,
            ⟨some 61, none, .mv false (.t 60)⟩,
            ⟨some 62, some (61, true), .ld 3 true false (.t 1)⟩,
            ⟨some 63, some (61, true), .callF 21 [.t 62] []⟩,
            ⟨some 64, some (61, true), .un .not (.t 63)⟩,
            ⟨some 65, none, .pick (.t 61) (.t 64) (.c (.bool false))⟩,
            ⟨some 0, none, .mv true (.t 65)⟩])
          .ret))))))⟩
theorem t11 : compF Try.prog {} 11 = some p11 := by kernel_rfl
def p12 : PFn :=
  ⟨30, [.t 6, .t 7], .seq
    (.region [
      ⟨some 3, none, .bxI 3 (.t 0)⟩,
      ⟨some 4, none, .bxI 1 (.t 1)⟩,
      ⟨some 5, none, .bxI 1 (.t 2)⟩,
      ⟨some 6, none, .mv true (.c (.int .i64 0))⟩,
      ⟨some 7, none, .mv true (.c (.bool false))⟩])
    (.seq
     (.region [
       ⟨some 8, none, .mv true (.c (.fn (.func 29) [] []))⟩])
     (.seq
      (.region [
        ⟨some 13, none, .mkf (.func 31) [] [.t 4, .t 5, .t 3]⟩,
        ⟨some 9, none, .mv true (.t 13)⟩])
      (.seq
       (.seq
        (.region [
          ⟨some 14, none, .mv false (.t 8)⟩,
          ⟨some 15, none, .mv false (.t 9)⟩,
          ⟨some 16, none, .bsl 1 2 false [.nilf, .nilf] [(0, .t 14), (1, .t 15)] false⟩,
          ⟨some 17, none, .len false (.t 16)⟩,
          ⟨some 18, none, .mv false (.c (.int .i64 0))⟩])
        (.block 0
         (.loop
          (.seq
           (.region [
             ⟨some 19, none, .bin .lss (.t 18) (.t 17)⟩])
           (.seq
            (.cond (.t 19)
             .skip
             (.exit 0))
            (.seq
             (.block 1
              (.seq
               (.region [
                 ⟨some 20, none, .iad 1 (.t 16) (.t 18)⟩,
                 ⟨some 21, none, .ld 1 false false (.t 20)⟩,
                 ⟨some 11, none, .mv true (.t 21)⟩])
               (.seq
                (.region [
                  ⟨some 22, none, .fad 2 (.t 3)⟩,
                  ⟨some 23, none, .ld 1 false false (.t 22)⟩,
                  ⟨some 24, none, .mv false (.t 11)⟩,
                  ⟨some 25, none, .callF 32 [.t 23, .t 24] []⟩,
                  ⟨some 12, none, .mv true (.t 25)⟩])
                (.seq
                 (.region [
                   ⟨some 26, none, .mv false (.t 12)⟩,
                   ⟨some 27, none, .bin .geq (.t 26) (.c (.int .i64 0))⟩])
                 (.cond (.t 27)
                  (.seq
                   (.region [
                     ⟨some 28, none, .mv true (.t 12)⟩,
                     ⟨some 6, none, .mv true (.t 28)⟩,
                     ⟨some 7, none, .mv true (.c (.bool true))⟩])
                   .ret)
                  .skip)))))
             (.region [
               ⟨some 29, none, .bin .add (.t 18) (.c (.int .i64 1))⟩,
               ⟨some 18, none, .mv false (.t 29)⟩])))))))
       (.seq
        (.region [
          ⟨some 6, none, .mv true (.c (.int .i64 0))⟩,
          ⟨some 7, none, .mv true (.c (.bool false))⟩])
        .ret))))⟩
theorem t12 : compF Try.prog { ros := [3, 4, 5] } 12 = some p12 := by kernel_rfl
def p13 : PFn :=
  ⟨54, [.c 8 3 true, .t 9, .t 10], .seq
    (.region [
      ⟨some 4, none, .bxI 3 (.t 0)⟩,
      ⟨some 6, none, .bxI 1 (.t 2)⟩,
      ⟨some 7, none, .bxI 1 (.t 3)⟩,
      ⟨some 8, none, .al [.int .i64 0, .int .i64 0, .lst 0 [] true]⟩,
      ⟨some 9, none, .mv true (.c (.int .i64 0))⟩,
      ⟨some 10, none, .mv true (.c (.int .i64 0))⟩])
    (.seq
     (.seq
      (.region [
        ⟨some 13, none, .ld 3 true false (.t 4)⟩,
        ⟨some 14, none, .mv false (.t 1)⟩,
        ⟨some 15, none, .callF 33 [.t 13, .t 14] []⟩,
        ⟨some 16, none, .un .not (.t 15)⟩])
      (.cond (.t 16)
       (.seq
        (.region [
          ⟨some 17, none, .ld 3 true false (.t 4)⟩,
          ⟨none, none, .sto 3 (.t 8) (.t 17)⟩,
          ⟨some 9, none, .mv true (.c (.int .i64 (-1)))⟩,
          ⟨some 10, none, .mv true (.c (.int .i64 1))⟩])
        .ret)
       .skip))
     (.seq
      (.region [
        ⟨some 18, none, .fad 2 (.t 4)⟩,
        ⟨some 19, none, .ld 1 false false (.t 18)⟩,
        ⟨some 20, none, .mv false (.t 1)⟩,
        ⟨some 21, none, .iad 3 (.t 19) (.t 20)⟩,
        ⟨some 22, none, .ld 3 true false (.t 21)⟩,
        ⟨some 11, none, .al [.lst 0 [] true, .int .i64 0, .int .i64 0]⟩,
        ⟨none, none, .sto 3 (.t 11) (.t 22)⟩])
      (.seq
       (.region [
         ⟨some 23, none, .ld 3 true false (.t 11)⟩,
         ⟨some 24, none, .callF 30 [.t 23] []⟩,
         ⟨some 25, none, .mkf (.func 35) [] [.t 6]⟩,
         ⟨some 26, none, .callF 34 [.t 24, .t 25] []⟩,
         ⟨some 12, none, .mv true (.t 26)⟩])
       (.seq
        (.block 0
         (.seq
          (.region [
            ⟨some 28, none, .fad 1 (.t 11)⟩,
            ⟨some 29, none, .ld 1 false false (.t 28)⟩,
            ⟨some 30, none, .bin .neq (.t 29) (.c (.int .i64 (-1)))⟩,
            ⟨some 31, none, .mv false (.t 30)⟩,
            ⟨some 32, some (31, false), .ld 3 true false (.t 11)⟩,
            ⟨some 33, some (31, false), .callF 30 [.t 32] []⟩,
            ⟨some 34, some (31, false), .len false (.t 33)⟩,
            ⟨some 35, some (31, false), .bin .eql (.t 34) (.c (.int .i64 2))⟩,
            ⟨some 36, none, .pick (.t 31) (.c (.bool true)) (.t 35)⟩,
            ⟨some 37, none, .mv false (.t 36)⟩,
            ⟨some 38, some (37, false), .mv false (.t 12)⟩,
            ⟨some 39, none, .pick (.t 37) (.c (.bool true)) (.t 38)⟩,
            ⟨some 27, none, .mv true (.t 39)⟩])
          (.cond (.t 27)
           (.seq
            (.region [
              ⟨some 40, none, .ld 3 true false (.t 4)⟩,
              ⟨none, none, .sto 3 (.t 8) (.t 40)⟩,
              ⟨some 9, none, .mv true (.c (.int .i64 (-1)))⟩,
              ⟨some 10, none, .mv true (.c (.int .i64 14))⟩])
            .ret)
           (.seq
            (.region [
              ⟨some 42, none, .fad 0 (.t 11)⟩,
              ⟨some 43, none, .ld 1 false false (.t 42)⟩,
              ⟨some 44, none, .len false (.t 43)⟩,
              ⟨some 45, none, .bin .geq (.t 44) (.c (.int .i64 500))⟩,
              ⟨some 41, none, .mv true (.t 45)⟩])
            (.cond (.t 41)
             (.seq
              (.region [
                ⟨some 46, none, .ld 3 true false (.t 4)⟩,
                ⟨none, none, .sto 3 (.t 8) (.t 46)⟩,
                ⟨some 9, none, .mv true (.c (.int .i64 (-1)))⟩,
                ⟨some 10, none, .mv true (.c (.int .i64 8))⟩])
              .ret)
             .skip)))))
        (.seq
         (.draw [
           ⟨some 47, none, .ld 3 true false (.t 4)⟩,
           ⟨some 48, none, .mv false (.t 1)⟩,
           ⟨some 49, none, .mkf (.func 37) [] [.t 6, .t 7]⟩,
           ⟨some 50, none, .callF 36 [.t 47, .t 48, .t 49] []⟩,
           ⟨some 51, none, .fad 0 (.t 11)⟩,
           ⟨some 52, none, .ld 1 false false (.t 51)⟩,
           ⟨some 53, none, .len false (.t 52)⟩,
           ⟨none, none, .sto 3 (.t 8) (.t 50)⟩,
           ⟨some 9, none, .mv true (.t 53)⟩,
           ⟨some 10, none, .mv true (.c (.int .i64 0))⟩] [(5, 7)])
         .ret)))))⟩
theorem t13 : compF Try.prog { ros := [4, 6, 7] } 13 = some p13 := by kernel_rfl
def p14 : PFn :=
  ⟨25, [.t 2], .seq
    (.region [
      ⟨some 1, none, .bxI 3 (.t 0)⟩,
      ⟨some 2, none, .mv true (.c (.bool false))⟩])
    (.seq
     (.region [
       ⟨some 3, none, .mv true (.c (.fn (.func 38) [] []))⟩])
     (.seq
      (.region [
        ⟨some 4, none, .fad 0 (.t 1)⟩,
        ⟨some 5, none, .ld 1 false false (.t 4)⟩,
        ⟨some 6, none, .callF 40 [.t 5, .c (.int .i64 1), .c (.int .i64 10)] []⟩,
        ⟨some 7, none, .mv false (.t 6)⟩,
        ⟨some 8, some (7, true), .fad 1 (.t 1)⟩,
        ⟨some 9, some (7, true), .ld 1 false false (.t 8)⟩,
        ⟨some 10, some (7, true), .callF 40 [.t 9, .c (.int .i64 1), .c (.int .i64 1000)] []⟩,
        ⟨some 11, none, .pick (.t 7) (.t 10) (.c (.bool false))⟩,
        ⟨some 12, none, .mv false (.t 11)⟩,
        ⟨some 13, some (12, true), .fad 2 (.t 1)⟩,
        ⟨some 14, some (12, true), .ld 1 false false (.t 13)⟩,
        ⟨some 15, some (12, true), .len false (.t 14)⟩,
        ⟨some 16, some (12, true), .bin .leq (.t 15) (.c (.int .i64 200))⟩,
        ⟨some 17, none, .pick (.t 12) (.t 16) (.c (.bool false))⟩,
        ⟨some 18, none, .mv false (.t 17)⟩,
        ⟨some 19, some (18, true), .fad 2 (.t 1)⟩,
        ⟨some 20, some (18, true), .ld 1 false false (.t 19)⟩,
        ⟨some 21, some (18, true), .mv false (.t 3)⟩,
        ⟨some 22, some (18, true), .callF 41 [.t 20, .t 21] []⟩,
        ⟨some 23, some (18, true), .un .not (.t 22)⟩,
        ⟨some 24, none, .pick (.t 18) (.t 23) (.c (.bool false))⟩,
        ⟨some 2, none, .mv true (.t 24)⟩])
      .ret))⟩
theorem t14 : compF Try.prog { ros := [1] } 14 = some p14 := by kernel_rfl
def p15 : PFn :=
  ⟨29, [.c 6 3 true, .t 7], .seq
    (.region [
      ⟨some 6, none, .al [.int .i64 0, .int .i64 0, .lst 0 [] true]⟩,
      ⟨some 7, none, .mv true (.c (.int .i64 0))⟩])
    (.seq
     (.seq
      (.region [
        ⟨some 8, none, .mv false (.t 0)⟩,
        ⟨some 9, none, .callF 40 [.t 8, .c (.int .i64 0), .c (.int .i64 200)] []⟩,
        ⟨some 10, none, .un .not (.t 9)⟩,
        ⟨some 11, none, .mv false (.t 10)⟩,
        ⟨some 12, some (11, false), .mv false (.t 1)⟩,
        ⟨some 13, some (11, false), .callF 40 [.t 12, .c (.int .i64 1), .c (.int .i64 10)] []⟩,
        ⟨some 14, some (11, false), .un .not (.t 13)⟩,
        ⟨some 15, none, .pick (.t 11) (.c (.bool true)) (.t 14)⟩,
        ⟨some 16, none, .mv false (.t 15)⟩,
        ⟨some 17, some (16, false), .mv false (.t 2)⟩,
        ⟨some 18, some (16, false), .callF 40 [.t 17, .c (.int .i64 1), .c (.int .i64 1000)] []⟩,
        ⟨some 19, some (16, false), .un .not (.t 18)⟩,
        ⟨some 20, none, .pick (.t 16) (.c (.bool true)) (.t 19)⟩])
      (.cond (.t 20)
       (.seq
        (.region [
          ⟨some 21, none, .build [.int .i64 0, .int .i64 0, .lst 0 [] true] []⟩,
          ⟨none, none, .sto 3 (.t 6) (.t 21)⟩,
          ⟨some 7, none, .mv true (.c (.int .i64 1))⟩])
        .ret)
       .skip))
     (.seq
      (.region [
        ⟨some 22, none, .mv false (.t 1)⟩,
        ⟨some 23, none, .mv false (.t 2)⟩,
        ⟨some 24, none, .build [.lst 0 [] true, .int .i64 0, .int .i64 0] [(1, (1, .c (.int .i64 (-1))))]⟩,
        ⟨some 25, none, .bsl 3 1 true [.lst 0 [] true, .int .i64 0, .int .i64 0] [(0, .t 24)] false⟩,
        ⟨some 26, none, .mv false (.t 0)⟩,
        ⟨some 27, none, .callF 42 [.t 25, .t 26] []⟩,
        ⟨some 28, none, .build [.int .i64 0, .int .i64 0, .lst 0 [] true] [(0, (1, .t 22)), (1, (1, .t 23)), (2, (1, .t 27))]⟩,
        ⟨none, none, .sto 3 (.t 6) (.t 28)⟩,
        ⟨some 7, none, .mv true (.c (.int .i64 0))⟩])
      .ret))⟩
theorem t15 : compF Try.prog {} 15 = some p15 := by kernel_rfl
def p16 : PFn :=
  ⟨48, [.c 6 3 true, .t 7], .seq
    (.region [
      ⟨some 6, none, .al [.int .i64 0, .int .i64 0, .lst 0 [] true]⟩,
      ⟨some 7, none, .mv true (.c (.int .i64 0))⟩])
    (.seq
     (.seq
      (.region [
        ⟨some 10, none, .mv false (.t 0)⟩,
        ⟨some 11, none, .bin .lss (.t 10) (.c (.int .i64 0))⟩,
        ⟨some 12, none, .mv false (.t 11)⟩,
        ⟨some 13, some (12, false), .mv false (.t 0)⟩,
        ⟨some 14, some (12, false), .bin .gtr (.t 13) (.c (.int .i64 200))⟩,
        ⟨some 15, none, .pick (.t 12) (.c (.bool true)) (.t 14)⟩,
        ⟨some 16, none, .mv false (.t 15)⟩,
        ⟨some 17, some (16, false), .mv false (.t 1)⟩,
        ⟨some 18, some (16, false), .bin .lss (.t 17) (.c (.int .i64 1))⟩,
        ⟨some 19, none, .pick (.t 16) (.c (.bool true)) (.t 18)⟩,
        ⟨some 20, none, .mv false (.t 19)⟩,
        ⟨some 21, some (20, false), .mv false (.t 1)⟩,
        ⟨some 22, some (20, false), .bin .gtr (.t 21) (.c (.int .i64 10))⟩,
        ⟨some 23, none, .pick (.t 20) (.c (.bool true)) (.t 22)⟩,
        ⟨some 24, none, .mv false (.t 23)⟩,
        ⟨some 25, some (24, false), .mv false (.t 2)⟩,
        ⟨some 26, some (24, false), .bin .lss (.t 25) (.c (.int .i64 1))⟩,
        ⟨some 27, none, .pick (.t 24) (.c (.bool true)) (.t 26)⟩,
        ⟨some 28, none, .mv false (.t 27)⟩,
        ⟨some 29, some (28, false), .mv false (.t 2)⟩,
        ⟨some 30, some (28, false), .bin .gtr (.t 29) (.c (.int .i64 1000))⟩,
        ⟨some 31, none, .pick (.t 28) (.c (.bool true)) (.t 30)⟩])
      (.cond (.t 31)
       (.seq
        (.region [
          ⟨some 32, none, .build [.int .i64 0, .int .i64 0, .lst 0 [] true] []⟩,
          ⟨none, none, .sto 3 (.t 6) (.t 32)⟩,
          ⟨some 7, none, .mv true (.c (.int .i64 1))⟩])
        .ret)
       .skip))
     (.seq
      (.region [
        ⟨some 33, none, .mv false (.t 1)⟩,
        ⟨some 34, none, .mv false (.t 2)⟩,
        ⟨some 35, none, .build [.int .i64 0, .int .i64 0, .lst 0 [] true] [(0, (1, .t 33)), (1, (1, .t 34))]⟩,
        ⟨some 8, none, .al [.int .i64 0, .int .i64 0, .lst 0 [] true]⟩,
        ⟨none, none, .sto 3 (.t 8) (.t 35)⟩])
      (.seq
       (.seq
        (.region [
          ⟨some 9, none, .mv true (.c (.int .i64 0))⟩])
        (.block 0
         (.loop
          (.seq
           (.seq
            (.region [
              ⟨some 36, none, .mv false (.t 9)⟩,
              ⟨some 37, none, .mv false (.t 0)⟩,
              ⟨some 38, none, .bin .lss (.t 36) (.t 37)⟩])
            (.cond (.t 38)
             .skip
             (.exit 0)))
           (.seq
            (.block 1
             (.region [
               ⟨some 41, none, .fad 2 (.t 8)⟩,
               ⟨some 42, none, .ld 1 false false (.t 41)⟩,
               ⟨some 43, none, .build [.lst 0 [] true, .int .i64 0, .int .i64 0] [(1, (1, .c (.int .i64 (-1))))]⟩,
               ⟨some 44, none, .bsl 3 1 true [.lst 0 [] true, .int .i64 0, .int .i64 0] [(0, .t 43)] false⟩,
               ⟨some 45, none, .app 3 40 (.t 42) (.t 44)⟩,
               ⟨some 46, none, .fad 2 (.t 8)⟩,
               ⟨none, none, .sto 1 (.t 46) (.t 45)⟩]))
            (.region [
              ⟨some 39, none, .mv false (.t 9)⟩,
              ⟨some 40, none, .bin .add (.t 39) (.c (.int .i64 1))⟩,
              ⟨some 9, none, .mv true (.t 40)⟩]))))))
       (.seq
        (.region [
          ⟨some 47, none, .ld 3 true false (.t 8)⟩,
          ⟨none, none, .sto 3 (.t 6) (.t 47)⟩,
          ⟨some 7, none, .mv true (.c (.int .i64 0))⟩])
        .ret))))⟩
theorem t16 : compF Try.prog {} 16 = some p16 := by kernel_rfl
def p17 : PFn :=
  ⟨86, [.t 4], .seq
    (.region [
      ⟨some 2, none, .bxI 3 (.t 0)⟩,
      ⟨some 3, none, .bxI 3 (.t 1)⟩,
      ⟨some 4, none, .mv true (.c (.bool false))⟩])
    (.seq
     (.seq
      (.region [
        ⟨some 9, none, .fad 0 (.t 2)⟩,
        ⟨some 10, none, .ld 1 false false (.t 9)⟩,
        ⟨some 11, none, .fad 0 (.t 3)⟩,
        ⟨some 12, none, .ld 1 false false (.t 11)⟩,
        ⟨some 13, none, .bin .neq (.t 10) (.t 12)⟩,
        ⟨some 14, none, .mv false (.t 13)⟩,
        ⟨some 15, some (14, false), .fad 1 (.t 2)⟩,
        ⟨some 16, some (14, false), .ld 1 false false (.t 15)⟩,
        ⟨some 17, some (14, false), .fad 1 (.t 3)⟩,
        ⟨some 18, some (14, false), .ld 1 false false (.t 17)⟩,
        ⟨some 19, some (14, false), .bin .neq (.t 16) (.t 18)⟩,
        ⟨some 20, none, .pick (.t 14) (.c (.bool true)) (.t 19)⟩,
        ⟨some 21, none, .mv false (.t 20)⟩,
        ⟨some 22, some (21, false), .fad 2 (.t 2)⟩,
        ⟨some 23, some (21, false), .ld 1 false false (.t 22)⟩,
        ⟨some 24, some (21, false), .len false (.t 23)⟩,
        ⟨some 25, some (21, false), .fad 2 (.t 3)⟩,
        ⟨some 26, some (21, false), .ld 1 false false (.t 25)⟩,
        ⟨some 27, some (21, false), .len false (.t 26)⟩,
        ⟨some 28, some (21, false), .bin .neq (.t 24) (.t 27)⟩,
        ⟨some 29, none, .pick (.t 21) (.c (.bool true)) (.t 28)⟩])
      (.cond (.t 29)
       (.seq
        (.region [
          ⟨some 4, none, .mv true (.c (.bool false))⟩])
        .ret)
       .skip))
     (.seq
      (.seq
       (.region [
         ⟨some 5, none, .mv true (.c (.int .i64 0))⟩])
       (.block 0
        (.loop
         (.seq
          (.seq
           (.region [
             ⟨some 30, none, .mv false (.t 5)⟩,
             ⟨some 31, none, .fad 2 (.t 2)⟩,
             ⟨some 32, none, .ld 1 false false (.t 31)⟩,
             ⟨some 33, none, .len false (.t 32)⟩,
             ⟨some 34, none, .bin .lss (.t 30) (.t 33)⟩])
           (.cond (.t 34)
            .skip
            (.exit 0)))
          (.seq
           (.block 1
            (.seq
             (.drawN [
               ⟨some 37, none, .fad 2 (.t 2)⟩,
               ⟨some 38, none, .ld 1 false false (.t 37)⟩,
               ⟨some 39, none, .mv false (.t 5)⟩,
               ⟨some 40, none, .iad 3 (.t 38) (.t 39)⟩,
               ⟨some 41, none, .ld 3 true false (.t 40)⟩,
               ⟨some 42, none, .fad 2 (.t 3)⟩,
               ⟨some 43, none, .ld 1 false false (.t 42)⟩,
               ⟨some 44, none, .mv false (.t 5)⟩,
               ⟨some 45, none, .iad 3 (.t 43) (.t 44)⟩,
               ⟨some 46, none, .ld 3 true false (.t 45)⟩,
               ⟨some 6, none, .mv false (.c .unit)⟩,
               ⟨some 7, none, .mv false (.c .unit)⟩,
               ⟨some 6, none, .mvc 3 (.t 41)⟩,
               ⟨some 7, none, .mvc 3 (.t 46)⟩] [] [(10, (12, (6, 3))), (11, (13, (7, 3)))])
             (.seq
              (.seq
               (.region [
                 ⟨some 47, none, .fad 1 (.t 6)⟩,
                 ⟨some 48, none, .ld 1 false false (.t 47)⟩,
                 ⟨some 49, none, .fad 1 (.t 7)⟩,
                 ⟨some 50, none, .ld 1 false false (.t 49)⟩,
                 ⟨some 51, none, .bin .neq (.t 48) (.t 50)⟩,
                 ⟨some 52, none, .mv false (.t 51)⟩,
                 ⟨some 53, some (52, false), .fad 2 (.t 6)⟩,
                 ⟨some 54, some (52, false), .ld 1 false false (.t 53)⟩,
                 ⟨some 55, some (52, false), .fad 2 (.t 7)⟩,
                 ⟨some 56, some (52, false), .ld 1 false false (.t 55)⟩,
                 ⟨some 57, some (52, false), .bin .neq (.t 54) (.t 56)⟩,
                 ⟨some 58, none, .pick (.t 52) (.c (.bool true)) (.t 57)⟩,
                 ⟨some 59, none, .mv false (.t 58)⟩,
                 ⟨some 60, some (59, false), .fad 0 (.t 6)⟩,
                 ⟨some 61, some (59, false), .ld 1 false false (.t 60)⟩,
                 ⟨some 62, some (59, false), .len false (.t 61)⟩,
                 ⟨some 63, some (59, false), .fad 0 (.t 7)⟩,
                 ⟨some 64, some (59, false), .ld 1 false false (.t 63)⟩,
                 ⟨some 65, some (59, false), .len false (.t 64)⟩,
                 ⟨some 66, some (59, false), .bin .neq (.t 62) (.t 65)⟩,
                 ⟨some 67, none, .pick (.t 59) (.c (.bool true)) (.t 66)⟩])
               (.cond (.t 67)
                (.seq
                 (.region [
                   ⟨some 4, none, .mv true (.c (.bool false))⟩])
                 .ret)
                .skip))
              (.seq
               (.region [
                 ⟨some 8, none, .mv true (.c (.int .i64 0))⟩])
               (.block 2
                (.loop
                 (.seq
                  (.seq
                   (.region [
                     ⟨some 68, none, .mv false (.t 8)⟩,
                     ⟨some 69, none, .fad 0 (.t 6)⟩,
                     ⟨some 70, none, .ld 1 false false (.t 69)⟩,
                     ⟨some 71, none, .len false (.t 70)⟩,
                     ⟨some 72, none, .bin .lss (.t 68) (.t 71)⟩])
                   (.cond (.t 72)
                    .skip
                    (.exit 2)))
                  (.seq
                   (.block 3
                    (.seq
                     (.draw [
                       ⟨some 75, none, .fad 0 (.t 6)⟩,
                       ⟨some 76, none, .ld 1 false false (.t 75)⟩,
                       ⟨some 77, none, .mv false (.t 8)⟩,
                       ⟨some 78, none, .iad 3 (.t 76) (.t 77)⟩,
                       ⟨some 79, none, .ld 3 true false (.t 78)⟩,
                       ⟨some 80, none, .fad 0 (.t 7)⟩,
                       ⟨some 81, none, .ld 1 false false (.t 80)⟩,
                       ⟨some 82, none, .mv false (.t 8)⟩,
                       ⟨some 83, none, .iad 3 (.t 81) (.t 82)⟩,
                       ⟨some 84, none, .ld 3 true false (.t 83)⟩,
                       ⟨some 85, none, .eqS true [0, 0, 1] (.t 79) (.t 84)⟩] [])
                     (.cond (.t 85)
                      (.seq
                       (.region [
                         ⟨some 4, none, .mv true (.c (.bool false))⟩])
                       .ret)
                      .skip)))
                   (.region [
                     ⟨some 73, none, .mv false (.t 8)⟩,
                     ⟨some 74, none, .bin .add (.t 73) (.c (.int .i64 1))⟩,
                     ⟨some 8, none, .mv true (.t 74)⟩])))))))))
           (.region [
             ⟨some 35, none, .mv false (.t 5)⟩,
             ⟨some 36, none, .bin .add (.t 35) (.c (.int .i64 1))⟩,
             ⟨some 5, none, .mv true (.t 36)⟩]))))))
      (.seq
       (.region [
         ⟨some 4, none, .mv true (.c (.bool true))⟩])
       .ret)))⟩
theorem t17 : compF Try.prog { ros := [2, 3] } 17 = some p17 := by kernel_rfl
def p18 : PFn :=
  ⟨246, [.c 6 3 true, .c 7 3 true, .t 8], .seq
    (.region [
      ⟨some 3, none, .bx 3 (.t 0)⟩,
      ⟨some 4, none, .bx 3 (.t 1)⟩,
      ⟨some 5, none, .bxI 5 (.t 2)⟩,
      ⟨some 6, none, .al [.int .i64 0, .int .i64 0, .lst 0 [] true]⟩,
      ⟨some 7, none, .al [.int .i64 0, .int .i64 0, .lst 0 [] true]⟩,
      ⟨some 8, none, .mv true (.c (.bool false))⟩])
    (.seq
     (.region [
       ⟨some 9, none, .mv true (.c (.bool true))⟩])
     (.seq
      (.seq
       (.region [
         ⟨some 41, none, .fad 0 (.t 5)⟩,
         ⟨some 42, none, .ld 1 false false (.t 41)⟩])
       (.block 0
        (.seq
         (.seq
          (.region [
            ⟨some 44, none, .bin .eql (.t 42) (.c (.int .i64 1))⟩,
            ⟨some 43, none, .mv true (.t 44)⟩])
          (.cond (.t 43)
           .skip
           (.region [
             ⟨some 45, none, .bin .eql (.t 42) (.c (.int .i64 7))⟩,
             ⟨some 43, none, .mv true (.t 45)⟩])))
         (.cond (.t 43)
          (.seq
           (.region [
             ⟨some 46, none, .fad 1 (.t 5)⟩,
             ⟨some 47, none, .ld 1 false false (.t 46)⟩,
             ⟨some 10, none, .mv true (.t 47)⟩])
           (.seq
            (.seq
             (.region [
               ⟨some 48, none, .fad 0 (.t 5)⟩,
               ⟨some 49, none, .ld 1 false false (.t 48)⟩,
               ⟨some 50, none, .bin .eql (.t 49) (.c (.int .i64 7))⟩])
             (.cond (.t 50)
              (.seq
               (.region [
                 ⟨some 52, none, .ld 3 true false (.t 3)⟩,
                 ⟨some 53, none, .fad 3 (.t 5)⟩,
                 ⟨some 54, none, .ld 1 false false (.t 53)⟩,
                 ⟨some 55, none, .fad 4 (.t 5)⟩,
                 ⟨some 56, none, .ld 1 false false (.t 55)⟩,
                 ⟨some 57, none, .callF 12 [.t 52, .t 54, .t 56] []⟩,
                 ⟨some 51, none, .mv true (.t 57)⟩,
                 ⟨some 58, none, .ext false (.t 51) 0⟩,
                 ⟨some 59, none, .ext false (.t 51) 1⟩,
                 ⟨some 11, none, .mv true (.t 58)⟩,
                 ⟨some 12, none, .mv true (.t 59)⟩])
               (.seq
                (.region [
                  ⟨some 61, none, .ld 3 true false (.t 4)⟩,
                  ⟨some 62, none, .fad 3 (.t 5)⟩,
                  ⟨some 63, none, .ld 1 false false (.t 62)⟩,
                  ⟨some 64, none, .fad 4 (.t 5)⟩,
                  ⟨some 65, none, .ld 1 false false (.t 64)⟩,
                  ⟨some 66, none, .callF 43 [.t 61, .t 63, .t 65] []⟩,
                  ⟨some 60, none, .mv true (.t 66)⟩,
                  ⟨some 67, none, .ext false (.t 60) 0⟩,
                  ⟨some 68, none, .ext false (.t 60) 1⟩,
                  ⟨some 13, none, .mv true (.t 67)⟩,
                  ⟨some 14, none, .mv true (.t 68)⟩])
                (.seq
                 (.seq
                  (.region [
                    ⟨some 69, none, .mv false (.t 11)⟩,
                    ⟨some 70, none, .mv false (.t 13)⟩,
                    ⟨some 71, none, .bin .neq (.t 69) (.t 70)⟩,
                    ⟨some 72, none, .mv false (.t 71)⟩,
                    ⟨some 73, some (72, false), .mv false (.t 12)⟩,
                    ⟨some 74, some (72, false), .mv false (.t 14)⟩,
                    ⟨some 75, some (72, false), .binB true (.t 73) (.t 74)⟩,
                    ⟨some 76, none, .pick (.t 72) (.c (.bool true)) (.t 75)⟩])
                  (.cond (.t 76)
                   (.seq
                    (.draw [
                      ⟨some 77, none, .ld 3 true false (.t 3)⟩,
                      ⟨some 78, none, .ld 3 true false (.t 4)⟩,
                      ⟨none, none, .sto 3 (.t 6) (.t 77)⟩,
                      ⟨none, none, .sto 3 (.t 7) (.t 78)⟩,
                      ⟨some 8, none, .mv true (.c (.bool false))⟩] [(1, 2)])
                    .ret)
                   .skip))
                 (.region [
                   ⟨some 79, none, .mv true (.t 11)⟩,
                   ⟨some 10, none, .mv true (.t 79)⟩]))))
              .skip))
            (.seq
             (.region [
               ⟨some 81, none, .ld 3 true false (.t 3)⟩,
               ⟨some 82, none, .mv false (.t 10)⟩,
               ⟨some 83, none, .fad 3 (.t 5)⟩,
               ⟨some 84, none, .ld 1 false false (.t 83)⟩,
               ⟨some 85, none, .fad 4 (.t 5)⟩,
               ⟨some 86, none, .ld 1 false false (.t 85)⟩,
               ⟨some 87, none, .callF 13 [.t 81, .t 82, .t 84, .t 86] []⟩,
               ⟨some 80, none, .mv true (.t 87)⟩,
               ⟨some 88, none, .ext true (.t 80) 0⟩,
               ⟨some 89, none, .ext false (.t 80) 1⟩,
               ⟨some 90, none, .ext false (.t 80) 2⟩,
               ⟨some 15, none, .al [.int .i64 0, .int .i64 0, .lst 0 [] true]⟩,
               ⟨none, none, .sto 3 (.t 15) (.t 88)⟩,
               ⟨some 16, none, .mv true (.t 89)⟩,
               ⟨some 17, none, .mv true (.t 90)⟩])
             (.seq
              (.region [
                ⟨some 92, none, .ld 3 true false (.t 4)⟩,
                ⟨some 93, none, .mv false (.t 10)⟩,
                ⟨some 94, none, .fad 3 (.t 5)⟩,
                ⟨some 95, none, .ld 1 false false (.t 94)⟩,
                ⟨some 96, none, .fad 4 (.t 5)⟩,
                ⟨some 97, none, .ld 1 false false (.t 96)⟩,
                ⟨some 98, none, .callF 44 [.t 92, .t 93, .t 95, .t 97] []⟩,
                ⟨some 91, none, .mv true (.t 98)⟩,
                ⟨some 99, none, .ext true (.t 91) 0⟩,
                ⟨some 100, none, .ext false (.t 91) 1⟩,
                ⟨some 101, none, .ext false (.t 91) 2⟩,
                ⟨some 18, none, .al [.int .i64 0, .int .i64 0, .lst 0 [] true]⟩,
                ⟨none, none, .sto 3 (.t 18) (.t 99)⟩,
                ⟨some 19, none, .mv true (.t 100)⟩,
                ⟨some 20, none, .mv true (.t 101)⟩])
              (.seq
               (.region [
                 ⟨some 102, none, .mv false (.t 16)⟩,
                 ⟨some 103, none, .mv false (.t 19)⟩,
                 ⟨some 104, none, .bin .eql (.t 102) (.t 103)⟩,
                 ⟨some 105, none, .mv false (.t 104)⟩,
                 ⟨some 106, some (105, true), .mv false (.t 17)⟩,
                 ⟨some 107, some (105, true), .mv false (.t 20)⟩,
                 ⟨some 108, some (105, true), .bin .eql (.t 106) (.t 107)⟩,
                 ⟨some 109, none, .pick (.t 105) (.t 108) (.c (.bool false))⟩,
                 ⟨some 9, none, .mv true (.t 109)⟩])
               (.seq
                (.region [
                  ⟨some 110, none, .ld 3 true false (.t 15)⟩,
                  ⟨none, none, .sto 3 (.t 3) (.t 110)⟩])
                (.region [
                  ⟨some 111, none, .ld 3 true false (.t 18)⟩,
                  ⟨none, none, .sto 3 (.t 4) (.t 111)⟩])))))))
          (.seq
           (.region [
             ⟨some 113, none, .bin .eql (.t 42) (.c (.int .i64 2))⟩,
             ⟨some 112, none, .mv true (.t 113)⟩])
           (.cond (.t 112)
            (.seq
             (.region [
               ⟨some 115, none, .ld 3 true false (.t 3)⟩,
               ⟨some 116, none, .fad 1 (.t 5)⟩,
               ⟨some 117, none, .ld 1 false false (.t 116)⟩,
               ⟨some 118, none, .fad 2 (.t 5)⟩,
               ⟨some 119, none, .ld 1 false false (.t 118)⟩,
               ⟨some 120, none, .fad 4 (.t 5)⟩,
               ⟨some 121, none, .ld 1 false false (.t 120)⟩,
               ⟨some 122, none, .callF 26 [.t 115, .t 117, .t 119, .t 121] []⟩,
               ⟨some 114, none, .mv true (.t 122)⟩,
               ⟨some 123, none, .ext true (.t 114) 0⟩,
               ⟨some 124, none, .ext false (.t 114) 1⟩,
               ⟨some 21, none, .al [.int .i64 0, .int .i64 0, .lst 0 [] true]⟩,
               ⟨none, none, .sto 3 (.t 21) (.t 123)⟩,
               ⟨some 22, none, .mv true (.t 124)⟩])
             (.seq
              (.region [
                ⟨some 126, none, .ld 3 true false (.t 4)⟩,
                ⟨some 127, none, .fad 1 (.t 5)⟩,
                ⟨some 128, none, .ld 1 false false (.t 127)⟩,
                ⟨some 129, none, .fad 2 (.t 5)⟩,
                ⟨some 130, none, .ld 1 false false (.t 129)⟩,
                ⟨some 131, none, .fad 4 (.t 5)⟩,
                ⟨some 132, none, .ld 1 false false (.t 131)⟩,
                ⟨some 133, none, .callF 45 [.t 126, .t 128, .t 130, .t 132] []⟩,
                ⟨some 125, none, .mv true (.t 133)⟩,
                ⟨some 134, none, .ext true (.t 125) 0⟩,
                ⟨some 135, none, .ext false (.t 125) 1⟩,
                ⟨some 23, none, .al [.int .i64 0, .int .i64 0, .lst 0 [] true]⟩,
                ⟨none, none, .sto 3 (.t 23) (.t 134)⟩,
                ⟨some 24, none, .mv true (.t 135)⟩])
              (.seq
               (.region [
                 ⟨some 136, none, .mv false (.t 22)⟩,
                 ⟨some 137, none, .mv false (.t 24)⟩,
                 ⟨some 138, none, .binB false (.t 136) (.t 137)⟩,
                 ⟨some 9, none, .mv true (.t 138)⟩])
               (.seq
                (.region [
                  ⟨some 139, none, .ld 3 true false (.t 21)⟩,
                  ⟨none, none, .sto 3 (.t 3) (.t 139)⟩])
                (.region [
                  ⟨some 140, none, .ld 3 true false (.t 23)⟩,
                  ⟨none, none, .sto 3 (.t 4) (.t 140)⟩])))))
            (.seq
             (.region [
               ⟨some 142, none, .bin .eql (.t 42) (.c (.int .i64 3))⟩,
               ⟨some 141, none, .mv true (.t 142)⟩])
             (.cond (.t 141)
              (.seq
               (.region [
                 ⟨some 144, none, .ld 3 true false (.t 3)⟩,
                 ⟨some 145, none, .fad 1 (.t 5)⟩,
                 ⟨some 146, none, .ld 1 false false (.t 145)⟩,
                 ⟨some 147, none, .fad 2 (.t 5)⟩,
                 ⟨some 148, none, .ld 1 false false (.t 147)⟩,
                 ⟨some 149, none, .callF 23 [.t 144, .t 146, .t 148] []⟩,
                 ⟨some 143, none, .mv true (.t 149)⟩,
                 ⟨some 150, none, .ext true (.t 143) 0⟩,
                 ⟨some 151, none, .ext false (.t 143) 1⟩,
                 ⟨some 25, none, .al [.int .i64 0, .int .i64 0, .lst 0 [] true]⟩,
                 ⟨none, none, .sto 3 (.t 25) (.t 150)⟩,
                 ⟨some 26, none, .mv true (.t 151)⟩])
               (.seq
                (.region [
                  ⟨some 153, none, .ld 3 true false (.t 4)⟩,
                  ⟨some 154, none, .fad 1 (.t 5)⟩,
                  ⟨some 155, none, .ld 1 false false (.t 154)⟩,
                  ⟨some 156, none, .fad 2 (.t 5)⟩,
                  ⟨some 157, none, .ld 1 false false (.t 156)⟩,
                  ⟨some 158, none, .callF 46 [.t 153, .t 155, .t 157] []⟩,
                  ⟨some 152, none, .mv true (.t 158)⟩,
                  ⟨some 159, none, .ext true (.t 152) 0⟩,
                  ⟨some 160, none, .ext false (.t 152) 1⟩,
                  ⟨some 27, none, .al [.int .i64 0, .int .i64 0, .lst 0 [] true]⟩,
                  ⟨none, none, .sto 3 (.t 27) (.t 159)⟩,
                  ⟨some 28, none, .mv true (.t 160)⟩])
                (.seq
                 (.region [
                   ⟨some 161, none, .mv false (.t 26)⟩,
                   ⟨some 162, none, .mv false (.t 28)⟩,
                   ⟨some 163, none, .binB false (.t 161) (.t 162)⟩,
                   ⟨some 9, none, .mv true (.t 163)⟩])
                 (.seq
                  (.region [
                    ⟨some 164, none, .ld 3 true false (.t 25)⟩,
                    ⟨none, none, .sto 3 (.t 3) (.t 164)⟩])
                  (.region [
                    ⟨some 165, none, .ld 3 true false (.t 27)⟩,
                    ⟨none, none, .sto 3 (.t 4) (.t 165)⟩])))))
              (.seq
               (.region [
                 ⟨some 167, none, .bin .eql (.t 42) (.c (.int .i64 4))⟩,
                 ⟨some 166, none, .mv true (.t 167)⟩])
               (.cond (.t 166)
                (.seq
                 (.region [
                   ⟨some 169, none, .ld 3 true false (.t 3)⟩,
                   ⟨some 170, none, .fad 1 (.t 5)⟩,
                   ⟨some 171, none, .ld 1 false false (.t 170)⟩,
                   ⟨some 172, none, .fad 2 (.t 5)⟩,
                   ⟨some 173, none, .ld 1 false false (.t 172)⟩,
                   ⟨some 174, none, .callF 25 [.t 169, .t 171, .t 173] []⟩,
                   ⟨some 168, none, .mv true (.t 174)⟩,
                   ⟨some 175, none, .ext true (.t 168) 0⟩,
                   ⟨some 176, none, .ext false (.t 168) 1⟩,
                   ⟨some 29, none, .al [.int .i64 0, .int .i64 0, .lst 0 [] true]⟩,
                   ⟨none, none, .sto 3 (.t 29) (.t 175)⟩,
                   ⟨some 30, none, .mv true (.t 176)⟩])
                 (.seq
                  (.region [
                    ⟨some 178, none, .ld 3 true false (.t 4)⟩,
                    ⟨some 179, none, .fad 1 (.t 5)⟩,
                    ⟨some 180, none, .ld 1 false false (.t 179)⟩,
                    ⟨some 181, none, .fad 2 (.t 5)⟩,
                    ⟨some 182, none, .ld 1 false false (.t 181)⟩,
                    ⟨some 183, none, .callF 47 [.t 178, .t 180, .t 182] []⟩,
                    ⟨some 177, none, .mv true (.t 183)⟩,
                    ⟨some 184, none, .ext true (.t 177) 0⟩,
                    ⟨some 185, none, .ext false (.t 177) 1⟩,
                    ⟨some 31, none, .al [.int .i64 0, .int .i64 0, .lst 0 [] true]⟩,
                    ⟨none, none, .sto 3 (.t 31) (.t 184)⟩,
                    ⟨some 32, none, .mv true (.t 185)⟩])
                  (.seq
                   (.region [
                     ⟨some 186, none, .mv false (.t 30)⟩,
                     ⟨some 187, none, .mv false (.t 32)⟩,
                     ⟨some 188, none, .binB false (.t 186) (.t 187)⟩,
                     ⟨some 9, none, .mv true (.t 188)⟩])
                   (.seq
                    (.region [
                      ⟨some 189, none, .ld 3 true false (.t 29)⟩,
                      ⟨none, none, .sto 3 (.t 3) (.t 189)⟩])
                    (.region [
                      ⟨some 190, none, .ld 3 true false (.t 31)⟩,
                      ⟨none, none, .sto 3 (.t 4) (.t 190)⟩])))))
                (.seq
                 (.region [
                   ⟨some 192, none, .bin .eql (.t 42) (.c (.int .i64 5))⟩,
                   ⟨some 191, none, .mv true (.t 192)⟩])
                 (.cond (.t 191)
                  (.seq
                   (.region [
                     ⟨some 194, none, .ld 3 true false (.t 3)⟩,
                     ⟨some 195, none, .fad 4 (.t 5)⟩,
                     ⟨some 196, none, .ld 1 false false (.t 195)⟩,
                     ⟨some 197, none, .callF 48 [.t 194, .t 196] []⟩,
                     ⟨some 193, none, .mv true (.t 197)⟩,
                     ⟨some 198, none, .ext true (.t 193) 0⟩,
                     ⟨some 199, none, .ext false (.t 193) 1⟩,
                     ⟨some 33, none, .al [.int .i64 0, .int .i64 0, .lst 0 [] true]⟩,
                     ⟨none, none, .sto 3 (.t 33) (.t 198)⟩,
                     ⟨some 34, none, .mv true (.t 199)⟩])
                   (.seq
                    (.region [
                      ⟨some 201, none, .ld 3 true false (.t 4)⟩,
                      ⟨some 202, none, .fad 4 (.t 5)⟩,
                      ⟨some 203, none, .ld 1 false false (.t 202)⟩,
                      ⟨some 204, none, .callF 49 [.t 201, .t 203] []⟩,
                      ⟨some 200, none, .mv true (.t 204)⟩,
                      ⟨some 205, none, .ext true (.t 200) 0⟩,
                      ⟨some 206, none, .ext false (.t 200) 1⟩,
                      ⟨some 35, none, .al [.int .i64 0, .int .i64 0, .lst 0 [] true]⟩,
                      ⟨none, none, .sto 3 (.t 35) (.t 205)⟩,
                      ⟨some 36, none, .mv true (.t 206)⟩])
                    (.seq
                     (.region [
                       ⟨some 207, none, .mv false (.t 34)⟩,
                       ⟨some 208, none, .mv false (.t 36)⟩,
                       ⟨some 209, none, .bin .eql (.t 207) (.t 208)⟩,
                       ⟨some 9, none, .mv true (.t 209)⟩])
                     (.seq
                      (.region [
                        ⟨some 210, none, .ld 3 true false (.t 33)⟩,
                        ⟨none, none, .sto 3 (.t 3) (.t 210)⟩])
                      (.region [
                        ⟨some 211, none, .ld 3 true false (.t 35)⟩,
                        ⟨none, none, .sto 3 (.t 4) (.t 211)⟩])))))
                  (.seq
                   (.region [
                     ⟨some 213, none, .bin .eql (.t 42) (.c (.int .i64 6))⟩,
                     ⟨some 212, none, .mv true (.t 213)⟩])
                   (.cond (.t 212)
                    (.seq
                     (.region [
                       ⟨some 215, none, .ld 3 true false (.t 3)⟩,
                       ⟨some 216, none, .fad 1 (.t 5)⟩,
                       ⟨some 217, none, .ld 1 false false (.t 216)⟩,
                       ⟨some 218, none, .fad 2 (.t 5)⟩,
                       ⟨some 219, none, .ld 1 false false (.t 218)⟩,
                       ⟨some 220, none, .callF 27 [.t 215, .t 217, .t 219] []⟩,
                       ⟨some 214, none, .mv true (.t 220)⟩,
                       ⟨some 221, none, .ext true (.t 214) 0⟩,
                       ⟨some 222, none, .ext false (.t 214) 1⟩,
                       ⟨some 37, none, .al [.int .i64 0, .int .i64 0, .lst 0 [] true]⟩,
                       ⟨none, none, .sto 3 (.t 37) (.t 221)⟩,
                       ⟨some 38, none, .mv true (.t 222)⟩])
                     (.seq
                      (.region [
                        ⟨some 224, none, .ld 3 true false (.t 4)⟩,
                        ⟨some 225, none, .fad 1 (.t 5)⟩,
                        ⟨some 226, none, .ld 1 false false (.t 225)⟩,
                        ⟨some 227, none, .fad 2 (.t 5)⟩,
                        ⟨some 228, none, .ld 1 false false (.t 227)⟩,
                        ⟨some 229, none, .callF 50 [.t 224, .t 226, .t 228] []⟩,
                        ⟨some 223, none, .mv true (.t 229)⟩,
                        ⟨some 230, none, .ext true (.t 223) 0⟩,
                        ⟨some 231, none, .ext false (.t 223) 1⟩,
                        ⟨some 39, none, .al [.int .i64 0, .int .i64 0, .lst 0 [] true]⟩,
                        ⟨none, none, .sto 3 (.t 39) (.t 230)⟩,
                        ⟨some 40, none, .mv true (.t 231)⟩])
                      (.seq
                       (.region [
                         ⟨some 232, none, .mv false (.t 38)⟩,
                         ⟨some 233, none, .mv false (.t 40)⟩,
                         ⟨some 234, none, .binB false (.t 232) (.t 233)⟩,
                         ⟨some 9, none, .mv true (.t 234)⟩])
                       (.seq
                        (.region [
                          ⟨some 235, none, .ld 3 true false (.t 37)⟩,
                          ⟨none, none, .sto 3 (.t 3) (.t 235)⟩])
                        (.region [
                          ⟨some 236, none, .ld 3 true false (.t 39)⟩,
                          ⟨none, none, .sto 3 (.t 4) (.t 236)⟩])))))
                    .skip))))))))))))))
      (.seq
       (.draw [
         ⟨some 237, none, .ld 3 true false (.t 3)⟩,
         ⟨some 238, none, .ld 3 true false (.t 4)⟩,
         ⟨some 239, none, .mv false (.t 9)⟩,
         ⟨some 240, none, .mv false (.t 239)⟩,
         ⟨some 241, some (240, true), .ld 3 true false (.t 3)⟩,
         ⟨some 242, some (240, true), .callF 9 [.t 241] []⟩,
         ⟨some 243, some (240, true), .ld 3 true false (.t 4)⟩,
         ⟨some 244, some (240, true), .callF 17 [.t 242, .t 243] []⟩,
         ⟨some 245, none, .pick (.t 240) (.t 244) (.c (.bool false))⟩,
         ⟨none, none, .sto 3 (.t 6) (.t 237)⟩,
         ⟨none, none, .sto 3 (.t 7) (.t 238)⟩,
         ⟨some 8, none, .mv true (.t 245)⟩] [(1, 9)])
       .ret)))⟩
theorem t18 : compF Try.prog { ros := [5] } 18 = some p18 := by kernel_rfl
def p19 : PFn :=
  ⟨13, [.t 2, .t 3], .seq
    (.region [
      ⟨some 1, none, .bxI 3 (.t 0)⟩,
      ⟨some 2, none, .mv true (.c (.int .i64 0))⟩,
      ⟨some 3, none, .mv true (.c (.bool false))⟩])
    (.seq
     (.region [
       ⟨some 5, none, .fad 2 (.t 1)⟩,
       ⟨some 6, none, .ld 1 false false (.t 5)⟩,
       ⟨some 7, none, .mkf (.func 51) [] [.t 1]⟩,
       ⟨some 8, none, .callF 32 [.t 6, .t 7] []⟩,
       ⟨some 4, none, .mv true (.t 8)⟩])
     (.seq
      (.region [
        ⟨some 9, none, .mv false (.t 4)⟩,
        ⟨some 10, none, .mm true (.t 9) (.c (.int .i64 0))⟩,
        ⟨some 11, none, .mv false (.t 4)⟩,
        ⟨some 12, none, .bin .geq (.t 11) (.c (.int .i64 0))⟩,
        ⟨some 2, none, .mv true (.t 10)⟩,
        ⟨some 3, none, .mv true (.t 12)⟩])
      .ret))⟩
theorem t19 : compF Try.prog { ros := [1] } 19 = some p19 := by kernel_rfl
def p20 : PFn :=
  ⟨22, [.t 2, .t 3], .seq
    (.region [
      ⟨some 1, none, .bxI 3 (.t 0)⟩,
      ⟨some 2, none, .mv true (.c (.int .i64 0))⟩,
      ⟨some 3, none, .mv true (.c (.bool false))⟩])
    (.seq
     (.seq
      (.region [
        ⟨some 4, none, .mv true (.c (.int .i64 0))⟩])
      (.block 0
       (.loop
        (.seq
         (.seq
          (.region [
            ⟨some 5, none, .mv false (.t 4)⟩,
            ⟨some 6, none, .fad 2 (.t 1)⟩,
            ⟨some 7, none, .ld 1 false false (.t 6)⟩,
            ⟨some 8, none, .len false (.t 7)⟩,
            ⟨some 9, none, .bin .lss (.t 5) (.t 8)⟩])
          (.cond (.t 9)
           .skip
           (.exit 0)))
         (.seq
          (.block 1
           (.seq
            (.draw [
              ⟨some 12, none, .fad 2 (.t 1)⟩,
              ⟨some 13, none, .ld 1 false false (.t 12)⟩,
              ⟨some 14, none, .mv false (.t 4)⟩,
              ⟨some 15, none, .iad 3 (.t 13) (.t 14)⟩,
              ⟨some 16, none, .fad 2 (.t 15)⟩,
              ⟨some 17, none, .ld 1 false false (.t 16)⟩,
              ⟨some 18, none, .fad 0 (.t 1)⟩,
              ⟨some 19, none, .ld 1 false false (.t 18)⟩,
              ⟨some 20, none, .bin .geq (.t 17) (.t 19)⟩] [])
            (.cond (.t 20)
             (.seq
              (.region [
                ⟨some 21, none, .mv true (.t 4)⟩,
                ⟨some 2, none, .mv true (.t 21)⟩,
                ⟨some 3, none, .mv true (.c (.bool true))⟩])
              .ret)
             .skip)))
          (.region [
            ⟨some 10, none, .mv false (.t 4)⟩,
            ⟨some 11, none, .bin .add (.t 10) (.c (.int .i64 1))⟩,
            ⟨some 4, none, .mv true (.t 11)⟩]))))))
     (.seq
      (.region [
        ⟨some 2, none, .mv true (.c (.int .i64 0))⟩,
        ⟨some 3, none, .mv true (.c (.bool false))⟩])
      .ret))⟩
theorem t20 : compF Try.prog { ros := [1] } 20 = some p20 := by kernel_rfl
def p21 : PFn :=
  ⟨7, [.t 2], .seq
    (.region [
      ⟨some 1, none, .bxI 3 (.t 0)⟩,
      ⟨some 2, none, .mv true (.c (.bool false))⟩])
    (.seq
     (.region [
       ⟨some 3, none, .fad 2 (.t 1)⟩,
       ⟨some 4, none, .ld 1 false false (.t 3)⟩,
       ⟨some 5, none, .callF 41 [.t 4, .c (.fn (.func 52) [] [])] []⟩,
       ⟨some 6, none, .un .not (.t 5)⟩,
       ⟨some 2, none, .mv true (.t 6)⟩])
     .ret)⟩
theorem t21 : compF Try.prog { ros := [1] } 21 = some p21 := by kernel_rfl
def p22 : PFn :=
  ⟨18, [.t 2], .seq
    (.region [
      ⟨some 1, none, .bxI 3 (.t 0)⟩,
      ⟨some 2, none, .mv true (.c (.bool false))⟩])
    (.seq
     (.seq
      (.region [
        ⟨some 3, none, .mv true (.c (.int .i64 0))⟩])
      (.block 0
       (.loop
        (.seq
         (.seq
          (.region [
            ⟨some 4, none, .mv false (.t 3)⟩,
            ⟨some 5, none, .fad 2 (.t 1)⟩,
            ⟨some 6, none, .ld 1 false false (.t 5)⟩,
            ⟨some 7, none, .len false (.t 6)⟩,
            ⟨some 8, none, .bin .lss (.t 4) (.t 7)⟩])
          (.cond (.t 8)
           .skip
           (.exit 0)))
         (.seq
          (.block 1
           (.seq
            (.region [
              ⟨some 11, none, .fad 2 (.t 1)⟩,
              ⟨some 12, none, .ld 1 false false (.t 11)⟩,
              ⟨some 13, none, .mv false (.t 3)⟩,
              ⟨some 14, none, .iad 3 (.t 12) (.t 13)⟩,
              ⟨some 15, none, .fad 1 (.t 14)⟩,
              ⟨some 16, none, .ld 1 false false (.t 15)⟩,
              ⟨some 17, none, .bin .lss (.t 16) (.c (.int .i64 0))⟩])
            (.cond (.t 17)
             (.seq
              (.region [
                ⟨some 2, none, .mv true (.c (.bool false))⟩])
              .ret)
             .skip)))
          (.region [
            ⟨some 9, none, .mv false (.t 3)⟩,
            ⟨some 10, none, .bin .add (.t 9) (.c (.int .i64 1))⟩,
            ⟨some 3, none, .mv true (.t 10)⟩]))))))
     (.seq
      (.region [
        ⟨some 2, none, .mv true (.c (.bool true))⟩])
      .ret))⟩
theorem t22 : compF Try.prog { ros := [1] } 22 = some p22 := by kernel_rfl
def p23 : PFn :=
  ⟨18, [.c 6 3 true, .t 7], .seq
    (.region [
      ⟨some 3, none, .bxI 3 (.t 0)⟩,
      ⟨some 5, none, .bxI 1 (.t 2)⟩,
      ⟨some 6, none, .al [.int .i64 0, .int .i64 0, .lst 0 [] true]⟩,
      ⟨some 7, none, .mv true (.c (.bool false))⟩])
    (.seq
     (.seq
      (.region [
        ⟨some 8, none, .ld 3 true false (.t 3)⟩,
        ⟨some 9, none, .mv false (.t 1)⟩,
        ⟨some 10, none, .ld 1 false false (.t 5)⟩,
        ⟨some 11, none, .callF 53 [.t 8, .t 9, .t 10] []⟩,
        ⟨some 12, none, .un .not (.t 11)⟩])
      (.cond (.t 12)
       (.seq
        (.region [
          ⟨some 13, none, .ld 3 true false (.t 3)⟩,
          ⟨none, none, .sto 3 (.t 6) (.t 13)⟩,
          ⟨some 7, none, .mv true (.c (.bool false))⟩])
        .ret)
       .skip))
     (.seq
      (.region [
        ⟨some 14, none, .ld 3 true false (.t 3)⟩,
        ⟨some 15, none, .mv false (.t 1)⟩,
        ⟨some 16, none, .mkf (.func 54) [] [.t 5]⟩,
        ⟨some 17, none, .callF 36 [.t 14, .t 15, .t 16] []⟩,
        ⟨none, none, .sto 3 (.t 6) (.t 17)⟩,
        ⟨some 7, none, .mv true (.c (.bool true))⟩])
      .ret))⟩
theorem t23 : compF Try.prog { ros := [3, 5] } 23 = some p23 := by kernel_rfl
def p24 : PFn :=
  ⟨24, [.t 4], .seq
    (.region [
      ⟨some 2, none, .bxI 3 (.t 0)⟩,
      ⟨some 3, none, .bxI 3 (.t 1)⟩,
      ⟨some 4, none, .mv true (.c (.bool false))⟩])
    (.seq
     (.region [
       ⟨some 5, none, .fad 0 (.t 2)⟩,
       ⟨some 6, none, .ld 1 false false (.t 5)⟩,
       ⟨some 7, none, .fad 0 (.t 3)⟩,
       ⟨some 8, none, .ld 1 false false (.t 7)⟩,
       ⟨some 9, none, .bin .eql (.t 6) (.t 8)⟩,
       ⟨some 10, none, .mv false (.t 9)⟩,
       ⟨some 11, some (10, true), .fad 1 (.t 2)⟩,
       ⟨some 12, some (10, true), .ld 1 false false (.t 11)⟩,
       ⟨some 13, some (10, true), .fad 1 (.t 3)⟩,
       ⟨some 14, some (10, true), .ld 1 false false (.t 13)⟩,
       ⟨some 15, some (10, true), .bin .eql (.t 12) (.t 14)⟩,
       ⟨some 16, none, .pick (.t 10) (.t 15) (.c (.bool false))⟩,
       ⟨some 17, none, .mv false (.t 16)⟩,
       ⟨some 18, some (17, true), .fad 2 (.t 2)⟩,
       ⟨some 19, some (17, true), .ld 1 false false (.t 18)⟩,
       ⟨some 20, some (17, true), .fad 2 (.t 3)⟩,
       ⟨some 21, some (17, true), .ld 1 false false (.t 20)⟩,
       ⟨some 22, some (17, true), .callF 55 [.t 19, .t 21, .c (.fn (.func 56) [] [])] []⟩,
       ⟨some 23, none, .pick (.t 17) (.t 22) (.c (.bool false))⟩,
       ⟨some 4, none, .mv true (.t 23)⟩])
     .ret)⟩
theorem t24 : compF Try.prog { ros := [2, 3] } 24 = some p24 := by kernel_rfl
def p25 : PFn :=
  ⟨18, [.c 6 3 true, .t 7], .seq
    (.region [
      ⟨some 3, none, .bxI 3 (.t 0)⟩,
      ⟨some 5, none, .bxI 1 (.t 2)⟩,
      ⟨some 6, none, .al [.int .i64 0, .int .i64 0, .lst 0 [] true]⟩,
      ⟨some 7, none, .mv true (.c (.bool false))⟩])
    (.seq
     (.seq
      (.region [
        ⟨some 8, none, .ld 3 true false (.t 3)⟩,
        ⟨some 9, none, .mv false (.t 1)⟩,
        ⟨some 10, none, .ld 1 false false (.t 5)⟩,
        ⟨some 11, none, .callF 53 [.t 8, .t 9, .t 10] []⟩,
        ⟨some 12, none, .un .not (.t 11)⟩])
      (.cond (.t 12)
       (.seq
        (.region [
          ⟨some 13, none, .ld 3 true false (.t 3)⟩,
          ⟨none, none, .sto 3 (.t 6) (.t 13)⟩,
          ⟨some 7, none, .mv true (.c (.bool false))⟩])
        .ret)
       .skip))
     (.seq
      (.region [
        ⟨some 14, none, .ld 3 true false (.t 3)⟩,
        ⟨some 15, none, .mv false (.t 1)⟩,
        ⟨some 16, none, .mkf (.func 58) [] [.t 5]⟩,
        ⟨some 17, none, .callF 36 [.t 14, .t 15, .t 16] []⟩,
        ⟨none, none, .sto 3 (.t 6) (.t 17)⟩,
        ⟨some 7, none, .mv true (.c (.bool true))⟩])
      .ret))⟩
theorem t25 : compF Try.prog { ros := [3, 5] } 25 = some p25 := by kernel_rfl
def p26 : PFn :=
  ⟨20, [.c 8 3 true, .t 9], .seq
    (.region [
      ⟨some 4, none, .bxI 3 (.t 0)⟩,
      ⟨some 6, none, .bxI 1 (.t 2)⟩,
      ⟨some 7, none, .bxI 1 (.t 3)⟩,
      ⟨some 8, none, .al [.int .i64 0, .int .i64 0, .lst 0 [] true]⟩,
      ⟨some 9, none, .mv true (.c (.bool false))⟩])
    (.seq
     (.seq
      (.region [
        ⟨some 10, none, .ld 3 true false (.t 4)⟩,
        ⟨some 11, none, .mv false (.t 1)⟩,
        ⟨some 12, none, .ld 1 false false (.t 6)⟩,
        ⟨some 13, none, .callF 53 [.t 10, .t 11, .t 12] []⟩,
        ⟨some 14, none, .un .not (.t 13)⟩])
      (.cond (.t 14)
       (.seq
        (.region [
          ⟨some 15, none, .ld 3 true false (.t 4)⟩,
          ⟨none, none, .sto 3 (.t 8) (.t 15)⟩,
          ⟨some 9, none, .mv true (.c (.bool false))⟩])
        .ret)
       .skip))
     (.seq
      (.region [
        ⟨some 16, none, .ld 3 true false (.t 4)⟩,
        ⟨some 17, none, .mv false (.t 1)⟩,
        ⟨some 18, none, .mkf (.func 59) [] [.t 7, .t 6]⟩,
        ⟨some 19, none, .callF 36 [.t 16, .t 17, .t 18] []⟩,
        ⟨none, none, .sto 3 (.t 8) (.t 19)⟩,
        ⟨some 9, none, .mv true (.c (.bool true))⟩])
      .ret))⟩
theorem t26 : compF Try.prog { ros := [4, 6, 7] } 26 = some p26 := by kernel_rfl
def p27 : PFn :=
  ⟨30, [.c 6 3 true, .t 7], .seq
    (.region [
      ⟨some 3, none, .bxI 3 (.t 0)⟩,
      ⟨some 6, none, .al [.int .i64 0, .int .i64 0, .lst 0 [] true]⟩,
      ⟨some 7, none, .mv true (.c (.bool false))⟩])
    (.seq
     (.seq
      (.region [
        ⟨some 8, none, .ld 3 true false (.t 3)⟩,
        ⟨some 9, none, .mv false (.t 1)⟩,
        ⟨some 10, none, .callF 33 [.t 8, .t 9] []⟩,
        ⟨some 11, none, .un .not (.t 10)⟩,
        ⟨some 12, none, .mv false (.t 11)⟩,
        ⟨some 13, some (12, false), .mv false (.t 2)⟩,
        ⟨some 14, some (12, false), .bin .lss (.t 13) (.c (.int .i64 0))⟩,
        ⟨some 15, none, .pick (.t 12) (.c (.bool true)) (.t 14)⟩,
        ⟨some 16, none, .mv false (.t 15)⟩,
        ⟨some 17, some (16, false), .fad 2 (.t 3)⟩,
        ⟨some 18, some (16, false), .ld 1 false false (.t 17)⟩,
        ⟨some 19, some (16, false), .mv false (.t 1)⟩,
        ⟨some 20, some (16, false), .iad 3 (.t 18) (.t 19)⟩,
        ⟨some 21, some (16, false), .fad 1 (.t 20)⟩,
        ⟨some 22, some (16, false), .ld 1 false false (.t 21)⟩,
        ⟨some 23, some (16, false), .mv false (.t 2)⟩,
        ⟨some 24, some (16, false), .bin .neq (.t 22) (.t 23)⟩,
        ⟨some 25, none, .pick (.t 16) (.c (.bool true)) (.t 24)⟩])
      (.cond (.t 25)
       (.seq
        (.region [
          ⟨some 26, none, .ld 3 true false (.t 3)⟩,
          ⟨none, none, .sto 3 (.t 6) (.t 26)⟩,
          ⟨some 7, none, .mv true (.c (.bool false))⟩])
        .ret)
       .skip))
     (.seq
      (.region [
        ⟨some 27, none, .ld 3 true false (.t 3)⟩,
        ⟨some 28, none, .mv false (.t 1)⟩,
        ⟨some 29, none, .callF 36 [.t 27, .t 28, .c (.fn (.func 60) [] [])] []⟩,
        ⟨none, none, .sto 3 (.t 6) (.t 29)⟩,
        ⟨some 7, none, .mv true (.c (.bool true))⟩])
      .ret))⟩
theorem t27 : compF Try.prog { ros := [3] } 27 = some p27 := by kernel_rfl
def p28 : PFn :=
  ⟨24, [.t 2], .seq
    (.region [
      ⟨some 1, none, .bxI 3 (.t 0)⟩,
      ⟨some 2, none, .mv true (.c (.lst 0 [] true))⟩])
    (.seq
     (.region [
       ⟨some 5, none, .bsl 1 0 false [] [] false⟩,
       ⟨some 3, none, .mv true (.t 5)⟩])
     (.seq
      (.seq
       (.region [
         ⟨some 4, none, .mv true (.c (.int .i64 0))⟩])
       (.block 0
        (.loop
         (.seq
          (.seq
           (.region [
             ⟨some 6, none, .mv false (.t 4)⟩,
             ⟨some 7, none, .fad 0 (.t 1)⟩,
             ⟨some 8, none, .ld 1 false false (.t 7)⟩,
             ⟨some 9, none, .len false (.t 8)⟩,
             ⟨some 10, none, .bin .lss (.t 6) (.t 9)⟩])
           (.cond (.t 10)
            .skip
            (.exit 0)))
          (.seq
           (.block 1
            (.seq
             (.region [
               ⟨some 13, none, .fad 0 (.t 1)⟩,
               ⟨some 14, none, .ld 1 false false (.t 13)⟩,
               ⟨some 15, none, .mv false (.t 4)⟩,
               ⟨some 16, none, .iad 3 (.t 14) (.t 15)⟩,
               ⟨some 17, none, .fad 2 (.t 16)⟩,
               ⟨some 18, none, .ld 1 false false (.t 17)⟩])
             (.cond (.t 18)
              (.region [
                ⟨some 19, none, .mv true (.t 3)⟩,
                ⟨some 20, none, .mv false (.t 4)⟩,
                ⟨some 21, none, .bsl 1 1 false [.int .i64 0] [(0, .t 20)] false⟩,
                ⟨some 22, none, .app 1 8 (.t 19) (.t 21)⟩,
                ⟨some 3, none, .mv true (.t 22)⟩])
              .skip)))
           (.region [
             ⟨some 11, none, .mv false (.t 4)⟩,
             ⟨some 12, none, .bin .add (.t 11) (.c (.int .i64 1))⟩,
             ⟨some 4, none, .mv true (.t 12)⟩]))))))
      (.seq
       (.region [
         ⟨some 23, none, .mv true (.t 3)⟩,
         ⟨some 2, none, .mv true (.t 23)⟩])
       .ret)))⟩
theorem t28 : compF Try.prog { ros := [1] } 28 = some p28 := by kernel_rfl
def p29 : PFn :=
  ⟨18, [.t 2], .seq
    (.region [
      ⟨some 1, none, .bxI 3 (.t 0)⟩,
      ⟨some 2, none, .mv true (.c (.bool false))⟩])
    (.seq
     (.region [
       ⟨some 3, none, .fad 1 (.t 1)⟩,
       ⟨some 4, none, .ld 1 false false (.t 3)⟩,
       ⟨some 5, none, .bin .eql (.t 4) (.c (.int .i64 (-1)))⟩,
       ⟨some 6, none, .mv false (.t 5)⟩,
       ⟨some 7, some (6, true), .fad 0 (.t 1)⟩,
       ⟨some 8, some (6, true), .ld 1 false false (.t 7)⟩,
       ⟨some 9, some (6, true), .len false (.t 8)⟩,
       ⟨some 10, some (6, true), .bin .lss (.t 9) (.c (.int .i64 500))⟩,
       ⟨some 11, none, .pick (.t 6) (.t 10) (.c (.bool false))⟩,
       ⟨some 12, none, .mv false (.t 11)⟩,
       ⟨some 13, some (12, true), .ld 3 true false (.t 1)⟩,
       ⟨some 14, some (12, true), .callF 30 [.t 13] []⟩,
       ⟨some 15, some (12, true), .len false (.t 14)⟩,
       ⟨some 16, some (12, true), .bin .eql (.t 15) (.c (.int .i64 0))⟩,
       ⟨some 17, none, .pick (.t 12) (.t 16) (.c (.bool false))⟩,
       ⟨some 2, none, .mv true (.t 17)⟩])
     .ret)⟩
theorem t29 : compF Try.prog { ros := [1] } 29 = some p29 := by kernel_rfl
def p30 : PFn :=
  ⟨21, [.t 2], .seq
    (.region [
      ⟨some 1, none, .bxI 3 (.t 0)⟩,
      ⟨some 2, none, .mv true (.c (.lst 0 [] true))⟩])
    (.seq
     (.region [
       ⟨some 3, none, .mv true (.c (.lst 0 [] true))⟩])
     (.seq
      (.seq
       (.region [
         ⟨some 6, none, .fad 0 (.t 1)⟩,
         ⟨some 7, none, .ld 1 false false (.t 6)⟩,
         ⟨some 8, none, .len false (.t 7)⟩,
         ⟨some 9, none, .mv false (.c (.int .i64 0))⟩])
       (.block 0
        (.loop
         (.seq
          (.region [
            ⟨some 10, none, .bin .lss (.t 9) (.t 8)⟩])
          (.seq
           (.cond (.t 10)
            .skip
            (.exit 0))
           (.seq
            (.block 1
             (.seq
              (.region [
                ⟨some 11, none, .iad 3 (.t 7) (.t 9)⟩,
                ⟨some 12, none, .ld 3 true false (.t 11)⟩,
                ⟨some 5, none, .al [.int .i64 0, .int .i64 0, .bool false]⟩,
                ⟨none, none, .sto 3 (.t 5) (.t 12)⟩])
              (.seq
               (.region [
                 ⟨some 13, none, .fad 2 (.t 5)⟩,
                 ⟨some 14, none, .ld 1 false false (.t 13)⟩])
               (.cond (.t 14)
                (.region [
                  ⟨some 15, none, .mv true (.t 3)⟩,
                  ⟨some 16, none, .ld 3 true false (.t 5)⟩,
                  ⟨some 17, none, .bsl 3 1 true [.int .i64 0, .int .i64 0, .bool false] [(0, .t 16)] false⟩,
                  ⟨some 18, none, .app 3 24 (.t 15) (.t 17)⟩,
                  ⟨some 3, none, .mv true (.t 18)⟩])
                .skip))))
            (.region [
              ⟨some 19, none, .bin .add (.t 9) (.c (.int .i64 1))⟩,
              ⟨some 9, none, .mv false (.t 19)⟩])))))))
      (.seq
       (.region [
         ⟨some 20, none, .mv true (.t 3)⟩,
         ⟨some 2, none, .mv true (.t 20)⟩])
       .ret)))⟩
theorem t30 : compF Try.prog { ros := [1] } 30 = some p30 := by kernel_rfl
def p31 : PFn :=
  ⟨43, [.t 5], .seq
    (.region [
      ⟨some 4, none, .bxI 3 (.t 0)⟩,
      ⟨some 5, none, .mv true (.c (.bool false))⟩])
    (.seq
     (.region [
       ⟨some 7, none, .ld 3 true false (.t 4)⟩,
       ⟨some 8, none, .callF 30 [.t 7] []⟩,
       ⟨some 6, none, .mv true (.t 8)⟩])
     (.seq
      (.draw [
        ⟨some 9, none, .fad 1 (.t 4)⟩,
        ⟨some 10, none, .ld 1 false false (.t 9)⟩,
        ⟨some 11, none, .bin .eql (.t 10) (.c (.int .i64 (-1)))⟩,
        ⟨some 12, none, .mv false (.t 11)⟩,
        ⟨some 13, some (12, true), .fad 0 (.t 4)⟩,
        ⟨some 14, some (12, true), .ld 1 false false (.t 13)⟩,
        ⟨some 15, some (12, true), .len false (.t 14)⟩,
        ⟨some 16, some (12, true), .bin .lss (.t 15) (.c (.int .i64 500))⟩,
        ⟨some 17, none, .pick (.t 12) (.t 16) (.c (.bool false))⟩,
        ⟨some 18, none, .mv false (.t 17)⟩,
        ⟨some 19, some (18, true), .mv false (.t 6)⟩,
        ⟨some 20, some (18, true), .len false (.t 19)⟩,
        ⟨some 21, some (18, true), .bin .eql (.t 20) (.c (.int .i64 1))⟩,
        ⟨some 22, none, .pick (.t 18) (.t 21) (.c (.bool false))⟩,
        ⟨some 23, none, .mv false (.t 22)⟩,
        ⟨some 24, some (23, true), .mv false (.t 6)⟩,
        ⟨some 25, some (23, true), .iad 3 (.t 24) (.c (.int .i64 0))⟩,
        ⟨some 26, some (23, true), .fad 0 (.t 25)⟩,
        ⟨some 27, some (23, true), .ld 1 false false (.t 26)⟩,
        ⟨some 28, some (23, true), .ld 1 false false (.t 1)⟩,
        ⟨some 29, some (23, true), .bin .neq (.t 27) (.t 28)⟩,
        ⟨some 30, none, .pick (.t 23) (.t 29) (.c (.bool false))⟩,
        ⟨some 31, none, .mv false (.t 30)⟩,
        ⟨some 32, some (31, true), .ld 1 false false (.t 2)⟩,
        ⟨some 33, some (31, true), .mv false (.t 6)⟩,
        ⟨some 34, some (31, true), .iad 3 (.t 33) (.c (.int .i64 0))⟩,
        ⟨some 35, some (31, true), .fad 1 (.t 34)⟩,
        ⟨some 36, some (31, true), .ld 1 false false (.t 35)⟩,
        ⟨some 37, some (31, true), .bin .sub (.t 32) (.t 36)⟩,
        ⟨some 38, some (31, true), .bin .mul (.c (.int .i64 2)) (.t 37)⟩,
        ⟨some 39, some (31, true), .fad 1 (.t 3)⟩,
        ⟨some 40, some (31, true), .ld 1 false false (.t 39)⟩,
        ⟨some 41, some (31, true), .bin .geq (.t 38) (.t 40)⟩,
        ⟨some 42, none, .pick (.t 31) (.t 41) (.c (.bool false))⟩,
        ⟨some 5, none, .mv true (.t 42)⟩] [])
      .ret))⟩
theorem t31 : compF Try.prog { ros := [4] } 31 = some p31 := by kernel_rfl
def p32 : PFn :=
  ⟨19, [.t 4], .seq
    (.region [
      ⟨some 4, none, .mv true (.c (.int .i64 0))⟩])
    (.seq
     (.seq
      (.region [
        ⟨some 6, none, .mv false (.t 0)⟩,
        ⟨some 7, none, .len false (.t 6)⟩,
        ⟨some 8, none, .mv false (.c (.int .i64 0))⟩])
      (.block 0
       (.loop
        (.seq
         (.region [
           ⟨some 9, none, .bin .lss (.t 8) (.t 7)⟩])
         (.seq
          (.cond (.t 9)
           .skip
           (.exit 0))
          (.seq
           (.block 1
            (.seq
             (.region [
               ⟨some 10, none, .mv true (.t 8)⟩,
               ⟨some 5, none, .mv true (.t 10)⟩])
             (.seq
              (.region [
                ⟨some 11, none, .mv false (.t 1)⟩,
                ⟨some 12, none, .mv false (.t 0)⟩,
                ⟨some 13, none, .mv false (.t 5)⟩,
                ⟨some 14, none, .iad 3 (.t 12) (.t 13)⟩,
                ⟨some 15, none, .ld 3 true false (.t 14)⟩,
                ⟨some 16, none, .callV (.t 11) [.t 15]⟩])
              (.cond (.t 16)
               (.seq
                (.region [
                  ⟨some 17, none, .mv true (.t 5)⟩,
                  ⟨some 4, none, .mv true (.t 17)⟩])
                .ret)
               .skip))))
           (.region [
             ⟨some 18, none, .bin .add (.t 8) (.c (.int .i64 1))⟩,
             ⟨some 8, none, .mv false (.t 18)⟩])))))))
     (.seq
      (.region [
        ⟨some 4, none, .mv true (.c (.int .i64 (-1)))⟩])
      .ret))⟩
theorem t32 : compF Try.prog {} 32 = some p32 := by kernel_rfl
def p33 : PFn :=
  ⟨11, [.t 4], .seq
    (.region [
      ⟨some 2, none, .bxI 3 (.t 0)⟩,
      ⟨some 4, none, .mv true (.c (.bool false))⟩])
    (.seq
     (.region [
       ⟨some 5, none, .mv false (.t 1)⟩,
       ⟨some 6, none, .fad 2 (.t 2)⟩,
       ⟨some 7, none, .ld 1 false false (.t 6)⟩,
       ⟨some 8, none, .len false (.t 7)⟩,
       ⟨some 9, none, .bin .sub (.t 8) (.c (.int .i64 1))⟩,
       ⟨some 10, none, .callF 40 [.t 5, .c (.int .i64 0), .t 9] []⟩,
       ⟨some 4, none, .mv true (.t 10)⟩])
     .ret)⟩
theorem t33 : compF Try.prog { ros := [2] } 33 = some p33 := by kernel_rfl
def p34 : PFn :=
  ⟨9, [.t 4], .seq
    (.region [
      ⟨some 4, none, .mv true (.c (.bool false))⟩])
    (.seq
     (.region [
       ⟨some 5, none, .mv false (.t 0)⟩,
       ⟨some 6, none, .mv false (.t 1)⟩,
       ⟨some 7, none, .callF 61 [.t 5, .t 6] []⟩,
       ⟨some 8, none, .bin .geq (.t 7) (.c (.int .i64 0))⟩,
       ⟨some 4, none, .mv true (.t 8)⟩])
     .ret)⟩
theorem t34 : compF Try.prog {} 34 = some p34 := by kernel_rfl
def p35 : PFn :=
  ⟨8, [.t 3], .seq
    (.region [
      ⟨some 2, none, .bxI 3 (.t 0)⟩,
      ⟨some 3, none, .mv true (.c (.bool false))⟩])
    (.seq
     (.region [
       ⟨some 4, none, .fad 0 (.t 2)⟩,
       ⟨some 5, none, .ld 1 false false (.t 4)⟩,
       ⟨some 6, none, .ld 1 false false (.t 1)⟩,
       ⟨some 7, none, .bin .eql (.t 5) (.t 6)⟩,
       ⟨some 3, none, .mv true (.t 7)⟩])
     .ret)⟩
theorem t35 : compF Try.prog { ros := [2] } 35 = some p35 := by kernel_rfl
def p36 : PFn :=
  ⟨28, [.c 6 3 true], .seq
    (.region [
      ⟨some 3, none, .bx 3 (.t 0)⟩,
      ⟨some 6, none, .al [.int .i64 0, .int .i64 0, .lst 0 [] true]⟩])
    (.seq
     (.region [
       ⟨some 8, none, .fad 2 (.t 3)⟩,
       ⟨some 9, none, .ld 1 false false (.t 8)⟩,
       ⟨some 10, none, .callF 62 [.t 9] []⟩,
       ⟨some 11, none, .fad 2 (.t 3)⟩,
       ⟨none, none, .sto 1 (.t 11) (.t 10)⟩])
     (.seq
      (.region [
        ⟨some 12, none, .fad 2 (.t 3)⟩,
        ⟨some 13, none, .ld 1 false false (.t 12)⟩,
        ⟨some 14, none, .mv false (.t 1)⟩,
        ⟨some 15, none, .iad 3 (.t 13) (.t 14)⟩,
        ⟨some 7, none, .mv true (.t 15)⟩])
      (.seq
       (.region [
         ⟨some 16, none, .mv false (.t 7)⟩,
         ⟨some 17, none, .mv false (.t 7)⟩,
         ⟨some 18, none, .nck (.t 17)⟩,
         ⟨some 19, none, .fad 0 (.t 18)⟩,
         ⟨some 20, none, .ld 1 false false (.t 19)⟩,
         ⟨some 21, none, .callF 63 [.t 20] []⟩,
         ⟨some 22, none, .nck (.t 16)⟩,
         ⟨some 23, none, .fad 0 (.t 22)⟩,
         ⟨none, none, .sto 1 (.t 23) (.t 21)⟩])
       (.seq
        (.region [
          ⟨some 24, none, .mv false (.t 2)⟩,
          ⟨some 25, none, .mv false (.t 7)⟩,
          ⟨some 26, none, .callV (.t 24) [.t 25]⟩])
        (.seq
         (.region [
           ⟨some 27, none, .ld 3 true false (.t 3)⟩,
           ⟨none, none, .sto 3 (.t 6) (.t 27)⟩])
         .ret)))))⟩
theorem t36 : compF Try.prog {} 36 = some p36 := by kernel_rfl
def p37 : PFn :=
  ⟨16, [], .draw [
     ⟨some 4, none, .mv false (.t 0)⟩,
     ⟨some 5, none, .mv false (.t 0)⟩,
     ⟨some 6, none, .nck (.t 5)⟩,
     ⟨some 7, none, .fad 0 (.t 6)⟩,
     ⟨some 8, none, .ld 1 false false (.t 7)⟩,
     ⟨some 9, none, .ld 1 false false (.t 1)⟩,
     ⟨some 10, none, .ld 1 false false (.t 2)⟩,
     ⟨some 11, none, .build [.int .i64 0, .int .i64 0, .bool false] [(0, (1, .t 9)), (1, (1, .t 10)), (2, (1, .c (.bool true)))]⟩,
     ⟨some 12, none, .bsl 3 1 true [.int .i64 0, .int .i64 0, .bool false] [(0, .t 11)] false⟩,
     ⟨some 13, none, .app 3 24 (.t 8) (.t 12)⟩,
     ⟨some 14, none, .nck (.t 4)⟩,
     ⟨some 15, none, .fad 0 (.t 14)⟩,
     ⟨none, none, .sto 1 (.t 15) (.t 13)⟩] []⟩
theorem t37 : compF Try.prog {} 37 = some p37 := by kernel_rfl
def p38 : PFn :=
  ⟨6, [.t 2], .seq
    (.region [
      ⟨some 1, none, .bxI 3 (.t 0)⟩,
      ⟨some 2, none, .mv true (.c (.bool false))⟩])
    (.seq
     (.region [
       ⟨some 3, none, .ld 3 true false (.t 1)⟩,
       ⟨some 4, none, .callF 39 [.t 3] []⟩,
       ⟨some 5, none, .un .not (.t 4)⟩,
       ⟨some 2, none, .mv true (.t 5)⟩])
     .ret)⟩
theorem t38 : compF Try.prog { ros := [1] } 38 = some p38 := by kernel_rfl
def p39 : PFn :=
  ⟨58, [.t 2], .seq
    (.region [
      ⟨some 1, none, .bxI 3 (.t 0)⟩,
      ⟨some 2, none, .mv true (.c (.bool false))⟩])
    (.seq
     (.region [
       ⟨some 5, none, .ld 3 true false (.t 1)⟩,
       ⟨some 6, none, .callF 30 [.t 5] []⟩,
       ⟨some 3, none, .mv true (.t 6)⟩])
     (.seq
      (.draw [
        ⟨some 7, none, .mv false (.t 3)⟩,
        ⟨some 8, none, .len false (.t 7)⟩,
        ⟨some 9, none, .bin .eql (.t 8) (.c (.int .i64 2))⟩,
        ⟨some 10, none, .mv false (.t 9)⟩,
        ⟨some 11, some (10, true), .mv false (.t 3)⟩,
        ⟨some 12, some (10, true), .iad 3 (.t 11) (.c (.int .i64 0))⟩,
        ⟨some 13, some (10, true), .fad 0 (.t 12)⟩,
        ⟨some 14, some (10, true), .ld 1 false false (.t 13)⟩,
        ⟨some 15, some (10, true), .mv false (.t 3)⟩,
        ⟨some 16, some (10, true), .iad 3 (.t 15) (.c (.int .i64 1))⟩,
        ⟨some 17, some (10, true), .fad 0 (.t 16)⟩,
        ⟨some 18, some (10, true), .ld 1 false false (.t 17)⟩,
        ⟨some 19, some (10, true), .bin .eql (.t 14) (.t 18)⟩,
        ⟨some 20, none, .pick (.t 10) (.t 19) (.c (.bool false))⟩,
        ⟨some 4, none, .mv true (.t 20)⟩] [])
      (.seq
       (.region [
         ⟨some 21, none, .fad 0 (.t 1)⟩,
         ⟨some 22, none, .ld 1 false false (.t 21)⟩,
         ⟨some 23, none, .len false (.t 22)⟩,
         ⟨some 24, none, .bin .leq (.t 23) (.c (.int .i64 500))⟩,
         ⟨some 25, none, .mv false (.t 24)⟩,
         ⟨some 26, some (25, true), .fad 1 (.t 1)⟩,
         ⟨some 27, some (25, true), .ld 1 false false (.t 26)⟩,
         ⟨some 28, some (25, true), .fad 0 (.t 1)⟩,
         ⟨some 29, some (25, true), .ld 1 false false (.t 28)⟩,
         ⟨some 30, some (25, true), .len false (.t 29)⟩,
         ⟨some 31, some (25, true), .bin .sub (.t 30) (.c (.int .i64 1))⟩,
         ⟨some 32, some (25, true), .callF 40 [.t 27, .c (.int .i64 (-1)), .t 31] []⟩,
         ⟨some 33, none, .pick (.t 25) (.t 32) (.c (.bool false))⟩,
         ⟨some 34, none, .mv false (.t 33)⟩,
         ⟨some 35, some (34, true), .fad 2 (.t 1)⟩,
         ⟨some 36, some (34, true), .ld 1 false false (.t 35)⟩,
         ⟨some 37, some (34, true), .bin .geq (.t 36) (.c (.int .i64 0))⟩,
         ⟨some 38, none, .pick (.t 34) (.t 37) (.c (.bool false))⟩,
         ⟨some 39, none, .mv false (.t 38)⟩,
         ⟨some 40, some (39, true), .mv false (.t 3)⟩,
         ⟨some 41, some (39, true), .len false (.t 40)⟩,
         ⟨some 42, some (39, true), .bin .leq (.t 41) (.c (.int .i64 2))⟩,
         ⟨some 43, none, .pick (.t 39) (.t 42) (.c (.bool false))⟩,
         ⟨some 44, none, .mv false (.t 43)⟩,
         ⟨some 45, some (44, true), .mv false (.t 4)⟩,
         ⟨some 46, some (44, true), .un .not (.t 45)⟩,
         ⟨some 47, none, .pick (.t 44) (.t 46) (.c (.bool false))⟩,
         ⟨some 48, none, .mv false (.t 47)⟩,
         ⟨some 49, some (48, true), .mv false (.t 3)⟩,
         ⟨some 50, some (48, true), .len false (.t 49)⟩,
         ⟨some 51, some (48, true), .bin .eql (.t 50) (.c (.int .i64 0))⟩,
         ⟨some 52, some (48, true), .mv false (.t 51)⟩,
         ⟨some 53, some (52, false), .fad 1 (.t 1)⟩,
         ⟨some 54, some (52, false), .ld 1 false false (.t 53)⟩,
         ⟨some 55, some (52, false), .bin .eql (.t 54) (.c (.int .i64 (-1)))⟩,
         ⟨some 56, some (48, true), .pick (.t 52) (.c (.bool true)) (.t 55)⟩,
         ⟨some 57, none, .pick (.t 48) (.t 56) (.c (.bool false))⟩,
         ⟨some 2, none, .mv true (.t 57)⟩])
       .ret)))⟩
theorem t39 : compF Try.prog { ros := [1] } 39 = some p39 := by kernel_rfl
def p40 : PFn :=
  ⟨15, [.t 6], .seq
    (.region [
      ⟨some 6, none, .mv true (.c (.bool false))⟩])
    (.seq
     (.region [
       ⟨some 7, none, .mv false (.t 1)⟩,
       ⟨some 8, none, .mv false (.t 0)⟩,
       ⟨some 9, none, .bin .leq (.t 7) (.t 8)⟩,
       ⟨some 10, none, .mv false (.t 9)⟩,
       ⟨some 11, some (10, true), .mv false (.t 0)⟩,
       ⟨some 12, some (10, true), .mv false (.t 2)⟩,
       ⟨some 13, some (10, true), .bin .leq (.t 11) (.t 12)⟩,
       ⟨some 14, none, .pick (.t 10) (.t 13) (.c (.bool false))⟩,
       ⟨some 6, none, .mv true (.t 14)⟩])
     .ret)⟩
theorem t40 : compF Try.prog {} 40 = some p40 := by kernel_rfl
def p41 : PFn :=
  ⟨9, [.t 4], .seq
    (.region [
      ⟨some 4, none, .mv true (.c (.bool false))⟩])
    (.seq
     (.region [
       ⟨some 5, none, .mv false (.t 0)⟩,
       ⟨some 6, none, .mv false (.t 1)⟩,
       ⟨some 7, none, .callF 32 [.t 5, .t 6] []⟩,
       ⟨some 8, none, .bin .geq (.t 7) (.c (.int .i64 0))⟩,
       ⟨some 4, none, .mv true (.t 8)⟩])
     .ret)⟩
theorem t41 : compF Try.prog {} 41 = some p41 := by kernel_rfl
def p42 : PFn :=
  ⟨48, [.t 4], .seq
    (.region [
      ⟨some 4, none, .mv true (.c (.lst 0 [] true))⟩])
    (.seq
     (.seq
      (.region [
        ⟨some 9, none, .mv false (.t 1)⟩,
        ⟨some 10, none, .bin .lss (.t 9) (.c (.int .i64 0))⟩])
      (.cond (.t 10)
       (.region [
         ⟨some 11, none, .bad⟩,
         ⟨none, none, .bad⟩])
       .skip))
     (.seq
      (.region [
        ⟨some 13, none, .mv false (.t 0)⟩,
        ⟨some 14, none, .len false (.t 13)⟩,
        ⟨some 15, none, .cvI .u64 (.t 14)⟩,
        ⟨some 16, none, .mv false (.t 1)⟩,
        ⟨some 17, none, .cvI .u64 (.t 16)⟩,
        ⟨some 18, none, .callF 64 [.t 15, .t 17] []⟩,
        ⟨some 12, none, .mv true (.t 18)⟩,
        ⟨some 19, none, .ext false (.t 12) 0⟩,
        ⟨some 20, none, .ext false (.t 12) 1⟩,
        ⟨some 5, none, .mv true (.t 19)⟩,
        ⟨some 6, none, .mv true (.t 20)⟩])
      (.seq
       (.seq
        (.region [
          ⟨some 21, none, .mv false (.t 5)⟩,
          ⟨some 22, none, .bin .gtr (.t 21) (.c (.int .u64 0))⟩,
          ⟨some 23, none, .mv false (.t 22)⟩,
          ⟨some 24, some (23, false), .mv false (.t 6)⟩,
          ⟨some 25, some (23, false), .bin .gtr (.t 24) (.c (.int .u64 9223372036854775807))⟩,
          ⟨some 26, none, .pick (.t 23) (.c (.bool true)) (.t 25)⟩])
        (.cond (.t 26)
         (.region [
           ⟨some 27, none, .bad⟩,
           ⟨none, none, .bad⟩])
         .skip))
       (.seq
        (.region [
          ⟨some 28, none, .mv false (.t 6)⟩,
          ⟨some 29, none, .cvI .i64 (.t 28)⟩,
          ⟨some 30, none, .mk 3 40 true [.lst 0 [] true, .int .i64 0, .int .i64 0] (.t 29) (.t 29) false⟩,
          ⟨some 7, none, .mv true (.t 30)⟩])
        (.seq
         (.region [
           ⟨some 31, none, .mv false (.t 7)⟩,
           ⟨some 32, none, .mv false (.t 0)⟩,
           ⟨some 33, none, .cpy 3 (.t 31) (.t 32)⟩,
           ⟨some 8, none, .mv true (.t 33)⟩])
         (.seq
          (.block 0
           (.loop
            (.seq
             (.seq
              (.region [
                ⟨some 34, none, .mv false (.t 8)⟩,
                ⟨some 35, none, .mv false (.t 7)⟩,
                ⟨some 36, none, .len false (.t 35)⟩,
                ⟨some 37, none, .bin .lss (.t 34) (.t 36)⟩])
              (.cond (.t 37)
               .skip
               (.exit 0)))
             (.block 1
              (.draw [
                ⟨some 38, none, .mv false (.t 8)⟩,
                ⟨some 39, none, .mv false (.t 7)⟩,
                ⟨some 40, none, .mv false (.t 8)⟩,
                ⟨some 41, none, .sli 3 (.t 39) (some (.t 40)) none none⟩,
                ⟨some 42, none, .mv false (.t 7)⟩,
                ⟨some 43, none, .mv false (.t 8)⟩,
                ⟨some 44, none, .sli 3 (.t 42) none (some (.t 43)) none⟩,
                ⟨some 45, none, .cpy 3 (.t 41) (.t 44)⟩,
                ⟨some 46, none, .bin .add (.t 38) (.t 45)⟩,
                ⟨some 8, none, .mv true (.t 46)⟩] [])))))
          (.seq
           (.region [
             ⟨some 47, none, .mv true (.t 7)⟩,
             ⟨some 4, none, .mv true (.t 47)⟩])
           .ret)))))))⟩
theorem t42 : compF Try.prog {} 42 = some p42 := by kernel_rfl
def p43 : PFn :=
  ⟨98, [.t 6, .t 7], .seq
    (.region [
      ⟨some 3, none, .bxI 3 (.t 0)⟩,
      ⟨some 6, none, .mv true (.c (.int .i64 0))⟩,
      ⟨some 7, none, .mv true (.c (.bool false))⟩])
    (.seq
     (.seq
      (.region [
        ⟨some 8, none, .mv true (.c (.int .i64 0))⟩])
      (.block 0
       (.loop
        (.seq
         (.seq
          (.region [
            ⟨some 13, none, .mv false (.t 8)⟩,
            ⟨some 14, none, .fad 2 (.t 3)⟩,
            ⟨some 15, none, .ld 1 false false (.t 14)⟩,
            ⟨some 16, none, .len false (.t 15)⟩,
            ⟨some 17, none, .bin .lss (.t 13) (.t 16)⟩])
          (.cond (.t 17)
           .skip
           (.exit 0)))
         (.seq
          (.block 1
           (.seq
            (.region [
              ⟨some 20, none, .fad 2 (.t 3)⟩,
              ⟨some 21, none, .ld 1 false false (.t 20)⟩,
              ⟨some 22, none, .mv false (.t 8)⟩,
              ⟨some 23, none, .iad 3 (.t 21) (.t 22)⟩,
              ⟨some 24, none, .ld 3 true false (.t 23)⟩,
              ⟨some 9, none, .al [.lst 0 [] true, .int .i64 0, .int .i64 0]⟩,
              ⟨none, none, .sto 3 (.t 9) (.t 24)⟩])
            (.seq
             (.region [
               ⟨some 25, none, .fad 1 (.t 9)⟩,
               ⟨some 26, none, .ld 1 false false (.t 25)⟩,
               ⟨some 27, none, .bin .lss (.t 26) (.c (.int .i64 0))⟩,
               ⟨some 28, none, .mv false (.t 27)⟩,
               ⟨some 29, some (28, true), .ld 3 true false (.t 9)⟩,
               ⟨some 30, some (28, true), .callF 28 [.t 29] []⟩,
               ⟨some 31, some (28, true), .len false (.t 30)⟩,
               ⟨some 32, some (28, true), .bin .eql (.t 31) (.c (.int .i64 0))⟩,
               ⟨some 33, none, .pick (.t 28) (.t 32) (.c (.bool false))⟩,
               ⟨some 34, none, .mv false (.t 33)⟩,
               ⟨some 35, some (34, true), .fad 0 (.t 9)⟩,
               ⟨some 36, some (34, true), .ld 1 false false (.t 35)⟩,
               ⟨some 37, some (34, true), .len false (.t 36)⟩,
               ⟨some 38, some (34, true), .bin .lss (.t 37) (.c (.int .i64 500))⟩,
               ⟨some 39, none, .pick (.t 34) (.t 38) (.c (.bool false))⟩])
             (.cond (.t 39)
              (.seq
               (.region [
                 ⟨some 40, none, .mv true (.t 8)⟩,
                 ⟨some 6, none, .mv true (.t 40)⟩,
                 ⟨some 7, none, .mv true (.c (.bool true))⟩])
               .ret)
              .skip))))
          (.region [
            ⟨some 18, none, .mv false (.t 8)⟩,
            ⟨some 19, none, .bin .add (.t 18) (.c (.int .i64 1))⟩,
            ⟨some 8, none, .mv true (.t 19)⟩]))))))
     (.seq
      (.seq
       (.region [
         ⟨some 10, none, .mv true (.c (.int .i64 0))⟩])
       (.block 2
        (.loop
         (.seq
          (.seq
           (.region [
             ⟨some 41, none, .mv false (.t 10)⟩,
             ⟨some 42, none, .fad 2 (.t 3)⟩,
             ⟨some 43, none, .ld 1 false false (.t 42)⟩,
             ⟨some 44, none, .len false (.t 43)⟩,
             ⟨some 45, none, .bin .lss (.t 41) (.t 44)⟩])
           (.cond (.t 45)
            .skip
            (.exit 2)))
          (.seq
           (.block 3
            (.seq
             (.region [
               ⟨some 48, none, .fad 2 (.t 3)⟩,
               ⟨some 49, none, .ld 1 false false (.t 48)⟩,
               ⟨some 50, none, .mv false (.t 10)⟩,
               ⟨some 51, none, .iad 3 (.t 49) (.t 50)⟩,
               ⟨some 52, none, .ld 3 true false (.t 51)⟩,
               ⟨some 11, none, .al [.lst 0 [] true, .int .i64 0, .int .i64 0]⟩,
               ⟨none, none, .sto 3 (.t 11) (.t 52)⟩])
             (.seq
              (.region [
                ⟨some 53, none, .ld 3 true false (.t 11)⟩,
                ⟨some 54, none, .callF 28 [.t 53] []⟩,
                ⟨some 12, none, .mv true (.t 54)⟩])
              (.seq
               (.draw [
                 ⟨some 55, none, .fad 1 (.t 11)⟩,
                 ⟨some 56, none, .ld 1 false false (.t 55)⟩,
                 ⟨some 57, none, .bin .lss (.t 56) (.c (.int .i64 0))⟩,
                 ⟨some 58, none, .mv false (.t 57)⟩,
                 ⟨some 59, some (58, true), .mv false (.t 12)⟩,
                 ⟨some 60, some (58, true), .len false (.t 59)⟩,
                 ⟨some 61, some (58, true), .bin .eql (.t 60) (.c (.int .i64 1))⟩,
                 ⟨some 62, none, .pick (.t 58) (.t 61) (.c (.bool false))⟩,
                 ⟨some 63, none, .mv false (.t 62)⟩,
                 ⟨some 64, some (63, true), .fad 0 (.t 11)⟩,
                 ⟨some 65, some (63, true), .ld 1 false false (.t 64)⟩,
                 ⟨some 66, some (63, true), .len false (.t 65)⟩,
                 ⟨some 67, some (63, true), .bin .lss (.t 66) (.c (.int .i64 500))⟩,
                 ⟨some 68, none, .pick (.t 63) (.t 67) (.c (.bool false))⟩,
                 ⟨some 69, none, .mv false (.t 68)⟩,
                 ⟨some 70, some (69, true), .fad 0 (.t 11)⟩,
                 ⟨some 71, some (69, true), .ld 1 false false (.t 70)⟩,
                 ⟨some 72, some (69, true), .mv false (.t 12)⟩,
                 ⟨some 73, some (69, true), .iad 1 (.t 72) (.c (.int .i64 0))⟩,
                 ⟨some 74, some (69, true), .ld 1 false false (.t 73)⟩,
                 ⟨some 75, some (69, true), .iad 3 (.t 71) (.t 74)⟩,
                 ⟨some 76, some (69, true), .fad 0 (.t 75)⟩,
                 ⟨some 77, some (69, true), .ld 1 false false (.t 76)⟩,
                 ⟨some 78, some (69, true), .mv false (.t 1)⟩,
                 ⟨some 79, some (69, true), .bin .neq (.t 77) (.t 78)⟩,
                 ⟨some 80, none, .pick (.t 69) (.t 79) (.c (.bool false))⟩,
                 ⟨some 81, none, .mv false (.t 80)⟩,
                 ⟨some 82, some (81, true), .mv false (.t 2)⟩,
                 ⟨some 83, some (81, true), .fad 0 (.t 11)⟩,
                 ⟨some 84, some (81, true), .ld 1 false false (.t 83)⟩,
                 ⟨some 85, some (81, true), .mv false (.t 12)⟩,
                 ⟨some 86, some (81, true), .iad 1 (.t 85) (.c (.int .i64 0))⟩,
                 ⟨some 87, some (81, true), .ld 1 false false (.t 86)⟩,
                 ⟨some 88, some (81, true), .iad 3 (.t 84) (.t 87)⟩,
                 ⟨some 89, some (81, true), .fad 1 (.t 88)⟩,
                 ⟨some 90, some (81, true), .ld 1 false false (.t 89)⟩,
                 ⟨some 91, some (81, true), .bin .sub (.t 82) (.t 90)⟩,
                 ⟨some 92, some (81, true), .bin .mul (.c (.int .i64 2)) (.t 91)⟩,
                 ⟨some 93, some (81, true), .fad 1 (.t 3)⟩,
                 ⟨some 94, some (81, true), .ld 1 false false (.t 93)⟩,
                 ⟨some 95, some (81, true), .bin .geq (.t 92) (.t 94)⟩,
                 ⟨some 96, none, .pick (.t 81) (.t 95) (.c (.bool false))⟩] [])
               (.cond (.t 96)
                (.seq
                 (.region [
                   ⟨some 97, none, .mv true (.t 10)⟩,
                   ⟨some 6, none, .mv true (.t 97)⟩,
                   ⟨some 7, none, .mv true (.c (.bool true))⟩])
                 .ret)
                .skip)))))
           (.region [
             ⟨some 46, none, .mv false (.t 10)⟩,
             ⟨some 47, none, .bin .add (.t 46) (.c (.int .i64 1))⟩,
             ⟨some 10, none, .mv true (.t 47)⟩]))))))
      (.seq
       (.region [
         ⟨some 6, none, .mv true (.c (.int .i64 0))⟩,
         ⟨some 7, none, .mv true (.c (.bool false))⟩])
       .ret)))⟩
theorem t43 : compF Try.prog { ros := [3] } 43 = some p43 := by kernel_rfl
def p44 : PFn :=
  ⟨84, [.c 8 3 true, .t 9, .t 10], .seq
    (.region [
      ⟨some 4, none, .bxI 3 (.t 0)⟩,
      ⟨some 8, none, .al [.int .i64 0, .int .i64 0, .lst 0 [] true]⟩,
      ⟨some 9, none, .mv true (.c (.int .i64 0))⟩,
      ⟨some 10, none, .mv true (.c (.int .i64 0))⟩])
    (.seq
     (.seq
      (.region [
        ⟨some 14, none, .mv false (.t 1)⟩,
        ⟨some 15, none, .bin .lss (.t 14) (.c (.int .i64 0))⟩,
        ⟨some 16, none, .mv false (.t 15)⟩,
        ⟨some 17, some (16, false), .mv false (.t 1)⟩,
        ⟨some 18, some (16, false), .fad 2 (.t 4)⟩,
        ⟨some 19, some (16, false), .ld 1 false false (.t 18)⟩,
        ⟨some 20, some (16, false), .len false (.t 19)⟩,
        ⟨some 21, some (16, false), .bin .geq (.t 17) (.t 20)⟩,
        ⟨some 22, none, .pick (.t 16) (.c (.bool true)) (.t 21)⟩])
      (.cond (.t 22)
       (.seq
        (.region [
          ⟨some 23, none, .ld 3 true false (.t 4)⟩,
          ⟨none, none, .sto 3 (.t 8) (.t 23)⟩,
          ⟨some 9, none, .mv true (.c (.int .i64 (-1)))⟩,
          ⟨some 10, none, .mv true (.c (.int .i64 1))⟩])
        .ret)
       .skip))
     (.seq
      (.region [
        ⟨some 24, none, .fad 2 (.t 4)⟩,
        ⟨some 25, none, .ld 1 false false (.t 24)⟩,
        ⟨some 26, none, .mv false (.t 1)⟩,
        ⟨some 27, none, .iad 3 (.t 25) (.t 26)⟩,
        ⟨some 28, none, .ld 3 true false (.t 27)⟩,
        ⟨some 11, none, .al [.lst 0 [] true, .int .i64 0, .int .i64 0]⟩,
        ⟨none, none, .sto 3 (.t 11) (.t 28)⟩])
      (.seq
       (.region [
         ⟨some 29, none, .ld 3 true false (.t 11)⟩,
         ⟨some 30, none, .callF 28 [.t 29] []⟩,
         ⟨some 12, none, .mv true (.t 30)⟩])
       (.seq
        (.seq
         (.draw [
           ⟨some 31, none, .fad 1 (.t 11)⟩,
           ⟨some 32, none, .ld 1 false false (.t 31)⟩,
           ⟨some 33, none, .bin .geq (.t 32) (.c (.int .i64 0))⟩,
           ⟨some 34, none, .mv false (.t 33)⟩,
           ⟨some 35, some (34, false), .mv false (.t 12)⟩,
           ⟨some 36, some (34, false), .len false (.t 35)⟩,
           ⟨some 37, some (34, false), .bin .eql (.t 36) (.c (.int .i64 2))⟩,
           ⟨some 38, none, .pick (.t 34) (.c (.bool true)) (.t 37)⟩,
           ⟨some 39, none, .mv false (.t 38)⟩,
           ⟨some 40, some (39, false), .mv false (.t 12)⟩,
           ⟨some 41, some (39, false), .len false (.t 40)⟩,
           ⟨some 42, some (39, false), .bin .eql (.t 41) (.c (.int .i64 1))⟩,
           ⟨some 43, some (39, false), .mv false (.t 42)⟩,
           ⟨some 44, some (43, true), .fad 0 (.t 11)⟩,
           ⟨some 45, some (43, true), .ld 1 false false (.t 44)⟩,
           ⟨some 46, some (43, true), .mv false (.t 12)⟩,
           ⟨some 47, some (43, true), .iad 1 (.t 46) (.c (.int .i64 0))⟩,
           ⟨some 48, some (43, true), .ld 1 false false (.t 47)⟩,
           ⟨some 49, some (43, true), .iad 3 (.t 45) (.t 48)⟩,
           ⟨some 50, some (43, true), .fad 0 (.t 49)⟩,
           ⟨some 51, some (43, true), .ld 1 false false (.t 50)⟩,
           ⟨some 52, some (43, true), .mv false (.t 2)⟩,
           ⟨some 53, some (43, true), .bin .eql (.t 51) (.t 52)⟩,
           ⟨some 54, some (39, false), .pick (.t 43) (.t 53) (.c (.bool false))⟩,
           ⟨some 55, none, .pick (.t 39) (.c (.bool true)) (.t 54)⟩] [])
         (.cond (.t 55)
          (.seq
           (.region [
             ⟨some 56, none, .ld 3 true false (.t 4)⟩,
             ⟨none, none, .sto 3 (.t 8) (.t 56)⟩,
             ⟨some 9, none, .mv true (.c (.int .i64 (-1)))⟩,
             ⟨some 10, none, .mv true (.c (.int .i64 14))⟩])
           .ret)
          .skip))
        (.seq
         (.seq
          (.region [
            ⟨some 57, none, .fad 0 (.t 11)⟩,
            ⟨some 58, none, .ld 1 false false (.t 57)⟩,
            ⟨some 59, none, .len false (.t 58)⟩,
            ⟨some 60, none, .bin .geq (.t 59) (.c (.int .i64 500))⟩])
          (.cond (.t 60)
           (.seq
            (.region [
              ⟨some 61, none, .ld 3 true false (.t 4)⟩,
              ⟨none, none, .sto 3 (.t 8) (.t 61)⟩,
              ⟨some 9, none, .mv true (.c (.int .i64 (-1)))⟩,
              ⟨some 10, none, .mv true (.c (.int .i64 8))⟩])
            .ret)
           .skip))
         (.seq
          (.region [
            ⟨some 62, none, .bsl 3 0 true [] [] false⟩,
            ⟨some 63, none, .fad 0 (.t 11)⟩,
            ⟨some 64, none, .ld 1 false false (.t 63)⟩,
            ⟨some 65, none, .app 3 24 (.t 62) (.t 64)⟩,
            ⟨some 13, none, .mv true (.t 65)⟩])
          (.seq
           (.region [
             ⟨some 66, none, .mv true (.t 13)⟩,
             ⟨some 67, none, .mv false (.t 2)⟩,
             ⟨some 68, none, .mv false (.t 3)⟩,
             ⟨some 69, none, .build [.int .i64 0, .int .i64 0, .bool false] [(0, (1, .t 67)), (1, (1, .t 68)), (2, (1, .c (.bool true)))]⟩,
             ⟨some 70, none, .bsl 3 1 true [.int .i64 0, .int .i64 0, .bool false] [(0, .t 69)] false⟩,
             ⟨some 71, none, .app 3 24 (.t 66) (.t 70)⟩,
             ⟨some 13, none, .mv true (.t 71)⟩])
           (.seq
            (.region [
              ⟨some 72, none, .ld 3 true false (.t 4)⟩,
              ⟨some 73, none, .mv false (.t 1)⟩,
              ⟨some 74, none, .mv false (.t 13)⟩,
              ⟨some 75, none, .fad 1 (.t 11)⟩,
              ⟨some 76, none, .ld 1 false false (.t 75)⟩,
              ⟨some 77, none, .fad 2 (.t 11)⟩,
              ⟨some 78, none, .ld 1 false false (.t 77)⟩,
              ⟨some 79, none, .build [.lst 0 [] true, .int .i64 0, .int .i64 0] [(0, (1, .t 74)), (1, (1, .t 76)), (2, (1, .t 78))]⟩,
              ⟨some 80, none, .callF 65 [.t 72, .t 73, .t 79] []⟩,
              ⟨some 81, none, .mv false (.t 13)⟩,
              ⟨some 82, none, .len false (.t 81)⟩,
              ⟨some 83, none, .bin .sub (.t 82) (.c (.int .i64 1))⟩,
              ⟨none, none, .sto 3 (.t 8) (.t 80)⟩,
              ⟨some 9, none, .mv true (.t 83)⟩,
              ⟨some 10, none, .mv true (.c (.int .i64 0))⟩])
            .ret))))))))⟩
theorem t44 : compF Try.prog { ros := [4] } 44 = some p44 := by kernel_rfl
def p45 : PFn :=
  ⟨43, [.c 8 3 true, .t 9], .seq
    (.region [
      ⟨some 4, none, .bxI 3 (.t 0)⟩,
      ⟨some 8, none, .al [.int .i64 0, .int .i64 0, .lst 0 [] true]⟩,
      ⟨some 9, none, .mv true (.c (.bool false))⟩])
    (.seq
     (.seq
      (.region [
        ⟨some 12, none, .ld 3 true false (.t 4)⟩,
        ⟨some 13, none, .mv false (.t 1)⟩,
        ⟨some 14, none, .mv false (.t 2)⟩,
        ⟨some 15, none, .callF 66 [.t 12, .t 13, .t 14] []⟩,
        ⟨some 16, none, .un .not (.t 15)⟩])
      (.cond (.t 16)
       (.seq
        (.region [
          ⟨some 17, none, .ld 3 true false (.t 4)⟩,
          ⟨none, none, .sto 3 (.t 8) (.t 17)⟩,
          ⟨some 9, none, .mv true (.c (.bool false))⟩])
        .ret)
       .skip))
     (.seq
      (.region [
        ⟨some 18, none, .fad 2 (.t 4)⟩,
        ⟨some 19, none, .ld 1 false false (.t 18)⟩,
        ⟨some 20, none, .mv false (.t 1)⟩,
        ⟨some 21, none, .iad 3 (.t 19) (.t 20)⟩,
        ⟨some 22, none, .ld 3 true false (.t 21)⟩,
        ⟨some 10, none, .al [.lst 0 [] true, .int .i64 0, .int .i64 0]⟩,
        ⟨none, none, .sto 3 (.t 10) (.t 22)⟩])
      (.seq
       (.draw [
         ⟨some 23, none, .ld 3 true false (.t 10)⟩,
         ⟨some 24, none, .mv false (.t 2)⟩,
         ⟨some 25, none, .fad 0 (.t 10)⟩,
         ⟨some 26, none, .ld 1 false false (.t 25)⟩,
         ⟨some 27, none, .mv false (.t 2)⟩,
         ⟨some 28, none, .iad 3 (.t 26) (.t 27)⟩,
         ⟨some 29, none, .fad 0 (.t 28)⟩,
         ⟨some 30, none, .ld 1 false false (.t 29)⟩,
         ⟨some 31, none, .mv false (.t 3)⟩,
         ⟨some 32, none, .build [.int .i64 0, .int .i64 0, .bool false] [(0, (1, .t 30)), (1, (1, .t 31)), (2, (1, .c (.bool true)))]⟩,
         ⟨some 33, none, .callF 67 [.t 23, .t 24, .t 32] []⟩,
         ⟨some 11, none, .mv true (.t 33)⟩] [])
       (.seq
        (.region [
          ⟨some 34, none, .ld 3 true false (.t 4)⟩,
          ⟨some 35, none, .mv false (.t 1)⟩,
          ⟨some 36, none, .mv false (.t 11)⟩,
          ⟨some 37, none, .fad 1 (.t 10)⟩,
          ⟨some 38, none, .ld 1 false false (.t 37)⟩,
          ⟨some 39, none, .fad 2 (.t 10)⟩,
          ⟨some 40, none, .ld 1 false false (.t 39)⟩,
          ⟨some 41, none, .build [.lst 0 [] true, .int .i64 0, .int .i64 0] [(0, (1, .t 36)), (1, (1, .t 38)), (2, (1, .t 40))]⟩,
          ⟨some 42, none, .callF 65 [.t 34, .t 35, .t 41] []⟩,
          ⟨none, none, .sto 3 (.t 8) (.t 42)⟩,
          ⟨some 9, none, .mv true (.c (.bool true))⟩])
        .ret))))⟩
theorem t45 : compF Try.prog { ros := [4] } 45 = some p45 := by kernel_rfl
def p46 : PFn :=
  ⟨47, [.c 6 3 true, .t 7], .seq
    (.region [
      ⟨some 3, none, .bxI 3 (.t 0)⟩,
      ⟨some 6, none, .al [.int .i64 0, .int .i64 0, .lst 0 [] true]⟩,
      ⟨some 7, none, .mv true (.c (.bool false))⟩])
    (.seq
     (.seq
      (.region [
        ⟨some 11, none, .ld 3 true false (.t 3)⟩,
        ⟨some 12, none, .mv false (.t 1)⟩,
        ⟨some 13, none, .mv false (.t 2)⟩,
        ⟨some 14, none, .callF 66 [.t 11, .t 12, .t 13] []⟩,
        ⟨some 15, none, .un .not (.t 14)⟩])
      (.cond (.t 15)
       (.seq
        (.region [
          ⟨some 16, none, .ld 3 true false (.t 3)⟩,
          ⟨none, none, .sto 3 (.t 6) (.t 16)⟩,
          ⟨some 7, none, .mv true (.c (.bool false))⟩])
        .ret)
       .skip))
     (.seq
      (.region [
        ⟨some 17, none, .fad 2 (.t 3)⟩,
        ⟨some 18, none, .ld 1 false false (.t 17)⟩,
        ⟨some 19, none, .mv false (.t 1)⟩,
        ⟨some 20, none, .iad 3 (.t 18) (.t 19)⟩,
        ⟨some 21, none, .ld 3 true false (.t 20)⟩,
        ⟨some 8, none, .al [.lst 0 [] true, .int .i64 0, .int .i64 0]⟩,
        ⟨none, none, .sto 3 (.t 8) (.t 21)⟩])
      (.seq
       (.region [
         ⟨some 22, none, .bsl 3 0 true [] [] false⟩,
         ⟨some 9, none, .mv true (.t 22)⟩])
       (.seq
        (.seq
         (.region [
           ⟨some 10, none, .mv true (.c (.int .i64 0))⟩])
         (.block 0
          (.loop
           (.seq
            (.seq
             (.region [
               ⟨some 23, none, .mv false (.t 10)⟩,
               ⟨some 24, none, .fad 0 (.t 8)⟩,
               ⟨some 25, none, .ld 1 false false (.t 24)⟩,
               ⟨some 26, none, .len false (.t 25)⟩,
               ⟨some 27, none, .bin .lss (.t 23) (.t 26)⟩])
             (.cond (.t 27)
              .skip
              (.exit 0)))
            (.seq
             (.block 1
              (.region [
                ⟨some 30, none, .mv true (.t 9)⟩,
                ⟨some 31, none, .fad 0 (.t 8)⟩,
                ⟨some 32, none, .ld 1 false false (.t 31)⟩,
                ⟨some 33, none, .mv false (.t 10)⟩,
                ⟨some 34, none, .iad 3 (.t 32) (.t 33)⟩,
                ⟨some 35, none, .ld 3 true false (.t 34)⟩,
                ⟨some 36, none, .callF 68 [.t 35] []⟩,
                ⟨some 37, none, .bsl 3 1 true [.int .i64 0, .int .i64 0, .bool false] [(0, .t 36)] false⟩,
                ⟨some 38, none, .app 3 24 (.t 30) (.t 37)⟩,
                ⟨some 9, none, .mv true (.t 38)⟩]))
             (.region [
               ⟨some 28, none, .mv false (.t 10)⟩,
               ⟨some 29, none, .bin .add (.t 28) (.c (.int .i64 1))⟩,
               ⟨some 10, none, .mv true (.t 29)⟩]))))))
        (.seq
         (.region [
           ⟨some 39, none, .ld 3 true false (.t 3)⟩,
           ⟨some 40, none, .mv false (.t 1)⟩,
           ⟨some 41, none, .mv false (.t 9)⟩,
           ⟨some 42, none, .mv false (.t 2)⟩,
           ⟨some 43, none, .fad 2 (.t 8)⟩,
           ⟨some 44, none, .ld 1 false false (.t 43)⟩,
           ⟨some 45, none, .build [.lst 0 [] true, .int .i64 0, .int .i64 0] [(0, (1, .t 41)), (1, (1, .t 42)), (2, (1, .t 44))]⟩,
           ⟨some 46, none, .callF 65 [.t 39, .t 40, .t 45] []⟩,
           ⟨none, none, .sto 3 (.t 6) (.t 46)⟩,
           ⟨some 7, none, .mv true (.c (.bool true))⟩])
         .ret)))))⟩
theorem t46 : compF Try.prog { ros := [3] } 46 = some p46 := by kernel_rfl
def p47 : PFn :=
  ⟨38, [.c 6 3 true, .t 7], .seq
    (.region [
      ⟨some 3, none, .bxI 3 (.t 0)⟩,
      ⟨some 6, none, .al [.int .i64 0, .int .i64 0, .lst 0 [] true]⟩,
      ⟨some 7, none, .mv true (.c (.bool false))⟩])
    (.seq
     (.seq
      (.region [
        ⟨some 9, none, .ld 3 true false (.t 3)⟩,
        ⟨some 10, none, .mv false (.t 1)⟩,
        ⟨some 11, none, .mv false (.t 2)⟩,
        ⟨some 12, none, .callF 66 [.t 9, .t 10, .t 11] []⟩,
        ⟨some 13, none, .un .not (.t 12)⟩])
      (.cond (.t 13)
       (.seq
        (.region [
          ⟨some 14, none, .ld 3 true false (.t 3)⟩,
          ⟨none, none, .sto 3 (.t 6) (.t 14)⟩,
          ⟨some 7, none, .mv true (.c (.bool false))⟩])
        .ret)
       .skip))
     (.seq
      (.region [
        ⟨some 15, none, .fad 2 (.t 3)⟩,
        ⟨some 16, none, .ld 1 false false (.t 15)⟩,
        ⟨some 17, none, .mv false (.t 1)⟩,
        ⟨some 18, none, .iad 3 (.t 16) (.t 17)⟩,
        ⟨some 19, none, .ld 3 true false (.t 18)⟩,
        ⟨some 8, none, .al [.lst 0 [] true, .int .i64 0, .int .i64 0]⟩,
        ⟨none, none, .sto 3 (.t 8) (.t 19)⟩])
      (.seq
       (.draw [
         ⟨some 20, none, .ld 3 true false (.t 3)⟩,
         ⟨some 21, none, .mv false (.t 1)⟩,
         ⟨some 22, none, .ld 3 true false (.t 8)⟩,
         ⟨some 23, none, .mv false (.t 2)⟩,
         ⟨some 24, none, .fad 0 (.t 8)⟩,
         ⟨some 25, none, .ld 1 false false (.t 24)⟩,
         ⟨some 26, none, .mv false (.t 2)⟩,
         ⟨some 27, none, .iad 3 (.t 25) (.t 26)⟩,
         ⟨some 28, none, .ld 3 true false (.t 27)⟩,
         ⟨some 29, none, .callF 68 [.t 28] []⟩,
         ⟨some 30, none, .callF 67 [.t 22, .t 23, .t 29] []⟩,
         ⟨some 31, none, .fad 1 (.t 8)⟩,
         ⟨some 32, none, .ld 1 false false (.t 31)⟩,
         ⟨some 33, none, .fad 2 (.t 8)⟩,
         ⟨some 34, none, .ld 1 false false (.t 33)⟩,
         ⟨some 35, none, .bin .add (.t 34) (.c (.int .i64 1))⟩,
         ⟨some 36, none, .build [.lst 0 [] true, .int .i64 0, .int .i64 0] [(0, (1, .t 30)), (1, (1, .t 32)), (2, (1, .t 35))]⟩,
         ⟨some 37, none, .callF 65 [.t 20, .t 21, .t 36] []⟩,
         ⟨none, none, .sto 3 (.t 6) (.t 37)⟩,
         ⟨some 7, none, .mv true (.c (.bool true))⟩] [])
       .ret)))⟩
theorem t47 : compF Try.prog { ros := [3] } 47 = some p47 := by kernel_rfl
def p48 : PFn :=
  ⟨48, [.c 4 3 true, .t 5], .seq
    (.region [
      ⟨some 2, none, .bx 3 (.t 0)⟩,
      ⟨some 4, none, .al [.int .i64 0, .int .i64 0, .lst 0 [] true]⟩,
      ⟨some 5, none, .mv true (.c (.int .i64 0))⟩])
    (.seq
     (.region [
       ⟨some 6, none, .mv true (.c (.int .i64 0))⟩])
     (.seq
      (.seq
       (.region [
         ⟨some 11, none, .fad 2 (.t 2)⟩,
         ⟨some 12, none, .ld 1 false false (.t 11)⟩,
         ⟨some 13, none, .len false (.t 12)⟩,
         ⟨some 14, none, .mv false (.c (.int .i64 0))⟩])
       (.block 0
        (.loop
         (.seq
          (.region [
            ⟨some 15, none, .bin .lss (.t 14) (.t 13)⟩])
          (.seq
           (.cond (.t 15)
            .skip
            (.exit 0))
           (.seq
            (.block 1
             (.seq
              (.region [
                ⟨some 16, none, .mv true (.t 14)⟩,
                ⟨some 17, none, .iad 3 (.t 12) (.t 14)⟩,
                ⟨some 18, none, .ld 3 true false (.t 17)⟩,
                ⟨some 8, none, .al [.lst 0 [] true, .int .i64 0, .int .i64 0]⟩,
                ⟨some 7, none, .mv true (.t 16)⟩,
                ⟨none, none, .sto 3 (.t 8) (.t 18)⟩])
              (.seq
               (.region [
                 ⟨some 19, none, .fad 0 (.t 8)⟩,
                 ⟨some 20, none, .ld 1 false false (.t 19)⟩,
                 ⟨some 21, none, .len false (.t 20)⟩,
                 ⟨some 22, none, .mv false (.c (.int .i64 0))⟩])
               (.block 2
                (.loop
                 (.seq
                  (.region [
                    ⟨some 23, none, .bin .lss (.t 22) (.t 21)⟩])
                  (.seq
                   (.cond (.t 23)
                    .skip
                    (.exit 2))
                   (.seq
                    (.block 3
                     (.seq
                      (.region [
                        ⟨some 24, none, .mv true (.t 22)⟩,
                        ⟨some 25, none, .iad 3 (.t 20) (.t 22)⟩,
                        ⟨some 26, none, .ld 3 true false (.t 25)⟩,
                        ⟨some 9, none, .al [.int .i64 0]⟩,
                        ⟨some 10, none, .al [.int .i64 0, .int .i64 0, .bool false]⟩,
                        ⟨none, none, .sto 1 (.t 9) (.t 24)⟩,
                        ⟨none, none, .sto 3 (.t 10) (.t 26)⟩])
                      (.seq
                       (.region [
                         ⟨some 27, none, .fad 2 (.t 10)⟩,
                         ⟨some 28, none, .ld 1 false false (.t 27)⟩,
                         ⟨some 29, none, .mv false (.t 28)⟩,
                         ⟨some 30, some (29, true), .mv false (.t 1)⟩,
                         ⟨some 31, some (29, true), .fad 1 (.t 10)⟩,
                         ⟨some 32, some (29, true), .ld 1 false false (.t 31)⟩,
                         ⟨some 33, some (29, true), .bin .sub (.t 30) (.t 32)⟩,
                         ⟨some 34, some (29, true), .fad 1 (.t 2)⟩,
                         ⟨some 35, some (29, true), .ld 1 false false (.t 34)⟩,
                         ⟨some 36, some (29, true), .bin .geq (.t 33) (.t 35)⟩,
                         ⟨some 37, none, .pick (.t 29) (.t 36) (.c (.bool false))⟩])
                       (.cond (.t 37)
                        (.seq
                         (.region [
                           ⟨some 38, none, .ld 3 true false (.t 2)⟩,
                           ⟨some 39, none, .mv false (.t 7)⟩,
                           ⟨some 40, none, .mkf (.func 69) [] [.t 9]⟩,
                           ⟨some 41, none, .callF 36 [.t 38, .t 39, .t 40] []⟩,
                           ⟨none, none, .sto 3 (.t 2) (.t 41)⟩])
                         (.region [
                           ⟨some 42, none, .mv false (.t 6)⟩,
                           ⟨some 43, none, .bin .add (.t 42) (.c (.int .i64 1))⟩,
                           ⟨some 6, none, .mv true (.t 43)⟩]))
                        .skip))))
                    (.region [
                      ⟨some 44, none, .bin .add (.t 22) (.c (.int .i64 1))⟩,
                      ⟨some 22, none, .mv false (.t 44)⟩])))))))))
            (.region [
              ⟨some 45, none, .bin .add (.t 14) (.c (.int .i64 1))⟩,
              ⟨some 14, none, .mv false (.t 45)⟩])))))))
      (.seq
       (.region [
         ⟨some 46, none, .ld 3 true false (.t 2)⟩,
         ⟨some 47, none, .mv true (.t 6)⟩,
         ⟨none, none, .sto 3 (.t 4) (.t 46)⟩,
         ⟨some 5, none, .mv true (.t 47)⟩])
       .ret)))⟩
theorem t48 : compF Try.prog {} 48 = some p48 := by kernel_rfl
def p49 : PFn :=
  ⟨73, [.c 4 3 true, .t 5], .seq
    (.region [
      ⟨some 2, none, .bx 3 (.t 0)⟩,
      ⟨some 4, none, .al [.int .i64 0, .int .i64 0, .lst 0 [] true]⟩,
      ⟨some 5, none, .mv true (.c (.int .i64 0))⟩])
    (.seq
     (.region [
       ⟨some 6, none, .mv true (.c (.int .i64 0))⟩])
     (.seq
      (.seq
       (.region [
         ⟨some 7, none, .mv true (.c (.int .i64 0))⟩])
       (.block 0
        (.loop
         (.seq
          (.seq
           (.region [
             ⟨some 11, none, .mv false (.t 7)⟩,
             ⟨some 12, none, .fad 2 (.t 2)⟩,
             ⟨some 13, none, .ld 1 false false (.t 12)⟩,
             ⟨some 14, none, .len false (.t 13)⟩,
             ⟨some 15, none, .bin .lss (.t 11) (.t 14)⟩])
           (.cond (.t 15)
            .skip
            (.exit 0)))
          (.seq
           (.block 1
            (.seq
             (.region [
               ⟨some 18, none, .fad 2 (.t 2)⟩,
               ⟨some 19, none, .ld 1 false false (.t 18)⟩,
               ⟨some 20, none, .mv false (.t 7)⟩,
               ⟨some 21, none, .iad 3 (.t 19) (.t 20)⟩,
               ⟨some 22, none, .ld 3 true false (.t 21)⟩,
               ⟨some 8, none, .al [.lst 0 [] true, .int .i64 0, .int .i64 0]⟩,
               ⟨none, none, .sto 3 (.t 8) (.t 22)⟩])
             (.seq
              (.region [
                ⟨some 23, none, .ld 3 true false (.t 8)⟩,
                ⟨some 24, none, .callF 28 [.t 23] []⟩,
                ⟨some 9, none, .mv true (.t 24)⟩])
              (.seq
               (.seq
                (.region [
                  ⟨some 10, none, .mv true (.c (.int .i64 0))⟩])
                (.block 2
                 (.loop
                  (.seq
                   (.seq
                    (.region [
                      ⟨some 25, none, .mv false (.t 10)⟩,
                      ⟨some 26, none, .mv false (.t 9)⟩,
                      ⟨some 27, none, .len false (.t 26)⟩,
                      ⟨some 28, none, .bin .lss (.t 25) (.t 27)⟩])
                    (.cond (.t 28)
                     .skip
                     (.exit 2)))
                   (.seq
                    (.block 3
                     (.seq
                      (.draw [
                        ⟨some 31, none, .mv false (.t 1)⟩,
                        ⟨some 32, none, .fad 0 (.t 8)⟩,
                        ⟨some 33, none, .ld 1 false false (.t 32)⟩,
                        ⟨some 34, none, .mv false (.t 9)⟩,
                        ⟨some 35, none, .mv false (.t 10)⟩,
                        ⟨some 36, none, .iad 1 (.t 34) (.t 35)⟩,
                        ⟨some 37, none, .ld 1 false false (.t 36)⟩,
                        ⟨some 38, none, .iad 3 (.t 33) (.t 37)⟩,
                        ⟨some 39, none, .fad 1 (.t 38)⟩,
                        ⟨some 40, none, .ld 1 false false (.t 39)⟩,
                        ⟨some 41, none, .bin .sub (.t 31) (.t 40)⟩,
                        ⟨some 42, none, .fad 1 (.t 2)⟩,
                        ⟨some 43, none, .ld 1 false false (.t 42)⟩,
                        ⟨some 44, none, .bin .geq (.t 41) (.t 43)⟩] [])
                      (.cond (.t 44)
                       (.seq
                        (.draw [
                          ⟨some 45, none, .ld 3 true false (.t 8)⟩,
                          ⟨some 46, none, .mv false (.t 9)⟩,
                          ⟨some 47, none, .mv false (.t 10)⟩,
                          ⟨some 48, none, .iad 1 (.t 46) (.t 47)⟩,
                          ⟨some 49, none, .ld 1 false false (.t 48)⟩,
                          ⟨some 50, none, .fad 0 (.t 8)⟩,
                          ⟨some 51, none, .ld 1 false false (.t 50)⟩,
                          ⟨some 52, none, .mv false (.t 9)⟩,
                          ⟨some 53, none, .mv false (.t 10)⟩,
                          ⟨some 54, none, .iad 1 (.t 52) (.t 53)⟩,
                          ⟨some 55, none, .ld 1 false false (.t 54)⟩,
                          ⟨some 56, none, .iad 3 (.t 51) (.t 55)⟩,
                          ⟨some 57, none, .ld 3 true false (.t 56)⟩,
                          ⟨some 58, none, .callF 68 [.t 57] []⟩,
                          ⟨some 59, none, .callF 67 [.t 45, .t 49, .t 58] []⟩,
                          ⟨some 60, none, .fad 1 (.t 8)⟩,
                          ⟨some 61, none, .ld 1 false false (.t 60)⟩,
                          ⟨some 62, none, .fad 2 (.t 8)⟩,
                          ⟨some 63, none, .ld 1 false false (.t 62)⟩,
                          ⟨some 64, none, .build [.lst 0 [] true, .int .i64 0, .int .i64 0] [(0, (1, .t 59)), (1, (1, .t 61)), (2, (1, .t 63))]⟩,
                          ⟨none, none, .sto 3 (.t 8) (.t 64)⟩] [])
                        (.region [
                          ⟨some 65, none, .mv false (.t 6)⟩,
                          ⟨some 66, none, .bin .add (.t 65) (.c (.int .i64 1))⟩,
                          ⟨some 6, none, .mv true (.t 66)⟩]))
                       .skip)))
                    (.region [
                      ⟨some 29, none, .mv false (.t 10)⟩,
                      ⟨some 30, none, .bin .add (.t 29) (.c (.int .i64 1))⟩,
                      ⟨some 10, none, .mv true (.t 30)⟩]))))))
               (.region [
                 ⟨some 67, none, .ld 3 true false (.t 2)⟩,
                 ⟨some 68, none, .mv false (.t 7)⟩,
                 ⟨some 69, none, .ld 3 true false (.t 8)⟩,
                 ⟨some 70, none, .callF 65 [.t 67, .t 68, .t 69] []⟩,
                 ⟨none, none, .sto 3 (.t 2) (.t 70)⟩])))))
           (.region [
             ⟨some 16, none, .mv false (.t 7)⟩,
             ⟨some 17, none, .bin .add (.t 16) (.c (.int .i64 1))⟩,
             ⟨some 7, none, .mv true (.t 17)⟩]))))))
      (.seq
       (.region [
         ⟨some 71, none, .ld 3 true false (.t 2)⟩,
         ⟨some 72, none, .mv true (.t 6)⟩,
         ⟨none, none, .sto 3 (.t 4) (.t 71)⟩,
         ⟨some 5, none, .mv true (.t 72)⟩])
       .ret)))⟩
theorem t49 : compF Try.prog {} 49 = some p49 := by kernel_rfl
def p50 : PFn :=
  ⟨46, [.c 6 3 true, .t 7], .seq
    (.region [
      ⟨some 3, none, .bxI 3 (.t 0)⟩,
      ⟨some 6, none, .al [.int .i64 0, .int .i64 0, .lst 0 [] true]⟩,
      ⟨some 7, none, .mv true (.c (.bool false))⟩])
    (.seq
     (.seq
      (.region [
        ⟨some 9, none, .mv false (.t 1)⟩,
        ⟨some 10, none, .bin .lss (.t 9) (.c (.int .i64 0))⟩,
        ⟨some 11, none, .mv false (.t 10)⟩,
        ⟨some 12, some (11, false), .mv false (.t 1)⟩,
        ⟨some 13, some (11, false), .fad 2 (.t 3)⟩,
        ⟨some 14, some (11, false), .ld 1 false false (.t 13)⟩,
        ⟨some 15, some (11, false), .len false (.t 14)⟩,
        ⟨some 16, some (11, false), .bin .geq (.t 12) (.t 15)⟩,
        ⟨some 17, none, .pick (.t 11) (.c (.bool true)) (.t 16)⟩,
        ⟨some 18, none, .mv false (.t 17)⟩,
        ⟨some 19, some (18, false), .mv false (.t 2)⟩,
        ⟨some 20, some (18, false), .bin .lss (.t 19) (.c (.int .i64 0))⟩,
        ⟨some 21, none, .pick (.t 18) (.c (.bool true)) (.t 20)⟩,
        ⟨some 22, none, .mv false (.t 21)⟩,
        ⟨some 23, some (22, false), .fad 2 (.t 3)⟩,
        ⟨some 24, some (22, false), .ld 1 false false (.t 23)⟩,
        ⟨some 25, some (22, false), .mv false (.t 1)⟩,
        ⟨some 26, some (22, false), .iad 3 (.t 24) (.t 25)⟩,
        ⟨some 27, some (22, false), .fad 1 (.t 26)⟩,
        ⟨some 28, some (22, false), .ld 1 false false (.t 27)⟩,
        ⟨some 29, some (22, false), .mv false (.t 2)⟩,
        ⟨some 30, some (22, false), .bin .neq (.t 28) (.t 29)⟩,
        ⟨some 31, none, .pick (.t 22) (.c (.bool true)) (.t 30)⟩])
      (.cond (.t 31)
       (.seq
        (.region [
          ⟨some 32, none, .ld 3 true false (.t 3)⟩,
          ⟨none, none, .sto 3 (.t 6) (.t 32)⟩,
          ⟨some 7, none, .mv true (.c (.bool false))⟩])
        .ret)
       .skip))
     (.seq
      (.region [
        ⟨some 33, none, .fad 2 (.t 3)⟩,
        ⟨some 34, none, .ld 1 false false (.t 33)⟩,
        ⟨some 35, none, .mv false (.t 1)⟩,
        ⟨some 36, none, .iad 3 (.t 34) (.t 35)⟩,
        ⟨some 37, none, .ld 3 true false (.t 36)⟩,
        ⟨some 8, none, .al [.lst 0 [] true, .int .i64 0, .int .i64 0]⟩,
        ⟨none, none, .sto 3 (.t 8) (.t 37)⟩])
      (.seq
       (.region [
         ⟨some 38, none, .ld 3 true false (.t 3)⟩,
         ⟨some 39, none, .mv false (.t 1)⟩,
         ⟨some 40, none, .fad 0 (.t 8)⟩,
         ⟨some 41, none, .ld 1 false false (.t 40)⟩,
         ⟨some 42, none, .fad 2 (.t 8)⟩,
         ⟨some 43, none, .ld 1 false false (.t 42)⟩,
         ⟨some 44, none, .build [.lst 0 [] true, .int .i64 0, .int .i64 0] [(0, (1, .t 41)), (1, (1, .c (.int .i64 (-1)))), (2, (1, .t 43))]⟩,
         ⟨some 45, none, .callF 65 [.t 38, .t 39, .t 44] []⟩,
         ⟨none, none, .sto 3 (.t 6) (.t 45)⟩,
         ⟨some 7, none, .mv true (.c (.bool true))⟩])
       .ret)))⟩
theorem t50 : compF Try.prog { ros := [3] } 50 = some p50 := by kernel_rfl
def p51 : PFn :=
  ⟨9, [.t 3], .seq
    (.region [
      ⟨some 2, none, .bxI 3 (.t 0)⟩,
      ⟨some 3, none, .mv true (.c (.bool false))⟩])
    (.seq
     (.region [
       ⟨some 4, none, .fad 2 (.t 2)⟩,
       ⟨some 5, none, .ld 1 false false (.t 4)⟩,
       ⟨some 6, none, .fad 0 (.t 1)⟩,
       ⟨some 7, none, .ld 1 false false (.t 6)⟩,
       ⟨some 8, none, .bin .geq (.t 5) (.t 7)⟩,
       ⟨some 3, none, .mv true (.t 8)⟩])
     .ret)⟩
theorem t51 : compF Try.prog { ros := [2] } 51 = some p51 := by kernel_rfl
def p52 : PFn :=
  ⟨6, [.t 2], .seq
    (.region [
      ⟨some 1, none, .bxI 3 (.t 0)⟩,
      ⟨some 2, none, .mv true (.c (.bool false))⟩])
    (.seq
     (.region [
       ⟨some 3, none, .fad 1 (.t 1)⟩,
       ⟨some 4, none, .ld 1 false false (.t 3)⟩,
       ⟨some 5, none, .bin .eql (.t 4) (.c (.int .i64 (-1)))⟩,
       ⟨some 2, none, .mv true (.t 5)⟩])
     .ret)⟩
theorem t52 : compF Try.prog { ros := [1] } 52 = some p52 := by kernel_rfl
def p53 : PFn :=
  ⟨34, [.t 6], .seq
    (.region [
      ⟨some 3, none, .bxI 3 (.t 0)⟩,
      ⟨some 6, none, .mv true (.c (.bool false))⟩])
    (.seq
     (.region [
       ⟨some 7, none, .ld 3 true false (.t 3)⟩,
       ⟨some 8, none, .mv false (.t 1)⟩,
       ⟨some 9, none, .callF 33 [.t 7, .t 8] []⟩,
       ⟨some 10, none, .mv false (.t 9)⟩,
       ⟨some 11, some (10, true), .mv false (.t 2)⟩,
       ⟨some 12, some (10, true), .fad 2 (.t 3)⟩,
       ⟨some 13, some (10, true), .ld 1 false false (.t 12)⟩,
       ⟨some 14, some (10, true), .mv false (.t 1)⟩,
       ⟨some 15, some (10, true), .iad 3 (.t 13) (.t 14)⟩,
       ⟨some 16, some (10, true), .fad 0 (.t 15)⟩,
       ⟨some 17, some (10, true), .ld 1 false false (.t 16)⟩,
       ⟨some 18, some (10, true), .len false (.t 17)⟩,
       ⟨some 19, some (10, true), .bin .sub (.t 18) (.c (.int .i64 1))⟩,
       ⟨some 20, some (10, true), .callF 40 [.t 11, .c (.int .i64 0), .t 19] []⟩,
       ⟨some 21, none, .pick (.t 10) (.t 20) (.c (.bool false))⟩,
       ⟨some 22, none, .mv false (.t 21)⟩,
       ⟨some 23, some (22, true), .fad 2 (.t 3)⟩,
       ⟨some 24, some (22, true), .ld 1 false false (.t 23)⟩,
       ⟨some 25, some (22, true), .mv false (.t 1)⟩,
       ⟨some 26, some (22, true), .iad 3 (.t 24) (.t 25)⟩,
       ⟨some 27, some (22, true), .fad 0 (.t 26)⟩,
       ⟨some 28, some (22, true), .ld 1 false false (.t 27)⟩,
       ⟨some 29, some (22, true), .mv false (.t 2)⟩,
       ⟨some 30, some (22, true), .iad 3 (.t 28) (.t 29)⟩,
       ⟨some 31, some (22, true), .fad 2 (.t 30)⟩,
       ⟨some 32, some (22, true), .ld 1 false false (.t 31)⟩,
       ⟨some 33, none, .pick (.t 22) (.t 32) (.c (.bool false))⟩,
       ⟨some 6, none, .mv true (.t 33)⟩])
     .ret)⟩
theorem t53 : compF Try.prog { ros := [3] } 53 = some p53 := by kernel_rfl
def p54 : PFn :=
  ⟨24, [], .seq
    (.region [
      ⟨some 4, none, .mv false (.t 0)⟩,
      ⟨some 5, none, .ld 1 false false (.t 1)⟩,
      ⟨some 6, none, .nck (.t 4)⟩,
      ⟨some 7, none, .fad 1 (.t 6)⟩,
      ⟨none, none, .sto 1 (.t 7) (.t 5)⟩])
    (.seq
     (.region [
       ⟨some 8, none, .mv false (.t 0)⟩,
       ⟨some 9, none, .nck (.t 8)⟩,
       ⟨some 10, none, .fad 0 (.t 9)⟩,
       ⟨some 11, none, .ld 1 false false (.t 10)⟩,
       ⟨some 12, none, .len false (.t 11)⟩,
       ⟨some 13, none, .mv false (.c (.int .i64 0))⟩])
     (.block 0
      (.loop
       (.seq
        (.region [
          ⟨some 14, none, .bin .lss (.t 13) (.t 12)⟩])
        (.seq
         (.cond (.t 14)
          .skip
          (.exit 0))
         (.seq
          (.block 1
           (.seq
            (.region [
              ⟨some 15, none, .mv true (.t 13)⟩,
              ⟨some 3, none, .mv true (.t 15)⟩])
            (.region [
              ⟨some 16, none, .mv false (.t 0)⟩,
              ⟨some 17, none, .nck (.t 16)⟩,
              ⟨some 18, none, .fad 0 (.t 17)⟩,
              ⟨some 19, none, .ld 1 false false (.t 18)⟩,
              ⟨some 20, none, .mv false (.t 3)⟩,
              ⟨some 21, none, .iad 3 (.t 19) (.t 20)⟩,
              ⟨some 22, none, .fad 2 (.t 21)⟩,
              ⟨none, none, .sto 1 (.t 22) (.c (.bool false))⟩])))
          (.region [
            ⟨some 23, none, .bin .add (.t 13) (.c (.int .i64 1))⟩,
            ⟨some 13, none, .mv false (.t 23)⟩])))))))⟩
theorem t54 : compF Try.prog {} 54 = some p54 := by kernel_rfl
def p55 : PFn :=
  ⟨32, [.t 6], .seq
    (.region [
      ⟨some 6, none, .mv true (.c (.bool false))⟩])
    (.seq
     (.seq
      (.region [
        ⟨some 10, none, .mv false (.t 0)⟩,
        ⟨some 11, none, .len false (.t 10)⟩,
        ⟨some 12, none, .mv false (.t 1)⟩,
        ⟨some 13, none, .len false (.t 12)⟩,
        ⟨some 14, none, .bin .neq (.t 11) (.t 13)⟩])
      (.cond (.t 14)
       (.seq
        (.region [
          ⟨some 6, none, .mv true (.c (.bool false))⟩])
        .ret)
       .skip))
     (.seq
      (.seq
       (.region [
         ⟨some 15, none, .mv false (.t 0)⟩,
         ⟨some 16, none, .len false (.t 15)⟩,
         ⟨some 17, none, .mv false (.c (.int .i64 0))⟩])
       (.block 0
        (.loop
         (.seq
          (.region [
            ⟨some 18, none, .bin .lss (.t 17) (.t 16)⟩])
          (.seq
           (.cond (.t 18)
            .skip
            (.exit 0))
           (.seq
            (.block 1
             (.seq
              (.region [
                ⟨some 19, none, .mv true (.t 17)⟩,
                ⟨some 20, none, .iad 3 (.t 15) (.t 17)⟩,
                ⟨some 21, none, .ld 3 true false (.t 20)⟩,
                ⟨some 8, none, .al [.lst 0 [] true, .int .i64 0, .int .i64 0]⟩,
                ⟨some 7, none, .mv true (.t 19)⟩,
                ⟨none, none, .sto 3 (.t 8) (.t 21)⟩])
              (.seq
               (.region [
                 ⟨some 22, none, .mv false (.t 1)⟩,
                 ⟨some 23, none, .mv false (.t 7)⟩,
                 ⟨some 24, none, .iad 3 (.t 22) (.t 23)⟩,
                 ⟨some 25, none, .ld 3 true false (.t 24)⟩,
                 ⟨some 9, none, .al [.lst 0 [] true, .int .i64 0, .int .i64 0]⟩,
                 ⟨none, none, .sto 3 (.t 9) (.t 25)⟩])
               (.seq
                (.region [
                  ⟨some 26, none, .mv false (.t 2)⟩,
                  ⟨some 27, none, .ld 3 true false (.t 8)⟩,
                  ⟨some 28, none, .ld 3 true false (.t 9)⟩,
                  ⟨some 29, none, .callV (.t 26) [.t 27, .t 28]⟩,
                  ⟨some 30, none, .un .not (.t 29)⟩])
                (.cond (.t 30)
                 (.seq
                  (.region [
                    ⟨some 6, none, .mv true (.c (.bool false))⟩])
                  .ret)
                 .skip)))))
            (.region [
              ⟨some 31, none, .bin .add (.t 17) (.c (.int .i64 1))⟩,
              ⟨some 17, none, .mv false (.t 31)⟩])))))))
      (.seq
       (.region [
         ⟨some 6, none, .mv true (.c (.bool true))⟩])
       .ret)))⟩
theorem t55 : compF Try.prog {} 55 = some p55 := by kernel_rfl
def p56 : PFn :=
  ⟨24, [.t 4], .seq
    (.region [
      ⟨some 2, none, .bxI 3 (.t 0)⟩,
      ⟨some 3, none, .bxI 3 (.t 1)⟩,
      ⟨some 4, none, .mv true (.c (.bool false))⟩])
    (.seq
     (.region [
       ⟨some 5, none, .fad 1 (.t 2)⟩,
       ⟨some 6, none, .ld 1 false false (.t 5)⟩,
       ⟨some 7, none, .fad 1 (.t 3)⟩,
       ⟨some 8, none, .ld 1 false false (.t 7)⟩,
       ⟨some 9, none, .bin .eql (.t 6) (.t 8)⟩,
       ⟨some 10, none, .mv false (.t 9)⟩,
       ⟨some 11, some (10, true), .fad 2 (.t 2)⟩,
       ⟨some 12, some (10, true), .ld 1 false false (.t 11)⟩,
       ⟨some 13, some (10, true), .fad 2 (.t 3)⟩,
       ⟨some 14, some (10, true), .ld 1 false false (.t 13)⟩,
       ⟨some 15, some (10, true), .bin .eql (.t 12) (.t 14)⟩,
       ⟨some 16, none, .pick (.t 10) (.t 15) (.c (.bool false))⟩,
       ⟨some 17, none, .mv false (.t 16)⟩,
       ⟨some 18, some (17, true), .fad 0 (.t 2)⟩,
       ⟨some 19, some (17, true), .ld 1 false false (.t 18)⟩,
       ⟨some 20, some (17, true), .fad 0 (.t 3)⟩,
       ⟨some 21, some (17, true), .ld 1 false false (.t 20)⟩,
       ⟨some 22, some (17, true), .callF 57 [.t 19, .t 21] []⟩,
       ⟨some 23, none, .pick (.t 17) (.t 22) (.c (.bool false))⟩,
       ⟨some 4, none, .mv true (.t 23)⟩])
     .ret)⟩
theorem t56 : compF Try.prog { ros := [2, 3] } 56 = some p56 := by kernel_rfl
def p57 : PFn :=
  ⟨26, [.t 4], .seq
    (.region [
      ⟨some 4, none, .mv true (.c (.bool false))⟩])
    (.seq
     (.seq
      (.region [
        ⟨some 6, none, .mv false (.t 0)⟩,
        ⟨some 7, none, .len false (.t 6)⟩,
        ⟨some 8, none, .mv false (.t 1)⟩,
        ⟨some 9, none, .len false (.t 8)⟩,
        ⟨some 10, none, .bin .neq (.t 7) (.t 9)⟩])
      (.cond (.t 10)
       (.seq
        (.region [
          ⟨some 4, none, .mv true (.c (.bool false))⟩])
        .ret)
       .skip))
     (.seq
      (.seq
       (.region [
         ⟨some 11, none, .mv false (.t 0)⟩,
         ⟨some 12, none, .len false (.t 11)⟩,
         ⟨some 13, none, .mv false (.c (.int .i64 0))⟩])
       (.block 0
        (.loop
         (.seq
          (.region [
            ⟨some 14, none, .bin .lss (.t 13) (.t 12)⟩])
          (.seq
           (.cond (.t 14)
            .skip
            (.exit 0))
           (.seq
            (.block 1
             (.seq
              (.region [
                ⟨some 15, none, .mv true (.t 13)⟩,
                ⟨some 5, none, .mv true (.t 15)⟩])
              (.seq
               (.draw [
                 ⟨some 16, none, .mv false (.t 0)⟩,
                 ⟨some 17, none, .mv false (.t 5)⟩,
                 ⟨some 18, none, .iad 3 (.t 16) (.t 17)⟩,
                 ⟨some 19, none, .ld 3 true false (.t 18)⟩,
                 ⟨some 20, none, .mv false (.t 1)⟩,
                 ⟨some 21, none, .mv false (.t 5)⟩,
                 ⟨some 22, none, .iad 3 (.t 20) (.t 21)⟩,
                 ⟨some 23, none, .ld 3 true false (.t 22)⟩,
                 ⟨some 24, none, .eqS true [0, 0, 1] (.t 19) (.t 23)⟩] [])
               (.cond (.t 24)
                (.seq
                 (.region [
                   ⟨some 4, none, .mv true (.c (.bool false))⟩])
                 .ret)
                .skip))))
            (.region [
              ⟨some 25, none, .bin .add (.t 13) (.c (.int .i64 1))⟩,
              ⟨some 13, none, .mv false (.t 25)⟩])))))))
      (.seq
       (.region [
         ⟨some 4, none, .mv true (.c (.bool true))⟩])
       .ret)))⟩
theorem t57 : compF Try.prog {} 57 = some p57 := by kernel_rfl
def p58 : PFn :=
  ⟨17, [], .seq
    (.draw [
      ⟨some 3, none, .mv false (.t 0)⟩,
      ⟨some 4, none, .nck (.t 3)⟩,
      ⟨some 5, none, .fad 0 (.t 4)⟩,
      ⟨some 6, none, .ld 1 false false (.t 5)⟩,
      ⟨some 7, none, .ld 1 false false (.t 1)⟩,
      ⟨some 8, none, .iad 3 (.t 6) (.t 7)⟩,
      ⟨some 9, none, .fad 2 (.t 8)⟩,
      ⟨none, none, .sto 1 (.t 9) (.c (.bool false))⟩] [])
    (.region [
      ⟨some 10, none, .mv false (.t 0)⟩,
      ⟨some 11, none, .nck (.t 10)⟩,
      ⟨some 12, none, .fad 2 (.t 11)⟩,
      ⟨some 13, none, .ld 1 false false (.t 12)⟩,
      ⟨some 14, none, .bin .add (.t 13) (.c (.int .i64 1))⟩,
      ⟨some 15, none, .nck (.t 10)⟩,
      ⟨some 16, none, .fad 2 (.t 15)⟩,
      ⟨none, none, .sto 1 (.t 16) (.t 14)⟩])⟩
theorem t58 : compF Try.prog {} 58 = some p58 := by kernel_rfl
def p59 : PFn :=
  ⟨12, [], .draw [
     ⟨some 4, none, .mv false (.t 0)⟩,
     ⟨some 5, none, .nck (.t 4)⟩,
     ⟨some 6, none, .fad 0 (.t 5)⟩,
     ⟨some 7, none, .ld 1 false false (.t 6)⟩,
     ⟨some 8, none, .ld 1 false false (.t 2)⟩,
     ⟨some 9, none, .ld 1 false false (.t 1)⟩,
     ⟨some 10, none, .iad 3 (.t 7) (.t 8)⟩,
     ⟨some 11, none, .fad 1 (.t 10)⟩,
     ⟨none, none, .sto 1 (.t 11) (.t 9)⟩] []⟩
theorem t59 : compF Try.prog {} 59 = some p59 := by kernel_rfl
def p60 : PFn :=
  ⟨5, [], .region [
     ⟨some 2, none, .mv false (.t 0)⟩,
     ⟨some 3, none, .nck (.t 2)⟩,
     ⟨some 4, none, .fad 1 (.t 3)⟩,
     ⟨none, none, .sto 1 (.t 4) (.c (.int .i64 (-1)))⟩]⟩
theorem t60 : compF Try.prog {} 60 = some p60 := by kernel_rfl
def p61 : PFn :=
  ⟨19, [.t 4], .seq
    (.region [
      ⟨some 4, none, .mv true (.c (.int .i64 0))⟩])
    (.seq
     (.seq
      (.region [
        ⟨some 6, none, .mv false (.t 0)⟩,
        ⟨some 7, none, .len false (.t 6)⟩,
        ⟨some 8, none, .mv false (.c (.int .i64 0))⟩])
      (.block 0
       (.loop
        (.seq
         (.region [
           ⟨some 9, none, .bin .lss (.t 8) (.t 7)⟩])
         (.seq
          (.cond (.t 9)
           .skip
           (.exit 0))
          (.seq
           (.block 1
            (.seq
             (.region [
               ⟨some 10, none, .mv true (.t 8)⟩,
               ⟨some 5, none, .mv true (.t 10)⟩])
             (.seq
              (.region [
                ⟨some 11, none, .mv false (.t 1)⟩,
                ⟨some 12, none, .mv false (.t 0)⟩,
                ⟨some 13, none, .mv false (.t 5)⟩,
                ⟨some 14, none, .iad 3 (.t 12) (.t 13)⟩,
                ⟨some 15, none, .ld 3 true false (.t 14)⟩,
                ⟨some 16, none, .callV (.t 11) [.t 15]⟩])
              (.cond (.t 16)
               (.seq
                (.region [
                  ⟨some 17, none, .mv true (.t 5)⟩,
                  ⟨some 4, none, .mv true (.t 17)⟩])
                .ret)
               .skip))))
           (.region [
             ⟨some 18, none, .bin .add (.t 8) (.c (.int .i64 1))⟩,
             ⟨some 8, none, .mv false (.t 18)⟩])))))))
     (.seq
      (.region [
        ⟨some 4, none, .mv true (.c (.int .i64 (-1)))⟩])
      .ret))⟩
theorem t61 : compF Try.prog {} 61 = some p61 := by kernel_rfl
def p62 : PFn :=
  ⟨8, [.t 2], .seq
    (.region [
      ⟨some 2, none, .mv true (.c (.lst 0 [] true))⟩])
    (.seq
     (.seq
      (.region [
        ⟨some 3, none, .mv false (.t 0)⟩,
        ⟨some 4, none, .eqN false (.t 3)⟩])
      (.cond (.t 4)
       (.seq
        (.region [
          ⟨some 2, none, .mv true (.c (.lst 0 [] true))⟩])
        .ret)
       .skip))
     (.seq
      (.region [
        ⟨some 5, none, .bsl 3 0 true [] [] false⟩,
        ⟨some 6, none, .mv false (.t 0)⟩,
        ⟨some 7, none, .app 3 40 (.t 5) (.t 6)⟩,
        ⟨some 2, none, .mv true (.t 7)⟩])
      .ret))⟩
theorem t62 : compF Try.prog {} 62 = some p62 := by kernel_rfl
def p63 : PFn :=
  ⟨8, [.t 2], .seq
    (.region [
      ⟨some 2, none, .mv true (.c (.lst 0 [] true))⟩])
    (.seq
     (.seq
      (.region [
        ⟨some 3, none, .mv false (.t 0)⟩,
        ⟨some 4, none, .eqN false (.t 3)⟩])
      (.cond (.t 4)
       (.seq
        (.region [
          ⟨some 2, none, .mv true (.c (.lst 0 [] true))⟩])
        .ret)
       .skip))
     (.seq
      (.region [
        ⟨some 5, none, .bsl 3 0 true [] [] false⟩,
        ⟨some 6, none, .mv false (.t 0)⟩,
        ⟨some 7, none, .app 3 24 (.t 5) (.t 6)⟩,
        ⟨some 2, none, .mv true (.t 7)⟩])
      .ret))⟩
theorem t63 : compF Try.prog {} 63 = some p63 := by kernel_rfl
def p64 : PFn :=
  ⟨30, [.t 4, .t 5], .seq
    (.region [
      ⟨some 4, none, .mv true (.c (.int .u64 0))⟩,
      ⟨some 5, none, .mv true (.c (.int .u64 0))⟩])
    (.seq
     (.cond (.c (.bool false))
      (.seq
       (.region [
         ⟨some 11, none, .mv false (.t 0)⟩,
         ⟨some 12, none, .cvI .u32 (.t 11)⟩,
         ⟨some 13, none, .mv false (.t 1)⟩,
         ⟨some 14, none, .cvI .u32 (.t 13)⟩,
         ⟨some 15, none, .callF 70 [.t 12, .t 14] []⟩,
         ⟨some 10, none, .mv true (.t 15)⟩,
         ⟨some 16, none, .ext false (.t 10) 0⟩,
         ⟨some 17, none, .ext false (.t 10) 1⟩,
         ⟨some 6, none, .mv true (.t 16)⟩,
         ⟨some 7, none, .mv true (.t 17)⟩])
       (.seq
        (.region [
          ⟨some 18, none, .mv false (.t 6)⟩,
          ⟨some 19, none, .cvI .u64 (.t 18)⟩,
          ⟨some 20, none, .mv false (.t 7)⟩,
          ⟨some 21, none, .cvI .u64 (.t 20)⟩,
          ⟨some 4, none, .mv true (.t 19)⟩,
          ⟨some 5, none, .mv true (.t 21)⟩])
        .ret))
      .skip)
     (.seq
      (.region [
        ⟨some 23, none, .mv false (.t 0)⟩,
        ⟨some 24, none, .mv false (.t 1)⟩,
        ⟨some 25, none, .callF 71 [.t 23, .t 24] []⟩,
        ⟨some 22, none, .mv true (.t 25)⟩,
        ⟨some 26, none, .ext false (.t 22) 0⟩,
        ⟨some 27, none, .ext false (.t 22) 1⟩,
        ⟨some 8, none, .mv true (.t 26)⟩,
        ⟨some 9, none, .mv true (.t 27)⟩])
      (.seq
       (.region [
         ⟨some 28, none, .mv true (.t 8)⟩,
         ⟨some 29, none, .mv true (.t 9)⟩,
         ⟨some 4, none, .mv true (.t 28)⟩,
         ⟨some 5, none, .mv true (.t 29)⟩])
       .ret)))⟩
theorem t64 : compF Try.prog {} 64 = some p64 := by kernel_rfl
def p65 : PFn :=
  ⟨41, [.c 6 3 true], .seq
    (.region [
      ⟨some 3, none, .bxI 3 (.t 0)⟩,
      ⟨some 5, none, .bxI 3 (.t 2)⟩,
      ⟨some 6, none, .al [.int .i64 0, .int .i64 0, .lst 0 [] true]⟩])
    (.seq
     (.region [
       ⟨some 9, none, .fad 0 (.t 3)⟩,
       ⟨some 10, none, .ld 1 false false (.t 9)⟩,
       ⟨some 11, none, .fad 1 (.t 3)⟩,
       ⟨some 12, none, .ld 1 false false (.t 11)⟩,
       ⟨some 13, none, .build [.int .i64 0, .int .i64 0, .lst 0 [] true] [(0, (1, .t 10)), (1, (1, .t 12))]⟩,
       ⟨some 7, none, .al [.int .i64 0, .int .i64 0, .lst 0 [] true]⟩,
       ⟨none, none, .sto 3 (.t 7) (.t 13)⟩])
     (.seq
      (.seq
       (.region [
         ⟨some 8, none, .mv true (.c (.int .i64 0))⟩])
       (.block 0
        (.loop
         (.seq
          (.seq
           (.region [
             ⟨some 14, none, .mv false (.t 8)⟩,
             ⟨some 15, none, .fad 2 (.t 3)⟩,
             ⟨some 16, none, .ld 1 false false (.t 15)⟩,
             ⟨some 17, none, .len false (.t 16)⟩,
             ⟨some 18, none, .bin .lss (.t 14) (.t 17)⟩])
           (.cond (.t 18)
            .skip
            (.exit 0)))
          (.seq
           (.block 1
            (.seq
             (.region [
               ⟨some 21, none, .mv false (.t 8)⟩,
               ⟨some 22, none, .mv false (.t 1)⟩,
               ⟨some 23, none, .bin .eql (.t 21) (.t 22)⟩])
             (.cond (.t 23)
              (.region [
                ⟨some 24, none, .fad 2 (.t 7)⟩,
                ⟨some 25, none, .ld 1 false false (.t 24)⟩,
                ⟨some 26, none, .ld 3 true false (.t 5)⟩,
                ⟨some 27, none, .bsl 3 1 true [.lst 0 [] true, .int .i64 0, .int .i64 0] [(0, .t 26)] false⟩,
                ⟨some 28, none, .app 3 40 (.t 25) (.t 27)⟩,
                ⟨some 29, none, .fad 2 (.t 7)⟩,
                ⟨none, none, .sto 1 (.t 29) (.t 28)⟩])
              (.draw [
                ⟨some 30, none, .fad 2 (.t 7)⟩,
                ⟨some 31, none, .ld 1 false false (.t 30)⟩,
                ⟨some 32, none, .fad 2 (.t 3)⟩,
                ⟨some 33, none, .ld 1 false false (.t 32)⟩,
                ⟨some 34, none, .mv false (.t 8)⟩,
                ⟨some 35, none, .iad 3 (.t 33) (.t 34)⟩,
                ⟨some 36, none, .ld 3 true false (.t 35)⟩,
                ⟨some 37, none, .bsl 3 1 true [.lst 0 [] true, .int .i64 0, .int .i64 0] [(0, .t 36)] false⟩,
                ⟨some 38, none, .app 3 40 (.t 31) (.t 37)⟩,
                ⟨some 39, none, .fad 2 (.t 7)⟩,
                ⟨none, none, .sto 1 (.t 39) (.t 38)⟩] []))))
           (.region [
             ⟨some 19, none, .mv false (.t 8)⟩,
             ⟨some 20, none, .bin .add (.t 19) (.c (.int .i64 1))⟩,
             ⟨some 8, none, .mv true (.t 20)⟩]))))))
      (.seq
       (.region [
         ⟨some 40, none, .ld 3 true false (.t 7)⟩,
         ⟨none, none, .sto 3 (.t 6) (.t 40)⟩])
       .ret)))⟩
theorem t65 : compF Try.prog { ros := [3, 5] } 65 = some p65 := by kernel_rfl
def p66 : PFn :=
  ⟨43, [.t 6], .seq
    (.region [
      ⟨some 3, none, .bxI 3 (.t 0)⟩,
      ⟨some 6, none, .mv true (.c (.bool false))⟩])
    (.seq
     (.region [
       ⟨some 7, none, .mv false (.t 1)⟩,
       ⟨some 8, none, .bin .geq (.t 7) (.c (.int .i64 0))⟩,
       ⟨some 9, none, .mv false (.t 8)⟩,
       ⟨some 10, some (9, true), .mv false (.t 1)⟩,
       ⟨some 11, some (9, true), .fad 2 (.t 3)⟩,
       ⟨some 12, some (9, true), .ld 1 false false (.t 11)⟩,
       ⟨some 13, some (9, true), .len false (.t 12)⟩,
       ⟨some 14, some (9, true), .bin .lss (.t 10) (.t 13)⟩,
       ⟨some 15, none, .pick (.t 9) (.t 14) (.c (.bool false))⟩,
       ⟨some 16, none, .mv false (.t 15)⟩,
       ⟨some 17, some (16, true), .mv false (.t 2)⟩,
       ⟨some 18, some (16, true), .bin .geq (.t 17) (.c (.int .i64 0))⟩,
       ⟨some 19, none, .pick (.t 16) (.t 18) (.c (.bool false))⟩,
       ⟨some 20, none, .mv false (.t 19)⟩,
       ⟨some 21, some (20, true), .mv false (.t 2)⟩,
       ⟨some 22, some (20, true), .fad 2 (.t 3)⟩,
       ⟨some 23, some (20, true), .ld 1 false false (.t 22)⟩,
       ⟨some 24, some (20, true), .mv false (.t 1)⟩,
       ⟨some 25, some (20, true), .iad 3 (.t 23) (.t 24)⟩,
       ⟨some 26, some (20, true), .fad 0 (.t 25)⟩,
       ⟨some 27, some (20, true), .ld 1 false false (.t 26)⟩,
       ⟨some 28, some (20, true), .len false (.t 27)⟩,
       ⟨some 29, some (20, true), .bin .lss (.t 21) (.t 28)⟩,
       ⟨some 30, none, .pick (.t 20) (.t 29) (.c (.bool false))⟩,
       ⟨some 31, none, .mv false (.t 30)⟩,
       ⟨some 32, some (31, true), .fad 2 (.t 3)⟩,
       ⟨some 33, some (31, true), .ld 1 false false (.t 32)⟩,
       ⟨some 34, some (31, true), .mv false (.t 1)⟩,
       ⟨some 35, some (31, true), .iad 3 (.t 33) (.t 34)⟩,
       ⟨some 36, some (31, true), .fad 0 (.t 35)⟩,
       ⟨some 37, some (31, true), .ld 1 false false (.t 36)⟩,
       ⟨some 38, some (31, true), .mv false (.t 2)⟩,
       ⟨some 39, some (31, true), .iad 3 (.t 37) (.t 38)⟩,
       ⟨some 40, some (31, true), .fad 2 (.t 39)⟩,
       ⟨some 41, some (31, true), .ld 1 false false (.t 40)⟩,
       ⟨some 42, none, .pick (.t 31) (.t 41) (.c (.bool false))⟩,
       ⟨some 6, none, .mv true (.t 42)⟩])
     .ret)⟩
theorem t66 : compF Try.prog { ros := [3] } 66 = some p66 := by kernel_rfl
def p67 : PFn :=
  ⟨33, [.t 6], .seq
    (.region [
      ⟨some 3, none, .bxI 3 (.t 0)⟩,
      ⟨some 5, none, .bxI 3 (.t 2)⟩,
      ⟨some 6, none, .mv true (.c (.lst 0 [] true))⟩])
    (.seq
     (.region [
       ⟨some 9, none, .bsl 3 0 true [] [] false⟩,
       ⟨some 7, none, .mv true (.t 9)⟩])
     (.seq
      (.seq
       (.region [
         ⟨some 8, none, .mv true (.c (.int .i64 0))⟩])
       (.block 0
        (.loop
         (.seq
          (.seq
           (.region [
             ⟨some 10, none, .mv false (.t 8)⟩,
             ⟨some 11, none, .fad 0 (.t 3)⟩,
             ⟨some 12, none, .ld 1 false false (.t 11)⟩,
             ⟨some 13, none, .len false (.t 12)⟩,
             ⟨some 14, none, .bin .lss (.t 10) (.t 13)⟩])
           (.cond (.t 14)
            .skip
            (.exit 0)))
          (.seq
           (.block 1
            (.seq
             (.region [
               ⟨some 17, none, .mv false (.t 8)⟩,
               ⟨some 18, none, .mv false (.t 1)⟩,
               ⟨some 19, none, .bin .eql (.t 17) (.t 18)⟩])
             (.cond (.t 19)
              (.region [
                ⟨some 20, none, .mv true (.t 7)⟩,
                ⟨some 21, none, .ld 3 true false (.t 5)⟩,
                ⟨some 22, none, .bsl 3 1 true [.int .i64 0, .int .i64 0, .bool false] [(0, .t 21)] false⟩,
                ⟨some 23, none, .app 3 24 (.t 20) (.t 22)⟩,
                ⟨some 7, none, .mv true (.t 23)⟩])
              (.region [
                ⟨some 24, none, .mv true (.t 7)⟩,
                ⟨some 25, none, .fad 0 (.t 3)⟩,
                ⟨some 26, none, .ld 1 false false (.t 25)⟩,
                ⟨some 27, none, .mv false (.t 8)⟩,
                ⟨some 28, none, .iad 3 (.t 26) (.t 27)⟩,
                ⟨some 29, none, .ld 3 true false (.t 28)⟩,
                ⟨some 30, none, .bsl 3 1 true [.int .i64 0, .int .i64 0, .bool false] [(0, .t 29)] false⟩,
                ⟨some 31, none, .app 3 24 (.t 24) (.t 30)⟩,
                ⟨some 7, none, .mv true (.t 31)⟩]))))
           (.region [
             ⟨some 15, none, .mv false (.t 8)⟩,
             ⟨some 16, none, .bin .add (.t 15) (.c (.int .i64 1))⟩,
             ⟨some 8, none, .mv true (.t 16)⟩]))))))
      (.seq
       (.region [
         ⟨some 32, none, .mv true (.t 7)⟩,
         ⟨some 6, none, .mv true (.t 32)⟩])
       .ret)))⟩
theorem t67 : compF Try.prog { ros := [3, 5] } 67 = some p67 := by kernel_rfl
def p68 : PFn :=
  ⟨8, [.c 2 3 true], .seq
    (.region [
      ⟨some 1, none, .bxI 3 (.t 0)⟩,
      ⟨some 2, none, .al [.int .i64 0, .int .i64 0, .bool false]⟩])
    (.seq
     (.region [
       ⟨some 3, none, .fad 0 (.t 1)⟩,
       ⟨some 4, none, .ld 1 false false (.t 3)⟩,
       ⟨some 5, none, .fad 1 (.t 1)⟩,
       ⟨some 6, none, .ld 1 false false (.t 5)⟩,
       ⟨some 7, none, .build [.int .i64 0, .int .i64 0, .bool false] [(0, (1, .t 4)), (1, (1, .t 6))]⟩,
       ⟨none, none, .sto 3 (.t 2) (.t 7)⟩])
     .ret)⟩
theorem t68 : compF Try.prog { ros := [1] } 68 = some p68 := by kernel_rfl
def p69 : PFn :=
  ⟨10, [], .draw [
     ⟨some 3, none, .mv false (.t 0)⟩,
     ⟨some 4, none, .nck (.t 3)⟩,
     ⟨some 5, none, .fad 0 (.t 4)⟩,
     ⟨some 6, none, .ld 1 false false (.t 5)⟩,
     ⟨some 7, none, .ld 1 false false (.t 1)⟩,
     ⟨some 8, none, .iad 3 (.t 6) (.t 7)⟩,
     ⟨some 9, none, .fad 2 (.t 8)⟩,
     ⟨none, none, .sto 1 (.t 9) (.c (.bool false))⟩] []⟩
theorem t69 : compF Try.prog {} 69 = some p69 := by kernel_rfl
def p70 : PFn :=
  ⟨17, [.t 4, .t 5], .seq
    (.region [
      ⟨some 4, none, .mv true (.c (.int .u32 0))⟩,
      ⟨some 5, none, .mv true (.c (.int .u32 0))⟩])
    (.seq
     (.region [
       ⟨some 7, none, .mv false (.t 0)⟩,
       ⟨some 8, none, .cvI .u64 (.t 7)⟩,
       ⟨some 9, none, .mv false (.t 1)⟩,
       ⟨some 10, none, .cvI .u64 (.t 9)⟩,
       ⟨some 11, none, .bin .mul (.t 8) (.t 10)⟩,
       ⟨some 6, none, .mv true (.t 11)⟩])
     (.seq
      (.region [
        ⟨some 12, none, .mv false (.t 6)⟩,
        ⟨some 13, none, .bin .shr (.t 12) (.c (.int .u64 32))⟩,
        ⟨some 14, none, .cvI .u32 (.t 13)⟩,
        ⟨some 15, none, .mv false (.t 6)⟩,
        ⟨some 16, none, .cvI .u32 (.t 15)⟩,
        ⟨some 4, none, .mv true (.t 14)⟩,
        ⟨some 5, none, .mv true (.t 16)⟩])
      .ret))⟩
theorem t70 : compF Try.prog {} 70 = some p70 := by kernel_rfl
def p71 : PFn :=
  ⟨51, [.t 4, .t 5], .seq
    (.region [
      ⟨some 4, none, .mv true (.c (.int .u64 0))⟩,
      ⟨some 5, none, .mv true (.c (.int .u64 0))⟩])
    (.seq
     (.region [
       ⟨some 14, none, .mv false (.t 0)⟩,
       ⟨some 15, none, .bin .and (.t 14) (.c (.int .u64 4294967295))⟩,
       ⟨some 6, none, .mv true (.t 15)⟩])
     (.seq
      (.region [
        ⟨some 16, none, .mv false (.t 0)⟩,
        ⟨some 17, none, .bin .shr (.t 16) (.c (.int .u64 32))⟩,
        ⟨some 7, none, .mv true (.t 17)⟩])
      (.seq
       (.region [
         ⟨some 18, none, .mv false (.t 1)⟩,
         ⟨some 19, none, .bin .and (.t 18) (.c (.int .u64 4294967295))⟩,
         ⟨some 8, none, .mv true (.t 19)⟩])
       (.seq
        (.region [
          ⟨some 20, none, .mv false (.t 1)⟩,
          ⟨some 21, none, .bin .shr (.t 20) (.c (.int .u64 32))⟩,
          ⟨some 9, none, .mv true (.t 21)⟩])
        (.seq
         (.region [
           ⟨some 22, none, .mv false (.t 6)⟩,
           ⟨some 23, none, .mv false (.t 8)⟩,
           ⟨some 24, none, .bin .mul (.t 22) (.t 23)⟩,
           ⟨some 10, none, .mv true (.t 24)⟩])
         (.seq
          (.region [
            ⟨some 25, none, .mv false (.t 7)⟩,
            ⟨some 26, none, .mv false (.t 8)⟩,
            ⟨some 27, none, .bin .mul (.t 25) (.t 26)⟩,
            ⟨some 28, none, .mv false (.t 10)⟩,
            ⟨some 29, none, .bin .shr (.t 28) (.c (.int .u64 32))⟩,
            ⟨some 30, none, .bin .add (.t 27) (.t 29)⟩,
            ⟨some 11, none, .mv true (.t 30)⟩])
          (.seq
           (.region [
             ⟨some 31, none, .mv false (.t 11)⟩,
             ⟨some 32, none, .bin .and (.t 31) (.c (.int .u64 4294967295))⟩,
             ⟨some 12, none, .mv true (.t 32)⟩])
           (.seq
            (.region [
              ⟨some 33, none, .mv false (.t 11)⟩,
              ⟨some 34, none, .bin .shr (.t 33) (.c (.int .u64 32))⟩,
              ⟨some 13, none, .mv true (.t 34)⟩])
            (.seq
             (.region [
               ⟨some 35, none, .mv false (.t 12)⟩,
               ⟨some 36, none, .mv false (.t 6)⟩,
               ⟨some 37, none, .mv false (.t 9)⟩,
               ⟨some 38, none, .bin .mul (.t 36) (.t 37)⟩,
               ⟨some 39, none, .bin .add (.t 35) (.t 38)⟩,
               ⟨some 12, none, .mv true (.t 39)⟩])
             (.seq
              (.region [
                ⟨some 40, none, .mv false (.t 7)⟩,
                ⟨some 41, none, .mv false (.t 9)⟩,
                ⟨some 42, none, .bin .mul (.t 40) (.t 41)⟩,
                ⟨some 43, none, .mv false (.t 13)⟩,
                ⟨some 44, none, .bin .add (.t 42) (.t 43)⟩,
                ⟨some 45, none, .mv false (.t 12)⟩,
                ⟨some 46, none, .bin .shr (.t 45) (.c (.int .u64 32))⟩,
                ⟨some 47, none, .bin .add (.t 44) (.t 46)⟩,
                ⟨some 4, none, .mv true (.t 47)⟩])
              (.seq
               (.region [
                 ⟨some 48, none, .mv false (.t 0)⟩,
                 ⟨some 49, none, .mv false (.t 1)⟩,
                 ⟨some 50, none, .bin .mul (.t 48) (.t 49)⟩,
                 ⟨some 5, none, .mv true (.t 50)⟩])
               .ret)))))))))))⟩
theorem t71 : compF Try.prog {} 71 = some p71 := by kernel_rfl
def p62r : PFn :=
  ⟨8, [.t 2], .seq
    (.region [
      ⟨some 2, none, .mv true (.c (.lst 0 [] true))⟩])
    (.seq
     (.seq
      (.region [
        ⟨some 3, none, .mv false (.t 0)⟩,
        ⟨some 4, none, .eqN false (.t 3)⟩])
      (.cond (.t 4)
       (.seq
        (.region [
          ⟨some 2, none, .mv true (.c (.lst 0 [] true))⟩])
        .ret)
       .skip))
     (.seq
      (.region [
        ⟨some 5, none, .bsl 3 0 true [] [] true⟩,
        ⟨some 6, none, .mv false (.t 0)⟩,
        ⟨some 7, none, .appR 3 40 [.lst 0 [] true, .int .i64 0, .int .i64 0] (.t 5) (.t 6)⟩,
        ⟨some 2, none, .mv true (.t 7)⟩])
      .ret))⟩
theorem t62r : compF Try.prog { rows := [5, 7] } 62 = some p62r := by kernel_rfl
def p63r : PFn :=
  ⟨8, [.t 2], .seq
    (.region [
      ⟨some 2, none, .mv true (.c (.lst 0 [] true))⟩])
    (.seq
     (.seq
      (.region [
        ⟨some 3, none, .mv false (.t 0)⟩,
        ⟨some 4, none, .eqN false (.t 3)⟩])
      (.cond (.t 4)
       (.seq
        (.region [
          ⟨some 2, none, .mv true (.c (.lst 0 [] true))⟩])
        .ret)
       .skip))
     (.seq
      (.region [
        ⟨some 5, none, .bsl 3 0 true [] [] true⟩,
        ⟨some 6, none, .mv false (.t 0)⟩,
        ⟨some 7, none, .appR 3 24 [.int .i64 0, .int .i64 0, .bool false] (.t 5) (.t 6)⟩,
        ⟨some 2, none, .mv true (.t 7)⟩])
      .ret))⟩
theorem t63r : compF Try.prog { rows := [5, 7] } 63 = some p63r := by kernel_rfl
def p42r : PFn :=
  ⟨48, [.t 4], .seq
    (.region [
      ⟨some 4, none, .mv true (.c (.lst 0 [] true))⟩])
    (.seq
     (.seq
      (.region [
        ⟨some 9, none, .mv false (.t 1)⟩,
        ⟨some 10, none, .bin .lss (.t 9) (.c (.int .i64 0))⟩])
      (.cond (.t 10)
       (.region [
         ⟨some 11, none, .bad⟩,
         ⟨none, none, .bad⟩])
       .skip))
     (.seq
      (.region [
        ⟨some 13, none, .mv false (.t 0)⟩,
        ⟨some 14, none, .len false (.t 13)⟩,
        ⟨some 15, none, .cvI .u64 (.t 14)⟩,
        ⟨some 16, none, .mv false (.t 1)⟩,
        ⟨some 17, none, .cvI .u64 (.t 16)⟩,
        ⟨some 18, none, .callF 64 [.t 15, .t 17] []⟩,
        ⟨some 12, none, .mv true (.t 18)⟩,
        ⟨some 19, none, .ext false (.t 12) 0⟩,
        ⟨some 20, none, .ext false (.t 12) 1⟩,
        ⟨some 5, none, .mv true (.t 19)⟩,
        ⟨some 6, none, .mv true (.t 20)⟩])
      (.seq
       (.seq
        (.region [
          ⟨some 21, none, .mv false (.t 5)⟩,
          ⟨some 22, none, .bin .gtr (.t 21) (.c (.int .u64 0))⟩,
          ⟨some 23, none, .mv false (.t 22)⟩,
          ⟨some 24, some (23, false), .mv false (.t 6)⟩,
          ⟨some 25, some (23, false), .bin .gtr (.t 24) (.c (.int .u64 9223372036854775807))⟩,
          ⟨some 26, none, .pick (.t 23) (.c (.bool true)) (.t 25)⟩])
        (.cond (.t 26)
         (.region [
           ⟨some 27, none, .bad⟩,
           ⟨none, none, .bad⟩])
         .skip))
       (.seq
        (.region [
          ⟨some 28, none, .mv false (.t 6)⟩,
          ⟨some 29, none, .cvI .i64 (.t 28)⟩,
          ⟨some 30, none, .mk 3 40 true [.lst 0 [] true, .int .i64 0, .int .i64 0] (.t 29) (.t 29) true⟩,
          ⟨some 7, none, .mv true (.t 30)⟩])
        (.seq
         (.region [
           ⟨some 31, none, .mv false (.t 7)⟩,
           ⟨some 32, none, .mv false (.t 0)⟩,
           ⟨some 33, none, .cpy 3 (.t 31) (.t 32)⟩,
           ⟨some 8, none, .mv true (.t 33)⟩])
         (.seq
          (.block 0
           (.loop
            (.seq
             (.seq
              (.region [
                ⟨some 34, none, .mv false (.t 8)⟩,
                ⟨some 35, none, .mv false (.t 7)⟩,
                ⟨some 36, none, .len false (.t 35)⟩,
                ⟨some 37, none, .bin .lss (.t 34) (.t 36)⟩])
              (.cond (.t 37)
               .skip
               (.exit 0)))
             (.block 1
              (.draw [
                ⟨some 38, none, .mv false (.t 8)⟩,
                ⟨some 39, none, .mv false (.t 7)⟩,
                ⟨some 40, none, .mv false (.t 8)⟩,
                ⟨some 41, none, .sli 3 (.t 39) (some (.t 40)) none none⟩,
                ⟨some 42, none, .mv false (.t 7)⟩,
                ⟨some 43, none, .mv false (.t 8)⟩,
                ⟨some 44, none, .sli 3 (.t 42) none (some (.t 43)) none⟩,
                ⟨some 45, none, .cpy 3 (.t 41) (.t 44)⟩,
                ⟨some 46, none, .bin .add (.t 38) (.t 45)⟩,
                ⟨some 8, none, .mv true (.t 46)⟩] [])))))
          (.seq
           (.region [
             ⟨some 47, none, .mv true (.t 7)⟩,
             ⟨some 4, none, .mv true (.t 47)⟩])
           .ret)))))))⟩
theorem t42r : compF Try.prog { rows := [30] } 42 = some p42r := by kernel_rfl
def p37t : PFn :=
  ⟨16, [], .draw [
     ⟨some 4, none, .mv false (.t 0)⟩,
     ⟨some 5, none, .mv false (.t 0)⟩,
     ⟨some 6, none, .nck (.t 5)⟩,
     ⟨some 7, none, .fad 0 (.t 6)⟩,
     ⟨some 8, none, .ld 1 false true (.t 7)⟩,
     ⟨some 9, none, .ld 1 false false (.t 1)⟩,
     ⟨some 10, none, .ld 1 false false (.t 2)⟩,
     ⟨some 11, none, .build [.int .i64 0, .int .i64 0, .bool false] [(0, (1, .t 9)), (1, (1, .t 10)), (2, (1, .c (.bool true)))]⟩,
     ⟨some 12, none, .bsl 3 1 true [.int .i64 0, .int .i64 0, .bool false] [(0, .t 11)] false⟩,
     ⟨some 13, none, .app 3 24 (.t 8) (.t 12)⟩,
     ⟨some 14, none, .nck (.t 4)⟩,
     ⟨some 15, none, .fad 0 (.t 14)⟩,
     ⟨none, none, .sto 1 (.t 15) (.t 13)⟩] [(5, 4), (6, 4)]⟩
theorem t37t : compF Try.prog { loads := [8] } 37 = some p37t := by kernel_rfl
def p9p : PFn :=
  ⟨72, [.c 2 3 true], .seq
    (.region [
      ⟨some 1, none, .bxI 3 (.t 0)⟩,
      ⟨some 2, none, .al [.int .i64 0, .int .i64 0, .lst 0 [] true]⟩])
    (.seq
     (.region [
       ⟨some 8, none, .fad 0 (.t 1)⟩,
       ⟨some 9, none, .ld 1 false false (.t 8)⟩,
       ⟨some 10, none, .fad 1 (.t 1)⟩,
       ⟨some 11, none, .ld 1 false false (.t 10)⟩,
       ⟨some 12, none, .build [.int .i64 0, .int .i64 0, .lst 0 [] true] [(0, (1, .t 9)), (1, (1, .t 11))]⟩,
       ⟨some 3, none, .al [.int .i64 0, .int .i64 0, .lst 0 [] true]⟩,
       ⟨none, none, .sto 3 (.t 3) (.t 12)⟩])
     (.seq
      (.seq
       (.region [
         ⟨some 4, none, .mv true (.c (.int .i64 0))⟩])
       (.block 0
        (.loop
         (.seq
          (.seq
           (.region [
             ⟨some 13, none, .mv false (.t 4)⟩,
             ⟨some 14, none, .fad 2 (.t 1)⟩,
             ⟨some 15, none, .ld 1 false false (.t 14)⟩,
             ⟨some 16, none, .len false (.t 15)⟩,
             ⟨some 17, none, .bin .lss (.t 13) (.t 16)⟩])
           (.cond (.t 17)
            .skip
            (.exit 0)))
          (.seq
           (.block 1
            (.seq
             (.drawN [
               ⟨some 20, none, .fad 2 (.t 1)⟩,
               ⟨some 21, none, .ld 1 false false (.t 20)⟩,
               ⟨some 22, none, .mv false (.t 4)⟩,
               ⟨some 23, none, .iad 3 (.t 21) (.t 22)⟩,
               ⟨some 24, none, .fad 1 (.t 23)⟩,
               ⟨some 25, none, .ld 1 false false (.t 24)⟩,
               ⟨some 26, none, .fad 2 (.t 1)⟩,
               ⟨some 27, none, .ld 1 false false (.t 26)⟩,
               ⟨some 28, none, .mv false (.t 4)⟩,
               ⟨some 29, none, .iad 3 (.t 27) (.t 28)⟩,
               ⟨some 30, none, .fad 2 (.t 29)⟩,
               ⟨some 31, none, .ld 1 false false (.t 30)⟩,
               ⟨some 32, none, .build [.lst 0 [] true, .int .i64 0, .int .i64 0] [(1, (1, .t 25)), (2, (1, .t 31))]⟩,
               ⟨some 5, none, .mv false (.c .unit)⟩,
               ⟨some 5, none, .mvc 3 (.t 32)⟩] [] [(13, (14, (5, 3)))])
             (.seq
              (.seq
               (.region [
                 ⟨some 6, none, .mv true (.c (.int .i64 0))⟩])
               (.block 2
                (.loop
                 (.seq
                  (.seq
                   (.region [
                     ⟨some 33, none, .mv false (.t 6)⟩,
                     ⟨some 34, none, .fad 2 (.t 1)⟩,
                     ⟨some 35, none, .ld 1 false false (.t 34)⟩,
                     ⟨some 36, none, .mv false (.t 4)⟩,
                     ⟨some 37, none, .iad 3 (.t 35) (.t 36)⟩,
                     ⟨some 38, none, .fad 0 (.t 37)⟩,
                     ⟨some 39, none, .ld 1 false false (.t 38)⟩,
                     ⟨some 40, none, .len false (.t 39)⟩,
                     ⟨some 41, none, .bin .lss (.t 33) (.t 40)⟩])
                   (.cond (.t 41)
                    .skip
                    (.exit 2)))
                  (.seq
                   (.block 3
                    (.seq
                     (.region [
                       ⟨some 44, none, .fad 2 (.t 1)⟩,
                       ⟨some 45, none, .ld 1 false false (.t 44)⟩,
                       ⟨some 46, none, .mv false (.t 4)⟩,
                       ⟨some 47, none, .iad 3 (.t 45) (.t 46)⟩,
                       ⟨some 48, none, .fad 0 (.t 47)⟩,
                       ⟨some 49, none, .ld 1 false false (.t 48)⟩,
                       ⟨some 50, none, .mv false (.t 6)⟩,
                       ⟨some 51, none, .iad 3 (.t 49) (.t 50)⟩,
                       ⟨some 52, none, .ld 3 true false (.t 51)⟩,
                       ⟨some 7, none, .al [.int .i64 0, .int .i64 0, .bool false]⟩,
                       ⟨none, none, .sto 3 (.t 7) (.t 52)⟩])
                     (.region [
                       ⟨some 53, none, .fad 0 (.t 5)⟩,
                       ⟨some 54, none, .ld 1 false true (.t 53)⟩,
                       ⟨some 55, none, .fad 0 (.t 7)⟩,
                       ⟨some 56, none, .ld 1 false false (.t 55)⟩,
                       ⟨some 57, none, .fad 1 (.t 7)⟩,
                       ⟨some 58, none, .ld 1 false false (.t 57)⟩,
                       ⟨some 59, none, .fad 2 (.t 7)⟩,
                       ⟨some 60, none, .ld 1 false false (.t 59)⟩,
                       ⟨some 61, none, .build [.int .i64 0, .int .i64 0, .bool false] [(0, (1, .t 56)), (1, (1, .t 58)), (2, (1, .t 60))]⟩,
                       ⟨some 62, none, .bsl 3 1 true [.int .i64 0, .int .i64 0, .bool false] [(0, .t 61)] false⟩,
                       ⟨some 63, none, .app 3 24 (.t 54) (.t 62)⟩,
                       ⟨some 64, none, .fad 0 (.t 5)⟩,
                       ⟨none, none, .sto 1 (.t 64) (.t 63)⟩])))
                   (.region [
                     ⟨some 42, none, .mv false (.t 6)⟩,
                     ⟨some 43, none, .bin .add (.t 42) (.c (.int .i64 1))⟩,
                     ⟨some 6, none, .mv true (.t 43)⟩]))))))
              (.region [
                ⟨some 65, none, .fad 2 (.t 3)⟩,
                ⟨some 66, none, .ld 1 false true (.t 65)⟩,
                ⟨some 67, none, .ld 3 true false (.t 5)⟩,
                ⟨some 68, none, .bsl 3 1 true [.lst 0 [] true, .int .i64 0, .int .i64 0] [(0, .t 67)] false⟩,
                ⟨some 69, none, .app 3 40 (.t 66) (.t 68)⟩,
                ⟨some 70, none, .fad 2 (.t 3)⟩,
                ⟨none, none, .sto 1 (.t 70) (.t 69)⟩]))))
           (.region [
             ⟨some 18, none, .mv false (.t 4)⟩,
             ⟨some 19, none, .bin .add (.t 18) (.c (.int .i64 1))⟩,
             ⟨some 4, none, .mv true (.t 19)⟩]))))))
      (.seq
       (.region [
         ⟨some 71, none, .ld 3 true false (.t 3)⟩,
         ⟨none, none, .sto 3 (.t 2) (.t 71)⟩])
       .ret)))⟩
theorem t9p : compF Try.prog { loads := [54, 66], ros := [1] } 9 = some p9p := by kernel_rfl
def tab : List (Nat × PFn) := [(2, p2), (3, p3), (4, p4), (5, p5), (6, p6), (7, p7), (8, p8), (9, p9), (10, p10), (11, p11), (12, p12), (13, p13), (14, p14), (15, p15), (16, p16), (17, p17), (18, p18), (19, p19), (20, p20), (21, p21), (22, p22), (23, p23), (24, p24), (25, p25), (26, p26), (27, p27), (28, p28), (29, p29), (30, p30), (31, p31), (32, p32), (33, p33), (34, p34), (35, p35), (36, p36), (37, p37), (38, p38), (39, p39), (40, p40), (41, p41), (42, p42), (43, p43), (44, p44), (45, p45), (46, p46), (47, p47), (48, p48), (49, p49), (50, p50), (51, p51), (52, p52), (53, p53), (54, p54), (55, p55), (56, p56), (57, p57), (58, p58), (59, p59), (60, p60), (61, p61), (62, p62), (63, p63), (64, p64), (65, p65), (66, p66), (67, p67), (68, p68), (69, p69), (70, p70), (71, p71)]
theorem tabOk : TabOk Try.prog tab := .cons t2 <| .cons t3 <| .cons t4 <| .cons t5 <| .cons t6 <| .cons t7 <| .cons t8 <| .cons t9 <| .cons t10 <| .cons t11 <| .cons t12 <| .cons t13 <| .cons t14 <| .cons t15 <| .cons t16 <| .cons t17 <| .cons t18 <| .cons t19 <| .cons t20 <| .cons t21 <| .cons t22 <| .cons t23 <| .cons t24 <| .cons t25 <| .cons t26 <| .cons t27 <| .cons t28 <| .cons t29 <| .cons t30 <| .cons t31 <| .cons t32 <| .cons t33 <| .cons t34 <| .cons t35 <| .cons t36 <| .cons t37 <| .cons t38 <| .cons t39 <| .cons t40 <| .cons t41 <| .cons t42 <| .cons t43 <| .cons t44 <| .cons t45 <| .cons t46 <| .cons t47 <| .cons t48 <| .cons t49 <| .cons t50 <| .cons t51 <| .cons t52 <| .cons t53 <| .cons t54 <| .cons t55 <| .cons t56 <| .cons t57 <| .cons t58 <| .cons t59 <| .cons t60 <| .cons t61 <| .cons t62 <| .cons t63 <| .cons t64 <| .cons t65 <| .cons t66 <| .cons t67 <| .cons t68 <| .cons t69 <| .cons t70 <| .cons t71 <| .nil
theorem hmix : Try.prog.follows .mixedOrders = true := by kernel_rfl
theorem good (n d : Nat) : Good Try.prog (evF (tabOf tab) noPrim n d) := evF_sound hmix tabOk noPrim_good d
end Go.Proofs.Ytkjibelcaeanjaa.E
/- More functions as operations on plain values. -/
namespace Go.Proofs.Ytkjibelcaeanjaa.E
open Go Go.RowKit Go.Proofs
set_option linter.unusedVariables false
set_option maxRecDepth 100000
def p65w : PFn :=
  ⟨41, [.c 6 3 true], .seq
    (.region [
      ⟨some 3, none, .bxI 3 (.t 0)⟩,
      ⟨some 5, none, .bxI 3 (.t 2)⟩,
      ⟨some 6, none, .al [.int .i64 0, .int .i64 0, .lst 0 [] true]⟩])
    (.seq
     (.region [
       ⟨some 9, none, .fad 0 (.t 3)⟩,
       ⟨some 10, none, .ld 1 false false (.t 9)⟩,
       ⟨some 11, none, .fad 1 (.t 3)⟩,
       ⟨some 12, none, .ld 1 false false (.t 11)⟩,
       ⟨some 13, none, .build [.int .i64 0, .int .i64 0, .lst 0 [] true] [(0, (1, .t 10)), (1, (1, .t 12))]⟩,
       ⟨some 7, none, .al [.int .i64 0, .int .i64 0, .lst 0 [] true]⟩,
       ⟨none, none, .sto 3 (.t 7) (.t 13)⟩])
     (.seq
      (.seq
       (.region [
         ⟨some 8, none, .mv true (.c (.int .i64 0))⟩])
       (.block 0
        (.loop
         (.seq
          (.seq
           (.region [
             ⟨some 14, none, .mv false (.t 8)⟩,
             ⟨some 15, none, .fad 2 (.t 3)⟩,
             ⟨some 16, none, .ld 1 false false (.t 15)⟩,
             ⟨some 17, none, .len false (.t 16)⟩,
             ⟨some 18, none, .bin .lss (.t 14) (.t 17)⟩])
           (.cond (.t 18)
            .skip
            (.exit 0)))
          (.seq
           (.block 1
            (.seq
             (.region [
               ⟨some 21, none, .mv false (.t 8)⟩,
               ⟨some 22, none, .mv false (.t 1)⟩,
               ⟨some 23, none, .bin .eql (.t 21) (.t 22)⟩])
             (.cond (.t 23)
              (.region [
                ⟨some 24, none, .fad 2 (.t 7)⟩,
                ⟨some 25, none, .ld 1 false true (.t 24)⟩,
                ⟨some 26, none, .ld 3 true false (.t 5)⟩,
                ⟨some 27, none, .bsl 3 1 true [.lst 0 [] true, .int .i64 0, .int .i64 0] [(0, .t 26)] false⟩,
                ⟨some 28, none, .app 3 40 (.t 25) (.t 27)⟩,
                ⟨some 29, none, .fad 2 (.t 7)⟩,
                ⟨none, none, .sto 1 (.t 29) (.t 28)⟩])
              (.draw [
                ⟨some 30, none, .fad 2 (.t 7)⟩,
                ⟨some 31, none, .ld 1 false true (.t 30)⟩,
                ⟨some 32, none, .fad 2 (.t 3)⟩,
                ⟨some 33, none, .ld 1 false false (.t 32)⟩,
                ⟨some 34, none, .mv false (.t 8)⟩,
                ⟨some 35, none, .iad 3 (.t 33) (.t 34)⟩,
                ⟨some 36, none, .ld 3 true false (.t 35)⟩,
                ⟨some 37, none, .bsl 3 1 true [.lst 0 [] true, .int .i64 0, .int .i64 0] [(0, .t 36)] false⟩,
                ⟨some 38, none, .app 3 40 (.t 31) (.t 37)⟩,
                ⟨some 39, none, .fad 2 (.t 7)⟩,
                ⟨none, none, .sto 1 (.t 39) (.t 38)⟩] [(3, 1), (6, 1)]))))
           (.region [
             ⟨some 19, none, .mv false (.t 8)⟩,
             ⟨some 20, none, .bin .add (.t 19) (.c (.int .i64 1))⟩,
             ⟨some 8, none, .mv true (.t 20)⟩]))))))
      (.seq
       (.region [
         ⟨some 40, none, .ld 3 true false (.t 7)⟩,
         ⟨none, none, .sto 3 (.t 6) (.t 40)⟩])
       .ret)))⟩
theorem t65w : compF Try.prog { loads := [25, 31], ros := [3, 5] } 65 = some p65w := by kernel_rfl
def p16n : PFn :=
  ⟨48, [.c 6 3 true, .t 7], .seq
    (.region [
      ⟨some 6, none, .al [.int .i64 0, .int .i64 0, .lst 0 [] true]⟩,
      ⟨some 7, none, .mv true (.c (.int .i64 0))⟩])
    (.seq
     (.seq
      (.region [
        ⟨some 10, none, .mv false (.t 0)⟩,
        ⟨some 11, none, .bin .lss (.t 10) (.c (.int .i64 0))⟩,
        ⟨some 12, none, .mv false (.t 11)⟩,
        ⟨some 13, some (12, false), .mv false (.t 0)⟩,
        ⟨some 14, some (12, false), .bin .gtr (.t 13) (.c (.int .i64 200))⟩,
        ⟨some 15, none, .pick (.t 12) (.c (.bool true)) (.t 14)⟩,
        ⟨some 16, none, .mv false (.t 15)⟩,
        ⟨some 17, some (16, false), .mv false (.t 1)⟩,
        ⟨some 18, some (16, false), .bin .lss (.t 17) (.c (.int .i64 1))⟩,
        ⟨some 19, none, .pick (.t 16) (.c (.bool true)) (.t 18)⟩,
        ⟨some 20, none, .mv false (.t 19)⟩,
        ⟨some 21, some (20, false), .mv false (.t 1)⟩,
        ⟨some 22, some (20, false), .bin .gtr (.t 21) (.c (.int .i64 10))⟩,
        ⟨some 23, none, .pick (.t 20) (.c (.bool true)) (.t 22)⟩,
        ⟨some 24, none, .mv false (.t 23)⟩,
        ⟨some 25, some (24, false), .mv false (.t 2)⟩,
        ⟨some 26, some (24, false), .bin .lss (.t 25) (.c (.int .i64 1))⟩,
        ⟨some 27, none, .pick (.t 24) (.c (.bool true)) (.t 26)⟩,
        ⟨some 28, none, .mv false (.t 27)⟩,
        ⟨some 29, some (28, false), .mv false (.t 2)⟩,
        ⟨some 30, some (28, false), .bin .gtr (.t 29) (.c (.int .i64 1000))⟩,
        ⟨some 31, none, .pick (.t 28) (.c (.bool true)) (.t 30)⟩])
      (.cond (.t 31)
       (.seq
        (.region [
          ⟨some 32, none, .build [.int .i64 0, .int .i64 0, .lst 0 [] true] []⟩,
          ⟨none, none, .sto 3 (.t 6) (.t 32)⟩,
          ⟨some 7, none, .mv true (.c (.int .i64 1))⟩])
        .ret)
       .skip))
     (.seq
      (.region [
        ⟨some 33, none, .mv false (.t 1)⟩,
        ⟨some 34, none, .mv false (.t 2)⟩,
        ⟨some 35, none, .build [.int .i64 0, .int .i64 0, .lst 0 [] true] [(0, (1, .t 33)), (1, (1, .t 34))]⟩,
        ⟨some 8, none, .al [.int .i64 0, .int .i64 0, .lst 0 [] true]⟩,
        ⟨none, none, .sto 3 (.t 8) (.t 35)⟩])
      (.seq
       (.seq
        (.region [
          ⟨some 9, none, .mv true (.c (.int .i64 0))⟩])
        (.block 0
         (.loop
          (.seq
           (.seq
            (.region [
              ⟨some 36, none, .mv false (.t 9)⟩,
              ⟨some 37, none, .mv false (.t 0)⟩,
              ⟨some 38, none, .bin .lss (.t 36) (.t 37)⟩])
            (.cond (.t 38)
             .skip
             (.exit 0)))
           (.seq
            (.block 1
             (.region [
               ⟨some 41, none, .fad 2 (.t 8)⟩,
               ⟨some 42, none, .ld 1 false true (.t 41)⟩,
               ⟨some 43, none, .build [.lst 0 [] true, .int .i64 0, .int .i64 0] [(1, (1, .c (.int .i64 (-1))))]⟩,
               ⟨some 44, none, .bsl 3 1 true [.lst 0 [] true, .int .i64 0, .int .i64 0] [(0, .t 43)] false⟩,
               ⟨some 45, none, .app 3 40 (.t 42) (.t 44)⟩,
               ⟨some 46, none, .fad 2 (.t 8)⟩,
               ⟨none, none, .sto 1 (.t 46) (.t 45)⟩]))
            (.region [
              ⟨some 39, none, .mv false (.t 9)⟩,
              ⟨some 40, none, .bin .add (.t 39) (.c (.int .i64 1))⟩,
              ⟨some 9, none, .mv true (.t 40)⟩]))))))
       (.seq
        (.region [
          ⟨some 47, none, .ld 3 true false (.t 8)⟩,
          ⟨none, none, .sto 3 (.t 6) (.t 47)⟩,
          ⟨some 7, none, .mv true (.c (.int .i64 0))⟩])
        .ret))))⟩
theorem t16n : compF Try.prog { loads := [42] } 16 = some p16n := by kernel_rfl
end Go.Proofs.Ytkjibelcaeanjaa.E
/- Tables of tasks, on plain values. -/
namespace Go.Proofs.Ytkjibelcaeanjaa.E
open Go Go.RowKit Go.Proofs
set_option linter.unusedVariables false
set_option linter.unusedSimpArgs false
structure Tr where
  w : Int
  b : Int
  o : Bool
  deriving DecidableEq
structure Tk where
  tr : List Tr
  dn : Int
  fl : Int
structure Tb where
  cap : Int
  tm : Int
  l : List Tk
def trV (t : Tr) : PV := .agg [.int .i64 t.w, .int .i64 t.b, .bool t.o]
def tkV (k : Tk) : PV := .agg [.lst 3 (k.tr.map trV) false, .int .i64 k.dn, .int .i64 k.fl]
def tbV (t : Tb) : PV := .agg [.int .i64 t.cap, .int .i64 t.tm, .lst 3 (t.l.map tkV) false]
def opn (k : Tk) : List Tr := k.tr.filter (·.o)
def inB (n lo hi : Int) : Bool := decide (lo ≤ n ∧ n ≤ hi)
theorem isIn (n lo hi : Int) : PSpec Try.prog 40 [.int .i64 n, .int .i64 lo, .int .i64 hi] (.bool (inB n lo hi)) := by
  intro H
  refine spec_of t40 (by simp [p40]) ?_
  simp only [p40]
  refine pwp_sr fun K hK => ?_
  simp [runM_nil]
  refine hK _ _ (pwp_sr fun K hK => ?_)
  by_cases h : lo ≤ n
  all_goals
    simp [runM_nil, h]
    refine hK _ _ (pwp_ret ?_)
    simp [runM_nil, resL, resV, h, inB]
theorem take_filter_succ {α : Type} (p : α → Bool) (l : List α) (i : Nat) (h : i < l.length) : (l.take (i + 1)).filter p = (l.take i).filter p ++ (if p l[i] then [l[i]] else []) := by
  rw [List.take_succ_eq_append_getElem h, List.filter_append]
  simp [List.filter_cons]
theorem open_ok (k : Tk) (hl : k.tr.length ≤ 4000000000000) : PSpec Try.prog 30 [tkV k] (.lst 3 ((opn k).map trV) true) := by
  intro H
  refine spec_ofU t30 (by simp [p30]) ?_
  simp only [p30]
  refine pwp_sr fun K hK => ?_
  simp [runM_nil, tkV]
  refine hK _ _ (pwp_sr fun K hK => ?_)
  simp [runM_nil]
  refine hK _ _ (pwp_seq (pwp_sr fun K hK => ?_))
  simp [runM_nil]
  refine hK _ _ (pwp_block ?_)
  refine pwp_loopU [3, 7, 8, 9] (fun m st H' => ∃ i, i ≤ k.tr.length ∧ m = k.tr.length - i ∧ H' = H ∧ st = MS 21 [(3, .lst 3 (((k.tr.take i).filter (·.o)).map trV) true), (7, .lst 3 (k.tr.map trV) false), (8, .int .i64 k.tr.length), (9, .int .i64 i)]) (n := k.tr.length)
    ⟨_, H, keep_up (l' := [(3, .lst 3 [] true), (7, .lst 3 (k.tr.map trV) false), (8, .int .i64 k.tr.length), (9, .int .i64 0)]) ?_, List.Sublist.refl _, 0, Nat.zero_le _, rfl, rfl, ?_⟩ ?_
  · simp [keepA]
  · simp
  rintro m st _ ⟨i, hi, rfl, rfl, rfl⟩
  have hacc := take_filter_succ (·.o) k.tr i
  have hfl : ((k.tr.take i).filter (·.o)).length ≤ i := Nat.le_trans (List.length_filter_le _ _) (by rw [List.length_take]; omega)
  generalize hacc0 : ((k.tr.take i).filter (·.o)) = acc at *
  refine pwp_sr fun K hK => ?_
  by_cases hik : i < k.tr.length
  · have hacc := hacc hik
    have hw : IntKind.i64.wrap ((i : Int) + 1) = ((i + 1 : Nat) : Int) := by rw [w64 (by omega) (by omega)]; rfl
    have hgx : (k.tr.map trV)[i]? = some (trV k.tr[i]) := by simp [hik]
    generalize hx : k.tr[i] = x at *
    simp [runM_nil, hik]
    refine hK _ _ (pwp_sT (by simp [runM_nil]) (pwp_seq (pwp_block (pwp_sr fun K hK => ?_))))
    simp [runM_nil, hik, hx, trV]
    intro b hb
    refine hK _ _ (pwp_rifE fun K hK => ?_)
    simp [runM_nil]
    have hb3 : (acc.length + 1) * 24 ≤ 140737488355328 := by omega
    cases ho : x.o with
    | true =>
      refine hK _ _ (ifT (by simp [runM_nil, ho]) (pwp_regionM fun K hK => ?_))
      simp [runM_nil, hb3]
      refine hK _ _ (pwp_regionM fun K hK => ?_)
      simp [runM_nil, hw]
      refine hK _ _ ⟨k.tr.length - (i + 1), by omega, _, _, keep_up (l' := [(3, .lst 3 (((k.tr.take (i + 1)).filter (·.o)).map trV) true), (7, .lst 3 (k.tr.map trV) false), (8, .int .i64 k.tr.length), (9, .int .i64 (i + 1 : Nat))]) ?_, ?_, i + 1, by omega, rfl, rfl, rfl⟩
      · rw [hacc]
        simp [keepA, ho, trV]
      · exact .cons _ (List.Sublist.refl _)
    | false =>
      refine hK _ _ (ifF (by simp [runM_nil, ho]) (pwp_skip (pwp_regionM fun K hK => ?_)))
      simp [runM_nil, hw]
      refine hK _ _ ⟨k.tr.length - (i + 1), by omega, _, _, keep_up (l' := [(3, .lst 3 (((k.tr.take (i + 1)).filter (·.o)).map trV) true), (7, .lst 3 (k.tr.map trV) false), (8, .int .i64 k.tr.length), (9, .int .i64 (i + 1 : Nat))]) ?_, ?_, i + 1, by omega, rfl, rfl, rfl⟩
      · rw [hacc]
        simp [keepA, ho]
      · exact .cons _ (List.Sublist.refl _)
  · simp [runM_nil, hik]
    refine hK _ _ (pwp_seq (pwp_cF (by simp [runM_nil]) (pwp_exit (pwp_sr fun K hK => ?_))))
    simp [runM_nil]
    refine hK _ _ (pwp_ret ?_)
    have hii : i = k.tr.length := by omega
    subst hii
    exact ⟨.inr rfl, _, _, _, (by simp [runM_nil, resL]; rfl), List.Sublist.refl _, Up_refl _ _, by simp [resV, opn, ← hacc0], rfl⟩
def idxOf {α : Type} (p : α → Bool) (l : List α) : Int :=
  match l.findIdx? p with
  | some i => i
  | none => -1
theorem idxOf_none {α : Type} {p : α → Bool} {l : List α} (h : ∀ x ∈ l, p x = false) : idxOf p l = -1 := by
  unfold idxOf
  rw [List.findIdx?_eq_none_iff.2 h]
theorem idxOf_some {α : Type} {p : α → Bool} {l : List α} {i : Nat} (hi : i < l.length) (h : ∀ j, (hj : j < i) → p (l[j]'(Nat.lt_trans hj hi)) = false) (hp : p l[i] = true) : idxOf p l = i := by
  unfold idxOf
  rw [List.findIdx?_eq_some_iff_getElem.2 ⟨hi, hp, fun j hj => by rw [h j hj]; simp⟩]
theorem idxOf_ge {α : Type} (p : α → Bool) (l : List α) : decide (0 ≤ idxOf p l) = l.any p := by
  unfold idxOf
  cases h : l.findIdx? p with
  | none =>
    have := List.findIdx?_eq_none_iff.1 h
    show decide ((0 : Int) ≤ -1) = _
    rw [decide_eq_false (by omega)]
    symm
    rw [List.any_eq_false]
    intro x hx
    rw [this x hx]
    simp
  | some i =>
    obtain ⟨hi, hp, _⟩ := List.findIdx?_eq_some_iff_getElem.1 h
    simp only
    rw [decide_eq_true (by omega)]
    symm
    rw [List.any_eq_true]
    exact ⟨_, List.getElem_mem hi, hp⟩
/-- slices.IndexFunc over tasks. -/
theorem indexTk (l : List Tk) (F : Nat) (cp : List PV) (p : Tk → Bool) (hl : l.length ≤ 4000000000000) (hf : ∀ k ∈ l, PSpec Try.prog F (tkV k :: lendL cp) (.bool (p k))) :
    PSpec Try.prog 32 [.lst 3 (l.map tkV) false, .fn (.func F) [] cp] (.int .i64 (idxOf p l)) := by
  intro H
  refine spec_of t32 (by simp [p32]) ?_
  simp only [p32]
  refine pwp_sr fun K hK => ?_
  simp [runM_nil]
  refine hK _ _ (pwp_seq (pwp_sr fun K hK => ?_))
  simp [runM_nil]
  refine hK _ _ (pwp_block ?_)
  refine pwp_loopU [0, 1, 7, 8] (fun m st H' => ∃ i, i ≤ l.length ∧ m = l.length - i ∧ H' = H ∧ (∀ j, (hj : j < i) → (hj2 : j < l.length) → p l[j] = false) ∧ st = MS 19 [(0, .lst 3 (l.map tkV) false), (1, .fn (.func F) [] cp), (7, .int .i64 l.length), (8, .int .i64 i)]) (n := l.length)
    ⟨_, H, keep_up (l' := [(0, .lst 3 (l.map tkV) false), (1, .fn (.func F) [] cp), (7, .int .i64 l.length), (8, .int .i64 0)]) (by simp [keepA]), List.Sublist.refl _, 0, Nat.zero_le _, rfl, rfl, fun j hj => absurd hj (Nat.not_lt_zero _), rfl⟩ ?_
  rintro m st _ ⟨i, hi, rfl, rfl, hno, rfl⟩
  refine pwp_sr fun K hK => ?_
  by_cases hik : i < l.length
  · have hw : IntKind.i64.wrap ((i : Int) + 1) = ((i + 1 : Nat) : Int) := by rw [w64 (by omega) (by omega)]; rfl
    have hgx : (l.map tkV)[i]? = some (tkV l[i]) := by simp [hik]
    have hfx := hf l[i] (List.getElem_mem hik)
    simp only [tkV] at hfx hgx
    simp [runM_nil, hik]
    refine hK _ _ (pwp_sT (by simp [runM_nil]) (pwp_seq (pwp_block (pwp_sr fun K hK => ?_))))
    simp [runM_nil]
    refine hK _ _ (pwp_rifE fun K hK => ?_)
    simp [runM_nil, hik, tkV]
    refine useP hfx ?_
    simp [runM_nil]
    cases hp : p l[i] with
    | true =>
      refine hK _ _ (ifT (by simp [runM_nil, hp]) (pwp_sr fun K hK => ?_))
      simp [runM_nil]
      refine hK _ _ (pwp_ret ?_)
      simp [runM_nil, resL, resV]
      rw [idxOf_some hik (fun j hj => hno j hj (by omega)) hp]
    | false =>
      refine hK _ _ (ifF (by simp [runM_nil, hp]) (pwp_skip (pwp_regionM fun K hK => ?_)))
      simp [runM_nil, hw]
      refine hK _ _ ⟨l.length - (i + 1), by omega, _, _, keep_up (l' := [(0, .lst 3 (l.map tkV) false), (1, .fn (.func F) [] cp), (7, .int .i64 l.length), (8, .int .i64 (i + 1 : Nat))]) (by simp [keepA]), List.Sublist.refl _, i + 1, by omega, rfl, rfl, ?_, rfl⟩
      intro j hj hj2
      rcases Nat.lt_or_ge j i with h | h
      · exact hno j h hj2
      · obtain rfl : j = i := by omega
        exact hp
  · simp [runM_nil, hik]
    refine hK _ _ (pwp_seq (pwp_cF (by simp [runM_nil]) (pwp_exit (pwp_sr fun K hK => ?_))))
    simp [runM_nil]
    refine hK _ _ (pwp_ret ?_)
    simp [runM_nil, resL, resV]
    rw [idxOf_none fun x hx => ?_]
    obtain ⟨j, hj, rfl⟩ := List.getElem_of_mem hx
    exact hno j (by omega) hj
/-- slices.IndexFunc over attempts. -/
theorem indexTr (l : List Tr) (F : Nat) (cp : List PV) (p : Tr → Bool) (hl : l.length ≤ 4000000000000) (hf : ∀ k ∈ l, PSpec Try.prog F (trV k :: lendL cp) (.bool (p k))) :
    PSpec Try.prog 61 [.lst 3 (l.map trV) false, .fn (.func F) [] cp] (.int .i64 (idxOf p l)) := by
  intro H
  refine spec_of t61 (by simp [p61]) ?_
  simp only [p61]
  refine pwp_sr fun K hK => ?_
  simp [runM_nil]
  refine hK _ _ (pwp_seq (pwp_sr fun K hK => ?_))
  simp [runM_nil]
  refine hK _ _ (pwp_block ?_)
  refine pwp_loopU [0, 1, 7, 8] (fun m st H' => ∃ i, i ≤ l.length ∧ m = l.length - i ∧ H' = H ∧ (∀ j, (hj : j < i) → (hj2 : j < l.length) → p l[j] = false) ∧ st = MS 19 [(0, .lst 3 (l.map trV) false), (1, .fn (.func F) [] cp), (7, .int .i64 l.length), (8, .int .i64 i)]) (n := l.length)
    ⟨_, H, keep_up (l' := [(0, .lst 3 (l.map trV) false), (1, .fn (.func F) [] cp), (7, .int .i64 l.length), (8, .int .i64 0)]) (by simp [keepA]), List.Sublist.refl _, 0, Nat.zero_le _, rfl, rfl, fun j hj => absurd hj (Nat.not_lt_zero _), rfl⟩ ?_
  rintro m st _ ⟨i, hi, rfl, rfl, hno, rfl⟩
  refine pwp_sr fun K hK => ?_
  by_cases hik : i < l.length
  · have hw : IntKind.i64.wrap ((i : Int) + 1) = ((i + 1 : Nat) : Int) := by rw [w64 (by omega) (by omega)]; rfl
    have hgx : (l.map trV)[i]? = some (trV l[i]) := by simp [hik]
    have hfx := hf l[i] (List.getElem_mem hik)
    simp only [trV] at hfx hgx
    simp [runM_nil, hik]
    refine hK _ _ (pwp_sT (by simp [runM_nil]) (pwp_seq (pwp_block (pwp_sr fun K hK => ?_))))
    simp [runM_nil]
    refine hK _ _ (pwp_rifE fun K hK => ?_)
    simp [runM_nil, hik, trV]
    refine useP hfx ?_
    simp [runM_nil]
    cases hp : p l[i] with
    | true =>
      refine hK _ _ (ifT (by simp [runM_nil, hp]) (pwp_sr fun K hK => ?_))
      simp [runM_nil]
      refine hK _ _ (pwp_ret ?_)
      simp [runM_nil, resL, resV]
      rw [idxOf_some hik (fun j hj => hno j hj (by omega)) hp]
    | false =>
      refine hK _ _ (ifF (by simp [runM_nil, hp]) (pwp_skip (pwp_regionM fun K hK => ?_)))
      simp [runM_nil, hw]
      refine hK _ _ ⟨l.length - (i + 1), by omega, _, _, keep_up (l' := [(0, .lst 3 (l.map trV) false), (1, .fn (.func F) [] cp), (7, .int .i64 l.length), (8, .int .i64 (i + 1 : Nat))]) (by simp [keepA]), List.Sublist.refl _, i + 1, by omega, rfl, rfl, ?_, rfl⟩
      intro j hj hj2
      rcases Nat.lt_or_ge j i with h | h
      · exact hno j h hj2
      · obtain rfl : j = i := by omega
        exact hp
  · simp [runM_nil, hik]
    refine hK _ _ (pwp_seq (pwp_cF (by simp [runM_nil]) (pwp_exit (pwp_sr fun K hK => ?_))))
    simp [runM_nil]
    refine hK _ _ (pwp_ret ?_)
    simp [runM_nil, resL, resV]
    rw [idxOf_none fun x hx => ?_]
    obtain ⟨j, hj, rfl⟩ := List.getElem_of_mem hx
    exact hno j (by omega) hj
/-- slices.ContainsFunc. -/
theorem hasTk (l : List Tk) (F : Nat) (cp : List PV) (p : Tk → Bool) (hl : l.length ≤ 4000000000000) (hf : ∀ k ∈ l, PSpec Try.prog F (tkV k :: lendL cp) (.bool (p k))) (hc : lendL cp = cp) :
    PSpec Try.prog 41 [.lst 3 (l.map tkV) false, .fn (.func F) [] cp] (.bool (l.any p)) := by
  intro H
  have hi := indexTk l F cp p hl hf
  refine spec_of t41 (by simp [p41]) ?_
  simp only [p41]
  refine pwp_sr fun K hK => ?_
  simp [runM_nil]
  refine hK _ _ (pwp_sr fun K hK => ?_)
  simp [runM_nil]
  refine useP hi ?_
  simp [runM_nil]
  refine hK _ _ (pwp_ret ?_)
  simp [runM_nil, resL, resV, idxOf_ge]
/-- slices.ContainsFunc. -/
theorem hasTr (l : List Tr) (F : Nat) (cp : List PV) (p : Tr → Bool) (hl : l.length ≤ 4000000000000) (hf : ∀ k ∈ l, PSpec Try.prog F (trV k :: lendL cp) (.bool (p k))) (hc : lendL cp = cp) :
    PSpec Try.prog 34 [.lst 3 (l.map trV) false, .fn (.func F) [] cp] (.bool (l.any p)) := by
  intro H
  have hi := indexTr l F cp p hl hf
  refine spec_of t34 (by simp [p34]) ?_
  simp only [p34]
  refine pwp_sr fun K hK => ?_
  simp [runM_nil]
  refine hK _ _ (pwp_sr fun K hK => ?_)
  simp [runM_nil]
  refine useP hi ?_
  simp [runM_nil]
  refine hK _ _ (pwp_ret ?_)
  simp [runM_nil, resL, resV, idxOf_ge]
def twice : List Tr → Bool
  | [a, b] => decide (a.w = b.w)
  | _ => false
def mayK (k : Tk) : Bool := decide ((k.tr.length : Int) ≤ 500) && (inB k.dn (-1) (k.tr.length - 1) && (decide (0 ≤ k.fl) && (decide (((opn k).length : Int) ≤ 2) && (!twice (opn k) && (decide (opn k = []) || decide (k.dn = -1))))))
def mayT (t : Tb) : Bool := inB t.cap 1 10 && (inB t.tm 1 1000 && (decide ((t.l.length : Int) ≤ 200) && t.l.all mayK))
theorem may_ok (k : Tk) (hl : k.tr.length ≤ 4000000000000) : PSpec Try.prog 39 [tkV k] (.bool (mayK k)) := by
  intro H
  have ho := open_ok k hl
  simp only [tkV] at ho
  have hw : IntKind.i64.wrap ((k.tr.length : Int) - 1) = (k.tr.length : Int) - 1 := w64 (by omega) (by omega)
  refine spec_of t39 (by simp [p39]) ?_
  simp only [p39]
  refine pwp_sr fun K hK => ?_
  simp [runM_nil, tkV]
  refine hK _ _ (pwp_sr fun K hK => ?_)
  simp [runM_nil]
  refine useP ho ?_
  simp [runM_nil]
  refine hK _ _ (pwp_sd hmix fun K hK => ?_)
  have key : ∀ st', keepL [1, 3, 4] 0 st' = MS 58 [(1, .ip 3 [.agg [.lst 3 (k.tr.map trV) false, .int .i64 k.dn, .int .i64 k.fl]] 0 0), (3, .lst 3 ((opn k).map trV) true), (4, .bool (twice (opn k)))] → K st' H := by
    intro st' e
    refine hK _ _ (pwp_keep [1, 3, 4] ?_)
    rw [e]
    refine pwp_sr fun K hK => ?_
    simp [runM_nil]
    by_cases h1 : (k.tr.length : Int) ≤ 500
    rotate_left
    · simp [runM_nil, h1]
      refine hK _ _ (pwp_ret ?_)
      simp [runM_nil, resL, resV, mayK, h1]
    simp [runM_nil, h1, hw]
    refine useP (isIn _ _ _) ?_
    simp [runM_nil]
    cases h2 : inB k.dn (-1) (k.tr.length - 1)
    · simp [runM_nil, h2]
      refine hK _ _ (pwp_ret ?_)
      simp [runM_nil, resL, resV, mayK, h2]
    simp [runM_nil, h2]
    by_cases h3 : 0 ≤ k.fl
    rotate_left
    · simp [runM_nil, h3]
      refine hK _ _ (pwp_ret ?_)
      simp [runM_nil, resL, resV, mayK, h3]
    simp [runM_nil, h3]
    by_cases h4 : ((opn k).length : Int) ≤ 2
    rotate_left
    · simp [runM_nil, h4]
      refine hK _ _ (pwp_ret ?_)
      simp [runM_nil, resL, resV, mayK, h4]
    simp [runM_nil, h4]
    cases h5 : twice (opn k) with
    | true =>
      simp [runM_nil, h5]
      refine hK _ _ (pwp_ret ?_)
      simp [runM_nil, resL, resV, mayK, h5]
    | false =>
      simp [runM_nil, h5]
      by_cases h6 : opn k = []
      · simp [runM_nil, h6]
        refine hK _ _ (pwp_ret ?_)
        simp [runM_nil, resL, resV, mayK, h1, h2, h3, h4, h5, h6, twice]
      · simp [runM_nil, h6]
        refine hK _ _ (pwp_ret ?_)
        simp [runM_nil, resL, resV, mayK, h1, h2, h3, h4, h5, h6]
  clear hK
  generalize opn k = o at *
  rcases o with _ | ⟨a, _ | ⟨b, _ | ⟨c, o⟩⟩⟩
  · simp [runM_nil]
    exact key _ (by simp [keepL_MS, keepA, getS, twice])
  · simp [runM_nil]
    exact key _ (by simp [keepL_MS, keepA, getS, twice])
  · simp [runM_nil, trV]
    exact key _ (by simp [keepL_MS, keepA, getS, twice, trV])
  · have hne : ¬ ((o.length : Int) + 1 + 1 + 1 = 2) := by omega
    simp [runM_nil, hne]
    exact key _ (by simp [keepL_MS, keepA, getS, twice])
theorem notMay (k : Tk) (hl : k.tr.length ≤ 4000000000000) : PSpec Try.prog 38 [tkV k] (.bool (!mayK k)) := by
  intro H
  have ho := may_ok k hl
  simp only [tkV] at ho
  refine spec_of t38 (by simp [p38]) ?_
  simp only [p38]
  refine pwp_sr fun K hK => ?_
  simp [runM_nil, tkV]
  refine hK _ _ (pwp_sr fun K hK => ?_)
  simp [runM_nil]
  refine useP ho ?_
  simp [runM_nil]
  refine hK _ _ (pwp_ret ?_)
  simp [runM_nil, resL, resV]
/-- Few enough for all that is done. -/
structure Small (t : Tb) : Prop where
  l : t.l.length ≤ 400000
  tr : ∀ k ∈ t.l, k.tr.length ≤ 400000
theorem May_ok (t : Tb) (hs : Small t) : PSpec Try.prog 14 [tbV t] (.bool (mayT t)) := by
  intro H
  have hh := hasTk t.l 38 [] (fun k => !mayK k) (by have := hs.l; omega) (fun k hk => notMay k (by have := hs.tr k hk; omega)) rfl
  have hall : t.l.any (fun k => !mayK k) = !t.l.all mayK := by
    rw [← List.not_all_eq_any_not]
  rw [hall] at hh
  refine spec_of t14 (by simp [p14]) ?_
  simp only [p14]
  refine pwp_sr fun K hK => ?_
  simp [runM_nil, tbV]
  refine hK _ _ (pwp_sr fun K hK => ?_)
  simp [runM_nil]
  refine hK _ _ (pwp_sr fun K hK => ?_)
  simp [runM_nil]
  refine useP (isIn _ _ _) ?_
  simp [runM_nil]
  cases h1 : inB t.cap 1 10
  · simp [runM_nil, h1]
    refine hK _ _ (pwp_ret ?_)
    simp [runM_nil, resL, resV, mayT, h1]
  simp [runM_nil, h1]
  refine useP (isIn _ _ _) ?_
  simp [runM_nil]
  cases h2 : inB t.tm 1 1000
  · simp [runM_nil, h2]
    refine hK _ _ (pwp_ret ?_)
    simp [runM_nil, resL, resV, mayT, h2]
  simp [runM_nil, h2]
  by_cases h3 : (t.l.length : Int) ≤ 200
  rotate_left
  · simp [runM_nil, h3]
    refine hK _ _ (pwp_ret ?_)
    simp [runM_nil, resL, resV, mayT, h3]
  simp [runM_nil, h3]
  refine useP hh ?_
  simp [runM_nil]
  refine hK _ _ (pwp_ret ?_)
  simp [runM_nil, resL, resV, mayT, h1, h2, h3]
def isTaskT (t : Tb) (i : Int) : Bool := inB i 0 (t.l.length - 1)
theorem isTask_ok (t : Tb) (i : Int) (hs : Small t) : PSpec Try.prog 33 [tbV t, .int .i64 i] (.bool (isTaskT t i)) := by
  intro H
  have := hs.l
  have hw : IntKind.i64.wrap ((t.l.length : Int) - 1) = (t.l.length : Int) - 1 := w64 (by omega) (by omega)
  refine spec_of t33 (by simp [p33]) ?_
  simp only [p33]
  refine pwp_sr fun K hK => ?_
  simp [runM_nil, tbV]
  refine hK _ _ (pwp_sr fun K hK => ?_)
  simp [runM_nil, hw]
  refine useP (isIn _ _ _) ?_
  simp [runM_nil]
  refine hK _ _ (pwp_ret ?_)
  simp [runM_nil, resL, resV, isTaskT]
end Go.Proofs.Ytkjibelcaeanjaa.E
/- Which task is to be started, and what is asked of a table, on plain values. -/
namespace Go.Proofs.Ytkjibelcaeanjaa.E
open Go Go.RowKit Go.Proofs
set_option linter.unusedVariables false
set_option linter.unusedSimpArgs false
/-- A captured number. -/
def capI (n : Int) : PV := .ip 1 [.int .i64 n] 0 0
def capT (t : Tb) : PV := .ip 3 [tbV t] 0 0
def notDone (k : Tk) : Bool := decide (k.dn = -1)
theorem notDone_ok (k : Tk) : PSpec Try.prog 52 [tkV k] (.bool (notDone k)) := by
  intro H
  refine spec_of t52 (by simp [p52]) ?_
  simp only [p52]
  refine pwp_sr fun K hK => ?_
  simp [runM_nil, tkV]
  refine hK _ _ (pwp_sr fun K hK => ?_)
  simp [runM_nil]
  refine hK _ _ (pwp_ret ?_)
  simp [runM_nil, resL, resV, notDone]
def allT (t : Tb) : Bool := t.l.all fun k => !notDone k
theorem All_ok (t : Tb) (hs : Small t) : PSpec Try.prog 21 [tbV t] (.bool (allT t)) := by
  intro H
  have hh := hasTk t.l 52 [] notDone (by have := hs.l; omega) (fun k hk => notDone_ok k) rfl
  have hall : (!t.l.any notDone) = allT t := by rw [allT, List.not_any_eq_all_not]
  refine spec_of t21 (by simp [p21]) ?_
  simp only [p21]
  refine pwp_sr fun K hK => ?_
  simp [runM_nil, tbV]
  refine hK _ _ (pwp_sr fun K hK => ?_)
  simp [runM_nil]
  refine useP hh ?_
  simp [runM_nil]
  refine hK _ _ (pwp_ret ?_)
  simp [runM_nil, resL, resV, hall]
def failedAt (t : Tb) (k : Tk) : Bool := decide (t.cap ≤ k.fl)
theorem failedAt_ok (t : Tb) (k : Tk) : PSpec Try.prog 51 [tkV k, capT t] (.bool (failedAt t k)) := by
  intro H
  refine spec_of t51 (by simp [p51]) ?_
  simp only [p51]
  refine pwp_sr fun K hK => ?_
  simp [runM_nil, tkV, capT, tbV]
  refine hK _ _ (pwp_sr fun K hK => ?_)
  simp [runM_nil]
  refine hK _ _ (pwp_ret ?_)
  simp [runM_nil, resL, resV, failedAt]
theorem Failed_ok (t : Tb) (hs : Small t) : PSpec Try.prog 19 [tbV t] (.tup [.int .i64 (if idxOf (failedAt t) t.l < 0 then 0 else idxOf (failedAt t) t.l), .bool (decide (0 ≤ idxOf (failedAt t) t.l))]) := by
  intro H
  have hh := indexTk t.l 51 [capT t] (failedAt t) (by have := hs.l; omega) (fun k hk => by simpa [lendL, lend, capT] using failedAt_ok t k)
  refine spec_of t19 (by simp [p19]) ?_
  simp only [p19]
  refine pwp_sr fun K hK => ?_
  simp [runM_nil, tbV]
  refine hK _ _ (pwp_sr fun K hK => ?_)
  simp [runM_nil]
  simp only [capT, tbV] at hh
  refine useP hh ?_
  simp [runM_nil]
  refine hK _ _ (pwp_sr fun K hK => ?_)
  by_cases h : idxOf (failedAt t) t.l < 0
  all_goals
    simp [runM_nil, h]
    refine hK _ _ (pwp_ret ?_)
    simp [runM_nil, resL, resV]
    omega
def idle (k : Tk) : Bool := decide (k.dn = -1) && (decide ((k.tr.length : Int) < 500) && decide (opn k = []))
theorem idle_ok (k : Tk) (hl : k.tr.length ≤ 4000000000000) : PSpec Try.prog 29 [tkV k] (.bool (idle k)) := by
  intro H
  have ho := open_ok k hl
  simp only [tkV] at ho
  refine spec_of t29 (by simp [p29]) ?_
  simp only [p29]
  refine pwp_sr fun K hK => ?_
  simp [runM_nil, tkV]
  refine hK _ _ (pwp_sr fun K hK => ?_)
  by_cases h1 : k.dn = -1
  rotate_left
  · simp [runM_nil, h1]
    refine hK _ _ (pwp_ret ?_)
    simp [runM_nil, resL, resV, idle, h1]
  by_cases h2 : (k.tr.length : Int) < 500
  rotate_left
  · simp [runM_nil, h1, h2]
    refine hK _ _ (pwp_ret ?_)
    simp [runM_nil, resL, resV, idle, h1, h2]
  simp [runM_nil, h1, h2]
  rw [h1] at ho
  refine useP ho ?_
  simp [runM_nil]
  refine hK _ _ (pwp_ret ?_)
  simp [runM_nil, resL, resV, idle, h1, h2]
/-- May another worker start it, too? -/
def slowTr (worker now tm : Int) : List Tr → Bool
  | [a] => decide (a.w ≠ worker) && decide (tm ≤ 2 * (now - a.b))
  | _ => false
def slow (worker now tm : Int) (k : Tk) : Bool := decide (k.dn = -1) && (decide ((k.tr.length : Int) < 500) && slowTr worker now tm (opn k))
set_option maxRecDepth 4000 in
theorem slow_ok (k : Tk) (t : Tb) (worker now : Int) (hl : k.tr.length ≤ 4000000000000) (hn : 0 ≤ now ∧ now ≤ 1000000000) (hb : ∀ x ∈ k.tr, 0 ≤ x.b ∧ x.b ≤ 1000000000) :
    PSpec Try.prog 31 [tkV k, capI worker, capI now, capT t] (.bool (slow worker now t.tm k)) := by
  intro H
  have ho := open_ok k hl
  have hbo : ∀ x ∈ opn k, 0 ≤ x.b ∧ x.b ≤ 1000000000 := fun x hx => hb x (List.mem_filter.1 hx).1
  simp only [tkV] at ho
  refine spec_of t31 (by simp [p31]) ?_
  simp only [p31]
  refine pwp_sr fun K hK => ?_
  simp [runM_nil, tkV, capI, capT, tbV]
  refine hK _ _ (pwp_sr fun K hK => ?_)
  simp [runM_nil]
  refine useP ho ?_
  simp [runM_nil]
  refine hK _ _ (pwp_sd hmix fun K hK => ?_)
  by_cases h1 : k.dn = -1
  rotate_left
  · simp [runM_nil, h1]
    refine hK _ _ (pwp_ret ?_)
    simp [runM_nil, resL, resV, slow, h1]
  by_cases h2 : (k.tr.length : Int) < 500
  rotate_left
  · simp [runM_nil, h1, h2]
    refine hK _ _ (pwp_ret ?_)
    simp [runM_nil, resL, resV, slow, h1, h2]
  clear ho
  have hslow : slow worker now t.tm k = slowTr worker now t.tm (opn k) := by simp [slow, h1, h2]
  generalize opn k = o at *
  rcases o with _ | ⟨a, _ | ⟨b, o⟩⟩
  · simp [runM_nil, h1, h2]
    refine hK _ _ (pwp_ret ?_)
    simp [runM_nil, resL, resV, slowTr, hslow]
  · obtain ⟨b1, b2⟩ := hbo a (List.mem_singleton_self a)
    have w1 : IntKind.i64.wrap (now - a.b) = now - a.b := w64 (by omega) (by omega)
    have w2 : IntKind.i64.wrap (2 * (now - a.b)) = 2 * (now - a.b) := w64 (by omega) (by omega)
    by_cases h3 : a.w = worker
    · simp [runM_nil, h1, h2, h3, trV]
      refine hK _ _ (pwp_ret ?_)
      simp [runM_nil, resL, resV, slowTr, h3, hslow]
    · simp [runM_nil, h1, h2, h3, trV, w1, w2]
      refine hK _ _ (pwp_ret ?_)
      simp [runM_nil, resL, resV, slowTr, h3, hslow]
  · have hne : ¬ ((o.length : Int) + 1 + 1 = 1) := by omega
    simp [runM_nil, h1, h2, hne]
    refine hK _ _ (pwp_ret ?_)
    simp [runM_nil, resL, resV, slowTr, hslow]
/-- What Next tells: the place, and whether there is one. -/
def nextT (t : Tb) (worker now : Int) : Int × Bool :=
  if 0 ≤ idxOf idle t.l then (idxOf idle t.l, true) else if 0 ≤ idxOf (slow worker now t.tm) t.l then (idxOf (slow worker now t.tm) t.l, true) else (0, false)
theorem Next_ok (t : Tb) (worker now : Int) (hs : Small t) (hn : 0 ≤ now ∧ now ≤ 1000000000) (hb : ∀ k ∈ t.l, ∀ x ∈ k.tr, 0 ≤ x.b ∧ x.b ≤ 1000000000) :
    PSpec Try.prog 12 [tbV t, .int .i64 worker, .int .i64 now] (.tup [.int .i64 (nextT t worker now).1, .bool (nextT t worker now).2]) := by
  intro H
  have hi := indexTk t.l 29 [] idle (by have := hs.l; omega) (fun k hk => idle_ok k (by have := hs.tr k hk; omega))
  have hsl := indexTk t.l 31 [capI worker, capI now, capT t] (slow worker now t.tm) (by have := hs.l; omega) (fun k hk => by
    simpa [lendL, lend, capI, capT] using slow_ok k t worker now (by have := hs.tr k hk; omega) hn (hb k hk))
  refine spec_of t12 (by simp [p12]) ?_
  simp only [p12]
  refine pwp_sr fun K hK => ?_
  simp [runM_nil, tbV]
  refine hK _ _ (pwp_sr fun K hK => ?_)
  simp [runM_nil]
  refine hK _ _ (pwp_sr fun K hK => ?_)
  simp [runM_nil]
  refine hK _ _ (pwp_seq (pwp_sr fun K hK => ?_))
  simp [runM_nil]
  refine hK _ _ (pwp_block ?_)
  simp only [capI, capT, tbV] at hsl
  refine pwp_loopU [3, 16, 17, 18] (fun m st H' => ∃ i : Nat, i ≤ 2 ∧ m = 2 - i ∧ H' = H ∧ (1 ≤ i → ¬ 0 ≤ idxOf idle t.l) ∧ (2 ≤ i → ¬ 0 ≤ idxOf (slow worker now t.tm) t.l) ∧ st = MS 30 [(3, .ip 3 [tbV t] 0 0),
      (16, .lst 1 [.fn (.func 29) [] [], .fn (.func 31) [] [.ip 1 [.int .i64 worker] 0 0, .ip 1 [.int .i64 now] 0 0, .ip 3 [.agg [.int .i64 t.cap, .int .i64 t.tm, .lst 3 (t.l.map tkV) false]] 0 0]] true), (17, .int .i64 2), (18, .int .i64 i)]) (n := 2)
    ⟨_, H, keep_up (l' := [(3, .ip 3 [tbV t] 0 0),
      (16, .lst 1 [.fn (.func 29) [] [], .fn (.func 31) [] [.ip 1 [.int .i64 worker] 0 0, .ip 1 [.int .i64 now] 0 0, .ip 3 [.agg [.int .i64 t.cap, .int .i64 t.tm, .lst 3 (t.l.map tkV) false]] 0 0]] true), (17, .int .i64 2), (18, .int .i64 0)]) (by simp [keepA, tbV]), List.Sublist.refl _, 0, Nat.zero_le _, rfl, rfl, fun h => by omega, fun h => by omega, rfl⟩ ?_
  rintro m st _ ⟨i, hi2, rfl, rfl, hno1, hno2, rfl⟩
  refine pwp_sr fun K hK => ?_
  rcases i with _ | _ | _ | i
  · simp [runM_nil]
    refine hK _ _ (pwp_sT (by simp [runM_nil]) (pwp_seq (pwp_block (pwp_sr fun K hK => ?_))))
    simp [runM_nil]
    refine hK _ _ (pwp_sr fun K hK => ?_)
    simp [runM_nil, tbV]
    refine useP hi ?_
    simp [runM_nil]
    refine hK _ _ (pwp_rifE fun K hK => ?_)
    simp [runM_nil]
    refine hK _ _ (ifB (p := 0 ≤ idxOf idle t.l) (by simp [runM_nil]) (fun h => pwp_sr fun K hK => ?_) (fun h => pwp_skip (pwp_regionM fun K hK => ?_)))
    · simp [runM_nil]
      refine hK _ _ (pwp_ret ?_)
      simp [runM_nil, resL, resV, nextT, h]
    · simp [runM_nil]
      refine hK _ _ ⟨1, by omega, _, _, keep_up (l' := [(3, .ip 3 [tbV t] 0 0),
        (16, .lst 1 [.fn (.func 29) [] [], .fn (.func 31) [] [.ip 1 [.int .i64 worker] 0 0, .ip 1 [.int .i64 now] 0 0, .ip 3 [.agg [.int .i64 t.cap, .int .i64 t.tm, .lst 3 (t.l.map tkV) false]] 0 0]] true), (17, .int .i64 2), (18, .int .i64 1)]) (by simp [keepA, tbV, IntKind.wrap_i64]), List.Sublist.refl _, 1, by omega, rfl, rfl, fun _ => h, fun h => by omega, rfl⟩
  · simp [runM_nil]
    refine hK _ _ (pwp_sT (by simp [runM_nil]) (pwp_seq (pwp_block (pwp_sr fun K hK => ?_))))
    simp [runM_nil]
    refine hK _ _ (pwp_sr fun K hK => ?_)
    simp [runM_nil, tbV]
    refine useP hsl ?_
    simp [runM_nil]
    refine hK _ _ (pwp_rifE fun K hK => ?_)
    simp [runM_nil]
    have hno1 := hno1 (by omega)
    refine hK _ _ (ifB (p := 0 ≤ idxOf (slow worker now t.tm) t.l) (by simp [runM_nil]) (fun h => pwp_sr fun K hK => ?_) (fun h => pwp_skip (pwp_regionM fun K hK => ?_)))
    · simp [runM_nil]
      refine hK _ _ (pwp_ret ?_)
      simp [runM_nil, resL, resV, nextT, h, hno1]
    · simp [runM_nil]
      refine hK _ _ ⟨0, by omega, _, _, keep_up (l' := [(3, .ip 3 [tbV t] 0 0),
        (16, .lst 1 [.fn (.func 29) [] [], .fn (.func 31) [] [.ip 1 [.int .i64 worker] 0 0, .ip 1 [.int .i64 now] 0 0, .ip 3 [.agg [.int .i64 t.cap, .int .i64 t.tm, .lst 3 (t.l.map tkV) false]] 0 0]] true), (17, .int .i64 2), (18, .int .i64 2)]) (by simp [keepA, tbV, IntKind.wrap_i64]), List.Sublist.refl _, 2, by omega, rfl, rfl, fun _ => hno1, fun _ => h, rfl⟩
  · have hno1 := hno1 (by omega)
    have hno2 := hno2 (by omega)
    simp [runM_nil]
    refine hK _ _ (pwp_seq (pwp_cF (by simp [runM_nil]) (pwp_exit (pwp_sr fun K hK => ?_))))
    simp [runM_nil]
    refine hK _ _ (pwp_ret ?_)
    simp [runM_nil, resL, resV, nextT, hno1, hno2]
  · omega
end Go.Proofs.Ytkjibelcaeanjaa.E
