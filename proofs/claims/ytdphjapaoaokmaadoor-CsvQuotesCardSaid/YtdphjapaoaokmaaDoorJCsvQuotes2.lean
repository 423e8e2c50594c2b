/- Part 2 of the proof of CsvQuotes: what the program's functions come to. -/
import Derived.Lib.ReplaceLaws
import Derived.ProofKit
import Derived.WalkKit
import Derived.Test.YtdphjapaoaokmaaDoorJCsvQuotes1
import Derived.Test.YtdphjapaoaokmaaDoorProg
/- The functions of this claim as operations on plain values. -/
namespace Go.Proofs.YtdphjapaoaokmaaDoor.E
open Go Go.RowKit Go.Proofs
set_option linter.unusedVariables false
set_option maxRecDepth 100000
def p2 : PFn :=
  ⟨1, [], .region [
     ⟨some 0, none, .callF 1 [] []⟩]⟩
theorem t2 : compF Tryd.prog {} 2 = some p2 := by kernel_rfl
def p3 : PFn :=
  ⟨74, [.t 6], .seq
    (.region [
      ⟨some 6, none, .mv true (.c (.bool false))⟩])
    (.seq
     (.seq
      (.region [
        ⟨some 11, none, .mv false (.t 0)⟩,
        ⟨some 12, none, .len true (.t 11)⟩,
        ⟨some 13, none, .bin .gtr (.t 12) (.c (.int .i64 500))⟩,
        ⟨some 14, none, .mv false (.t 13)⟩,
        ⟨some 15, some (14, false), .mv false (.t 1)⟩,
        ⟨some 16, some (14, false), .len true (.t 15)⟩,
        ⟨some 17, some (14, false), .bin .gtr (.t 16) (.c (.int .i64 500))⟩,
        ⟨some 18, none, .pick (.t 14) (.c (.bool true)) (.t 17)⟩])
      (.cond (.t 18)
       (.seq
        (.region [
          ⟨some 19, none, .callF 7 [] []⟩,
          ⟨some 6, none, .mv true (.t 19)⟩])
        .ret)
       .skip))
     (.seq
      (.region [
        ⟨some 20, none, .mv false (.t 0)⟩,
        ⟨some 21, none, .callF 8 [.t 20] []⟩,
        ⟨some 22, none, .bin .add (.t 21) (.c (.str [44]))⟩,
        ⟨some 23, none, .mv false (.t 1)⟩,
        ⟨some 24, none, .callF 8 [.t 23] []⟩,
        ⟨some 25, none, .bin .add (.t 22) (.t 24)⟩,
        ⟨some 7, none, .mv true (.t 25)⟩])
      (.seq
       (.seq
        (.region [
          ⟨some 26, none, .mv false (.t 2)⟩,
          ⟨some 27, none, .bin .rem (.t 26) (.c (.int .u8 3))⟩])
        (.block 0
         (.seq
          (.region [
            ⟨some 29, none, .bin .eql (.t 27) (.c (.int .u8 1))⟩,
            ⟨some 28, none, .mv true (.t 29)⟩])
          (.cond (.t 28)
           (.region [
             ⟨some 30, none, .mv false (.t 7)⟩,
             ⟨some 31, none, .bin .add (.t 30) (.c (.str [10]))⟩,
             ⟨some 7, none, .mv true (.t 31)⟩])
           (.seq
            (.region [
              ⟨some 33, none, .bin .eql (.t 27) (.c (.int .u8 2))⟩,
              ⟨some 32, none, .mv true (.t 33)⟩])
            (.cond (.t 32)
             (.region [
               ⟨some 34, none, .mv false (.t 7)⟩,
               ⟨some 35, none, .bin .add (.t 34) (.c (.str [13, 10]))⟩,
               ⟨some 7, none, .mv true (.t 35)⟩])
             .skip))))))
       (.seq
        (.region [
          ⟨some 37, none, .mv false (.t 7)⟩,
          ⟨some 38, none, .cvB (.t 37)⟩,
          ⟨some 39, none, .callF 9 [.t 38] []⟩,
          ⟨some 36, none, .mv true (.t 39)⟩,
          ⟨some 40, none, .ext true (.t 36) 0⟩,
          ⟨some 41, none, .ext false (.t 36) 1⟩,
          ⟨some 42, none, .ext false (.t 36) 2⟩,
          ⟨some 8, none, .mv true (.t 40)⟩,
          ⟨some 9, none, .mv true (.t 41)⟩,
          ⟨some 10, none, .mv true (.t 42)⟩])
        (.seq
         (.region [
           ⟨some 43, none, .callF 7 [] []⟩,
           ⟨some 44, none, .mv false (.t 43)⟩,
           ⟨some 45, some (44, true), .mv false (.t 10)⟩,
           ⟨some 46, some (44, true), .bin .eql (.t 45) (.c (.int .i64 0))⟩,
           ⟨some 47, none, .pick (.t 44) (.t 46) (.c (.bool false))⟩,
           ⟨some 48, none, .mv false (.t 47)⟩,
           ⟨some 49, some (48, true), .mv false (.t 9)⟩,
           ⟨some 50, some (48, true), .mv false (.t 7)⟩,
           ⟨some 51, some (48, true), .len true (.t 50)⟩,
           ⟨some 52, some (48, true), .bin .eql (.t 49) (.t 51)⟩,
           ⟨some 53, none, .pick (.t 48) (.t 52) (.c (.bool false))⟩,
           ⟨some 54, none, .mv false (.t 53)⟩,
           ⟨some 55, some (54, true), .mv false (.t 8)⟩,
           ⟨some 56, some (54, true), .len false (.t 55)⟩,
           ⟨some 57, some (54, true), .bin .eql (.t 56) (.c (.int .i64 1))⟩,
           ⟨some 58, none, .pick (.t 54) (.t 57) (.c (.bool false))⟩,
           ⟨some 59, none, .mv false (.t 58)⟩,
           ⟨some 60, some (59, true), .mv false (.t 8)⟩,
           ⟨some 61, some (59, true), .iad 2 (.t 60) (.c (.int .i64 0))⟩,
           ⟨some 62, some (59, true), .fad 1 (.t 61)⟩,
           ⟨some 63, some (59, true), .ld 1 false false (.t 62)⟩,
           ⟨some 64, some (59, true), .mv false (.t 0)⟩,
           ⟨some 65, some (59, true), .mv false (.t 1)⟩,
           ⟨some 66, some (59, true), .bsl 1 2 false [.str [], .str []] [(0, .t 64), (1, .t 65)] false⟩,
           ⟨some 67, some (59, true), .bsl 1 1 false [.lst 0 [] true] [(0, .t 66)] false⟩,
           ⟨some 68, some (59, true), .callF 10 [.t 63, .t 67] []⟩,
           ⟨some 69, none, .pick (.t 59) (.t 68) (.c (.bool false))⟩,
           ⟨some 70, none, .mv false (.t 69)⟩,
           ⟨some 71, some (70, true), .callF 8 [.c (.str [97, 98, 99])] []⟩,
           ⟨some 72, some (70, true), .bin .eql (.t 71) (.c (.str [97, 98, 99]))⟩,
           ⟨some 73, none, .pick (.t 70) (.t 72) (.c (.bool false))⟩,
           ⟨some 6, none, .mv true (.t 73)⟩])
         .ret)))))⟩
theorem t3 : compF Tryd.prog {} 3 = some p3 := by kernel_rfl
def p4 : PFn :=
  ⟨62, [.t 4], .seq
    (.region [
      ⟨some 4, none, .mv true (.c (.bool false))⟩])
    (.seq
     (.seq
      (.region [
        ⟨some 10, none, .mv false (.t 0)⟩,
        ⟨some 11, none, .callF 11 [.t 10, .c (.int .i64 120), .c (.int .i64 3000)] []⟩,
        ⟨some 12, none, .un .not (.t 11)⟩,
        ⟨some 13, none, .mv false (.t 12)⟩,
        ⟨some 14, some (13, false), .mv false (.t 1)⟩,
        ⟨some 15, some (13, false), .len true (.t 14)⟩,
        ⟨some 16, some (13, false), .bin .gtr (.t 15) (.c (.int .i64 2000))⟩,
        ⟨some 17, none, .pick (.t 13) (.c (.bool true)) (.t 16)⟩])
      (.cond (.t 17)
       (.seq
        (.region [
          ⟨some 18, none, .callF 7 [] []⟩,
          ⟨some 4, none, .mv true (.t 18)⟩])
        .ret)
       .skip))
     (.seq
      (.seq
       (.region [
         ⟨some 5, none, .mv true (.c (.int .i64 0))⟩])
       (.block 0
        (.loop
         (.seq
          (.seq
           (.region [
             ⟨some 19, none, .mv false (.t 5)⟩,
             ⟨some 20, none, .mv false (.t 0)⟩,
             ⟨some 21, none, .len false (.t 20)⟩,
             ⟨some 22, none, .bin .lss (.t 19) (.t 21)⟩])
           (.cond (.t 22)
            .skip
            (.exit 0)))
          (.seq
           (.block 1
            (.seq
             (.region [
               ⟨some 25, none, .mv false (.t 0)⟩,
               ⟨some 26, none, .mv false (.t 5)⟩,
               ⟨some 27, none, .iad 1 (.t 25) (.t 26)⟩,
               ⟨some 28, none, .ld 1 false false (.t 27)⟩,
               ⟨some 29, none, .len false (.t 28)⟩,
               ⟨some 30, none, .bin .gtr (.t 29) (.c (.int .i64 100))⟩])
             (.cond (.t 30)
              (.seq
               (.region [
                 ⟨some 31, none, .callF 7 [] []⟩,
                 ⟨some 4, none, .mv true (.t 31)⟩])
               .ret)
              .skip)))
           (.region [
             ⟨some 23, none, .mv false (.t 5)⟩,
             ⟨some 24, none, .bin .add (.t 23) (.c (.int .i64 1))⟩,
             ⟨some 5, none, .mv true (.t 24)⟩]))))))
      (.seq
       (.region [
         ⟨some 33, none, .mv false (.t 0)⟩,
         ⟨some 34, none, .callF 12 [.t 33] []⟩,
         ⟨some 32, none, .mv true (.t 34)⟩,
         ⟨some 35, none, .ext true (.t 32) 0⟩,
         ⟨some 36, none, .ext false (.t 32) 1⟩,
         ⟨some 6, none, .mv true (.t 35)⟩,
         ⟨some 7, none, .mv true (.t 36)⟩])
       (.seq
        (.region [
          ⟨some 38, none, .mv false (.t 0)⟩,
          ⟨some 39, none, .callF 13 [.t 38] []⟩,
          ⟨some 37, none, .mv true (.t 39)⟩,
          ⟨some 40, none, .ext true (.t 37) 0⟩,
          ⟨some 41, none, .ext false (.t 37) 1⟩,
          ⟨some 8, none, .mv true (.t 40)⟩,
          ⟨some 9, none, .mv true (.t 41)⟩])
        (.seq
         (.region [
           ⟨some 42, none, .callF 7 [] []⟩,
           ⟨some 43, none, .mv false (.t 42)⟩,
           ⟨some 44, some (43, true), .mv false (.t 6)⟩,
           ⟨some 45, some (43, true), .cvS (.t 44)⟩,
           ⟨some 46, some (43, true), .mv false (.t 8)⟩,
           ⟨some 47, some (43, true), .cvS (.t 46)⟩,
           ⟨some 48, some (43, true), .bin .eql (.t 45) (.t 47)⟩,
           ⟨some 49, none, .pick (.t 43) (.t 48) (.c (.bool false))⟩,
           ⟨some 50, none, .mv false (.t 49)⟩,
           ⟨some 51, some (50, true), .mv false (.t 7)⟩,
           ⟨some 52, some (50, true), .mv false (.t 9)⟩,
           ⟨some 53, some (50, true), .bin .eql (.t 51) (.t 52)⟩,
           ⟨some 54, none, .pick (.t 50) (.t 53) (.c (.bool false))⟩,
           ⟨some 55, none, .mv false (.t 54)⟩,
           ⟨some 56, some (55, true), .mv false (.t 1)⟩,
           ⟨some 57, some (55, true), .callF 8 [.t 56] []⟩,
           ⟨some 58, some (55, true), .mv false (.t 1)⟩,
           ⟨some 59, some (55, true), .callF 14 [.t 58] []⟩,
           ⟨some 60, some (55, true), .bin .eql (.t 57) (.t 59)⟩,
           ⟨some 61, none, .pick (.t 55) (.t 60) (.c (.bool false))⟩,
           ⟨some 4, none, .mv true (.t 61)⟩])
         .ret)))))⟩
theorem t4 : compF Tryd.prog {} 4 = some p4 := by kernel_rfl
def p5 : PFn :=
  ⟨90, [.t 4], .seq
    (.region [
      ⟨some 4, none, .mv true (.c (.bool false))⟩])
    (.seq
     (.seq
      (.region [
        ⟨some 15, none, .mv false (.t 0)⟩,
        ⟨some 16, none, .callF 11 [.t 15, .c (.int .i64 120), .c (.int .i64 3000)] []⟩,
        ⟨some 17, none, .un .not (.t 16)⟩,
        ⟨some 18, none, .mv false (.t 17)⟩,
        ⟨some 19, some (18, false), .mv false (.t 1)⟩,
        ⟨some 20, some (18, false), .len false (.t 19)⟩,
        ⟨some 21, some (18, false), .bin .gtr (.t 20) (.c (.int .i64 3000))⟩,
        ⟨some 22, none, .pick (.t 18) (.c (.bool true)) (.t 21)⟩])
      (.cond (.t 22)
       (.seq
        (.region [
          ⟨some 23, none, .callF 7 [] []⟩,
          ⟨some 4, none, .mv true (.t 23)⟩])
        .ret)
       .skip))
     (.seq
      (.region [
        ⟨some 25, none, .mv false (.t 0)⟩,
        ⟨some 26, none, .callF 12 [.t 25] []⟩,
        ⟨some 24, none, .mv true (.t 26)⟩,
        ⟨some 27, none, .ext true (.t 24) 0⟩,
        ⟨some 28, none, .ext false (.t 24) 1⟩,
        ⟨some 5, none, .mv true (.t 27)⟩,
        ⟨some 6, none, .mv true (.t 28)⟩])
      (.seq
       (.seq
        (.region [
          ⟨some 29, none, .mv false (.t 6)⟩,
          ⟨some 30, none, .bin .eql (.t 29) (.c (.int .i64 0))⟩])
        (.cond (.t 30)
         (.seq
          (.region [
            ⟨some 32, none, .mv false (.t 5)⟩,
            ⟨some 33, none, .callF 9 [.t 32] []⟩,
            ⟨some 31, none, .mv true (.t 33)⟩,
            ⟨some 34, none, .ext true (.t 31) 0⟩,
            ⟨some 35, none, .ext false (.t 31) 1⟩,
            ⟨some 36, none, .ext false (.t 31) 2⟩,
            ⟨some 7, none, .mv true (.t 34)⟩,
            ⟨some 8, none, .mv true (.t 35)⟩,
            ⟨some 9, none, .mv true (.t 36)⟩])
          (.seq
           (.region [
             ⟨some 37, none, .mv false (.t 9)⟩,
             ⟨some 38, none, .bin .neq (.t 37) (.c (.int .i64 0))⟩,
             ⟨some 39, none, .mv false (.t 38)⟩,
             ⟨some 40, some (39, false), .mv false (.t 8)⟩,
             ⟨some 41, some (39, false), .mv false (.t 5)⟩,
             ⟨some 42, some (39, false), .len false (.t 41)⟩,
             ⟨some 43, some (39, false), .bin .neq (.t 40) (.t 42)⟩,
             ⟨some 44, none, .pick (.t 39) (.c (.bool true)) (.t 43)⟩,
             ⟨some 45, none, .mv false (.t 44)⟩,
             ⟨some 46, some (45, false), .mv false (.t 5)⟩,
             ⟨some 47, some (45, false), .callF 15 [.t 46] []⟩,
             ⟨some 48, some (45, false), .un .not (.t 47)⟩,
             ⟨some 49, none, .pick (.t 45) (.c (.bool true)) (.t 48)⟩,
             ⟨some 50, none, .mv false (.t 49)⟩,
             ⟨some 51, some (50, false), .mv false (.t 7)⟩,
             ⟨some 52, some (50, false), .callF 16 [.t 51] []⟩,
             ⟨some 53, some (50, false), .mv false (.t 0)⟩,
             ⟨some 54, some (50, false), .callF 10 [.t 52, .t 53] []⟩,
             ⟨some 55, some (50, false), .un .not (.t 54)⟩,
             ⟨some 56, none, .pick (.t 50) (.c (.bool true)) (.t 55)⟩])
           (.cond (.t 56)
            (.seq
             (.region [
               ⟨some 4, none, .mv true (.c (.bool false))⟩])
             .ret)
            .skip)))
         .skip))
       (.seq
        (.region [
          ⟨some 58, none, .mv false (.t 1)⟩,
          ⟨some 59, none, .callF 9 [.t 58] []⟩,
          ⟨some 57, none, .mv true (.t 59)⟩,
          ⟨some 60, none, .ext true (.t 57) 0⟩,
          ⟨some 61, none, .ext false (.t 57) 1⟩,
          ⟨some 62, none, .ext false (.t 57) 2⟩,
          ⟨some 10, none, .mv true (.t 60)⟩,
          ⟨some 11, none, .mv true (.t 61)⟩,
          ⟨some 12, none, .mv true (.t 62)⟩])
        (.seq
         (.region [
           ⟨some 64, none, .mv false (.t 10)⟩,
           ⟨some 65, none, .callF 16 [.t 64] []⟩,
           ⟨some 66, none, .callF 12 [.t 65] []⟩,
           ⟨some 63, none, .mv true (.t 66)⟩,
           ⟨some 67, none, .ext true (.t 63) 0⟩,
           ⟨some 68, none, .ext false (.t 63) 1⟩,
           ⟨some 13, none, .mv true (.t 67)⟩,
           ⟨some 14, none, .mv true (.t 68)⟩])
         (.seq
          (.seq
           (.region [
             ⟨some 69, none, .mv false (.t 14)⟩,
             ⟨some 70, none, .bin .neq (.t 69) (.c (.int .i64 0))⟩])
           (.cond (.t 70)
            (.seq
             (.region [
               ⟨some 4, none, .mv true (.c (.bool false))⟩])
             .ret)
            .skip))
          (.seq
           (.region [
             ⟨some 71, none, .callF 7 [] []⟩,
             ⟨some 72, none, .mv false (.t 71)⟩,
             ⟨some 73, some (72, true), .mv false (.t 1)⟩,
             ⟨some 74, some (72, true), .callF 15 [.t 73] []⟩,
             ⟨some 75, some (72, true), .mv false (.t 12)⟩,
             ⟨some 76, some (72, true), .bin .eql (.t 75) (.c (.int .i64 0))⟩,
             ⟨some 77, some (72, true), .mv false (.t 76)⟩,
             ⟨some 78, some (77, true), .mv false (.t 13)⟩,
             ⟨some 79, some (77, true), .cvS (.t 78)⟩,
             ⟨some 80, some (77, true), .mv false (.t 1)⟩,
             ⟨some 81, some (77, true), .cvS (.t 80)⟩,
             ⟨some 82, some (77, true), .bin .eql (.t 79) (.t 81)⟩,
             ⟨some 83, some (72, true), .pick (.t 77) (.t 82) (.c (.bool false))⟩,
             ⟨some 84, some (72, true), .binB false (.t 74) (.t 83)⟩,
             ⟨some 85, none, .pick (.t 72) (.t 84) (.c (.bool false))⟩,
             ⟨some 86, none, .mv false (.t 85)⟩,
             ⟨some 87, some (86, true), .mv false (.t 13)⟩,
             ⟨some 88, some (86, true), .callF 15 [.t 87] []⟩,
             ⟨some 89, none, .pick (.t 86) (.t 88) (.c (.bool false))⟩,
             ⟨some 4, none, .mv true (.t 89)⟩])
           .ret)))))))⟩
theorem t5 : compF Tryd.prog {} 5 = some p5 := by kernel_rfl
def p6 : PFn :=
  ⟨70, [.t 4], .seq
    (.region [
      ⟨some 4, none, .mv true (.c (.bool false))⟩])
    (.seq
     (.seq
      (.region [
        ⟨some 12, none, .mv false (.t 0)⟩,
        ⟨some 13, none, .len false (.t 12)⟩,
        ⟨some 14, none, .bin .gtr (.t 13) (.c (.int .i64 3000))⟩])
      (.cond (.t 14)
       (.seq
        (.region [
          ⟨some 15, none, .callF 7 [] []⟩,
          ⟨some 4, none, .mv true (.t 15)⟩])
        .ret)
       .skip))
     (.seq
      (.region [
        ⟨some 16, none, .bsl 1 0 false [] [] false⟩,
        ⟨some 17, none, .mv false (.t 0)⟩,
        ⟨some 18, none, .app 1 1 (.t 16) (.t 17)⟩,
        ⟨some 5, none, .mv true (.t 18)⟩])
      (.seq
       (.region [
         ⟨some 20, none, .mv false (.t 5)⟩,
         ⟨some 21, none, .callF 9 [.t 20] []⟩,
         ⟨some 19, none, .mv true (.t 21)⟩,
         ⟨some 22, none, .ext true (.t 19) 0⟩,
         ⟨some 23, none, .ext false (.t 19) 1⟩,
         ⟨some 24, none, .ext false (.t 19) 2⟩,
         ⟨some 6, none, .mv true (.t 22)⟩,
         ⟨some 7, none, .mv true (.t 23)⟩,
         ⟨some 8, none, .mv true (.t 24)⟩])
       (.seq
        (.region [
          ⟨some 26, none, .mv false (.t 0)⟩,
          ⟨some 27, none, .callF 17 [.t 26] []⟩,
          ⟨some 25, none, .mv true (.t 27)⟩,
          ⟨some 28, none, .ext true (.t 25) 0⟩,
          ⟨some 29, none, .ext false (.t 25) 1⟩,
          ⟨some 30, none, .ext false (.t 25) 2⟩,
          ⟨some 9, none, .mv true (.t 28)⟩,
          ⟨some 10, none, .mv true (.t 29)⟩,
          ⟨some 11, none, .mv true (.t 30)⟩])
        (.seq
         (.region [
           ⟨some 31, none, .callF 7 [] []⟩,
           ⟨some 32, none, .mv false (.t 31)⟩,
           ⟨some 33, some (32, true), .mv false (.t 6)⟩,
           ⟨some 34, some (32, true), .mv false (.t 9)⟩,
           ⟨some 35, some (32, true), .callF 18 [.t 33, .t 34] []⟩,
           ⟨some 36, none, .pick (.t 32) (.t 35) (.c (.bool false))⟩,
           ⟨some 37, none, .mv false (.t 36)⟩,
           ⟨some 38, some (37, true), .mv false (.t 7)⟩,
           ⟨some 39, some (37, true), .mv false (.t 10)⟩,
           ⟨some 40, some (37, true), .bin .eql (.t 38) (.t 39)⟩,
           ⟨some 41, none, .pick (.t 37) (.t 40) (.c (.bool false))⟩,
           ⟨some 42, none, .mv false (.t 41)⟩,
           ⟨some 43, some (42, true), .mv false (.t 8)⟩,
           ⟨some 44, some (42, true), .mv false (.t 11)⟩,
           ⟨some 45, some (42, true), .bin .eql (.t 43) (.t 44)⟩,
           ⟨some 46, none, .pick (.t 42) (.t 45) (.c (.bool false))⟩,
           ⟨some 47, none, .mv false (.t 46)⟩,
           ⟨some 48, some (47, true), .mv false (.t 5)⟩,
           ⟨some 49, some (47, true), .callF 15 [.t 48] []⟩,
           ⟨some 50, some (47, true), .mv false (.t 0)⟩,
           ⟨some 51, some (47, true), .callF 19 [.t 50] []⟩,
           ⟨some 52, some (47, true), .binB false (.t 49) (.t 51)⟩,
           ⟨some 53, none, .pick (.t 47) (.t 52) (.c (.bool false))⟩,
           ⟨some 54, none, .mv false (.t 53)⟩,
           ⟨some 55, some (54, true), .mv false (.t 5)⟩,
           ⟨some 56, some (54, true), .mv false (.t 1)⟩,
           ⟨some 57, some (54, true), .callF 20 [.t 55, .t 56] []⟩,
           ⟨some 58, some (54, true), .mv false (.t 0)⟩,
           ⟨some 59, some (54, true), .mv false (.t 1)⟩,
           ⟨some 60, some (54, true), .callF 21 [.t 58, .t 59] []⟩,
           ⟨some 61, some (54, true), .binB false (.t 57) (.t 60)⟩,
           ⟨some 62, none, .pick (.t 54) (.t 61) (.c (.bool false))⟩,
           ⟨some 63, none, .mv false (.t 62)⟩,
           ⟨some 64, some (63, true), .mv false (.t 5)⟩,
           ⟨some 65, some (63, true), .cvS (.t 64)⟩,
           ⟨some 66, some (63, true), .mv false (.t 0)⟩,
           ⟨some 67, some (63, true), .cvS (.t 66)⟩,
           ⟨some 68, some (63, true), .bin .eql (.t 65) (.t 67)⟩,
           ⟨some 69, none, .pick (.t 63) (.t 68) (.c (.bool false))⟩,
           ⟨some 4, none, .mv true (.t 69)⟩])
         .ret)))))⟩
theorem t6 : compF Tryd.prog {} 6 = some p6 := by kernel_rfl
def p7 : PFn :=
  ⟨69, [.t 0], .seq
    (.region [
      ⟨some 0, none, .mv true (.c (.bool false))⟩])
    (.seq
     (.region [
       ⟨some 8, none, .nl 1 9 false [.int .u8 0, .int .u8 0, .int .u8 0, .int .u8 0, .int .u8 0, .int .u8 0, .int .u8 0, .int .u8 0, .int .u8 0] [(0, .c (.int .u8 34)), (1, .c (.int .u8 97)), (2, .c (.int .u8 44)), (3, .c (.int .u8 34)), (4, .c (.int .u8 34)), (5, .c (.int .u8 98)), (6, .c (.int .u8 34)), (7, .c (.int .u8 44)), (8, .c (.int .u8 99))]⟩,
       ⟨some 9, none, .cvM (.t 8)⟩,
       ⟨some 10, none, .callF 9 [.t 9] []⟩,
       ⟨some 7, none, .mv true (.t 10)⟩,
       ⟨some 11, none, .ext true (.t 7) 0⟩,
       ⟨some 12, none, .ext false (.t 7) 1⟩,
       ⟨some 13, none, .ext false (.t 7) 2⟩,
       ⟨some 1, none, .mv true (.t 11)⟩,
       ⟨some 2, none, .mv true (.t 12)⟩,
       ⟨some 3, none, .mv true (.t 13)⟩])
     (.seq
      (.region [
        ⟨some 15, none, .nl 1 5 false [.int .u8 0, .int .u8 0, .int .u8 0, .int .u8 0, .int .u8 0] [(0, .c (.int .u8 97)), (1, .c (.int .u8 10)), (2, .c (.int .u8 98)), (3, .c (.int .u8 34)), (4, .c (.int .u8 10))]⟩,
        ⟨some 16, none, .cvM (.t 15)⟩,
        ⟨some 17, none, .callF 9 [.t 16] []⟩,
        ⟨some 14, none, .mv true (.t 17)⟩,
        ⟨some 18, none, .ext true (.t 14) 0⟩,
        ⟨some 19, none, .ext false (.t 14) 1⟩,
        ⟨some 20, none, .ext false (.t 14) 2⟩,
        ⟨some 4, none, .mv true (.t 18)⟩,
        ⟨some 5, none, .mv true (.t 19)⟩,
        ⟨some 6, none, .mv true (.t 20)⟩])
      (.seq
       (.region [
         ⟨some 21, none, .mv false (.t 1)⟩,
         ⟨some 22, none, .len false (.t 21)⟩,
         ⟨some 23, none, .bin .eql (.t 22) (.c (.int .i64 1))⟩,
         ⟨some 24, none, .mv false (.t 23)⟩,
         ⟨some 25, some (24, true), .mv false (.t 1)⟩,
         ⟨some 26, some (24, true), .iad 2 (.t 25) (.c (.int .i64 0))⟩,
         ⟨some 27, some (24, true), .fad 1 (.t 26)⟩,
         ⟨some 28, some (24, true), .ld 1 false false (.t 27)⟩,
         ⟨some 29, some (24, true), .len false (.t 28)⟩,
         ⟨some 30, some (24, true), .bin .eql (.t 29) (.c (.int .i64 1))⟩,
         ⟨some 31, none, .pick (.t 24) (.t 30) (.c (.bool false))⟩,
         ⟨some 32, none, .mv false (.t 31)⟩,
         ⟨some 33, some (32, true), .mv false (.t 1)⟩,
         ⟨some 34, some (32, true), .iad 2 (.t 33) (.c (.int .i64 0))⟩,
         ⟨some 35, some (32, true), .fad 1 (.t 34)⟩,
         ⟨some 36, some (32, true), .ld 1 false false (.t 35)⟩,
         ⟨some 37, some (32, true), .iad 1 (.t 36) (.c (.int .i64 0))⟩,
         ⟨some 38, some (32, true), .ld 1 false false (.t 37)⟩,
         ⟨some 39, some (32, true), .len false (.t 38)⟩,
         ⟨some 40, some (32, true), .bin .eql (.t 39) (.c (.int .i64 2))⟩,
         ⟨some 41, none, .pick (.t 32) (.t 40) (.c (.bool false))⟩,
         ⟨some 42, none, .mv false (.t 41)⟩,
         ⟨some 43, some (42, true), .mv false (.t 1)⟩,
         ⟨some 44, some (42, true), .iad 2 (.t 43) (.c (.int .i64 0))⟩,
         ⟨some 45, some (42, true), .fad 1 (.t 44)⟩,
         ⟨some 46, some (42, true), .ld 1 false false (.t 45)⟩,
         ⟨some 47, some (42, true), .iad 1 (.t 46) (.c (.int .i64 0))⟩,
         ⟨some 48, some (42, true), .ld 1 false false (.t 47)⟩,
         ⟨some 49, some (42, true), .iad 1 (.t 48) (.c (.int .i64 0))⟩,
         ⟨some 50, some (42, true), .ld 1 false false (.t 49)⟩,
         ⟨some 51, some (42, true), .bin .eql (.t 50) (.c (.str [97, 44, 34, 98]))⟩,
         ⟨some 52, none, .pick (.t 42) (.t 51) (.c (.bool false))⟩,
         ⟨some 53, none, .mv false (.t 52)⟩,
         ⟨some 54, some (53, true), .mv false (.t 2)⟩,
         ⟨some 55, some (53, true), .bin .eql (.t 54) (.c (.int .i64 9))⟩,
         ⟨some 56, none, .pick (.t 53) (.t 55) (.c (.bool false))⟩,
         ⟨some 57, none, .mv false (.t 56)⟩,
         ⟨some 58, some (57, true), .mv false (.t 3)⟩,
         ⟨some 59, some (57, true), .bin .eql (.t 58) (.c (.int .i64 0))⟩,
         ⟨some 60, none, .pick (.t 57) (.t 59) (.c (.bool false))⟩,
         ⟨some 61, none, .mv false (.t 60)⟩,
         ⟨some 62, some (61, true), .mv false (.t 5)⟩,
         ⟨some 63, some (61, true), .bin .eql (.t 62) (.c (.int .i64 2))⟩,
         ⟨some 64, none, .pick (.t 61) (.t 63) (.c (.bool false))⟩,
         ⟨some 65, none, .mv false (.t 64)⟩,
         ⟨some 66, some (65, true), .mv false (.t 6)⟩,
         ⟨some 67, some (65, true), .bin .eql (.t 66) (.c (.int .i64 3))⟩,
         ⟨some 68, none, .pick (.t 65) (.t 67) (.c (.bool false))⟩,
         ⟨some 0, none, .mv true (.t 68)⟩])
       .ret)))⟩
theorem t7 : compF Tryd.prog {} 7 = some p7 := by kernel_rfl
def p8 : PFn :=
  ⟨11, [.t 2], .seq
    (.region [
      ⟨some 2, none, .mv true (.c (.str []))⟩])
    (.seq
     (.seq
      (.region [
        ⟨some 3, none, .mv false (.t 0)⟩,
        ⟨some 4, none, .callF 22 [.t 3, .c (.str [44, 34, 10, 13])] []⟩,
        ⟨some 5, none, .un .not (.t 4)⟩])
      (.cond (.t 5)
       (.seq
        (.region [
          ⟨some 6, none, .mv true (.t 0)⟩,
          ⟨some 2, none, .mv true (.t 6)⟩])
        .ret)
       .skip))
     (.seq
      (.region [
        ⟨some 7, none, .mv false (.t 0)⟩,
        ⟨some 8, none, .callF 23 [.t 7, .c (.str [34]), .c (.str [34, 34])] []⟩,
        ⟨some 9, none, .bin .add (.c (.str [34])) (.t 8)⟩,
        ⟨some 10, none, .bin .add (.t 9) (.c (.str [34]))⟩,
        ⟨some 2, none, .mv true (.t 10)⟩])
      .ret))⟩
theorem t8 : compF Tryd.prog {} 8 = some p8 := by kernel_rfl
def p9 : PFn :=
  ⟨36, [.t 2, .t 3, .t 4], .seq
    (.region [
      ⟨some 2, none, .mv true (.c (.lst 0 [] true))⟩,
      ⟨some 3, none, .mv true (.c (.int .i64 0))⟩,
      ⟨some 4, none, .mv true (.c (.int .i64 0))⟩])
    (.seq
     (.region [
       ⟨some 5, none, .mv true (.c (.lst 0 [] true))⟩])
     (.seq
      (.region [
        ⟨some 6, none, .mv true (.c (.int .i64 0))⟩])
      (.seq
       (.block 0
        (.loop
         (.seq
          (.seq
           (.region [
             ⟨some 10, none, .mv false (.t 6)⟩,
             ⟨some 11, none, .mv false (.t 0)⟩,
             ⟨some 12, none, .len false (.t 11)⟩,
             ⟨some 13, none, .bin .lss (.t 10) (.t 12)⟩])
           (.cond (.t 13)
            .skip
            (.exit 0)))
          (.block 1
           (.seq
            (.region [
              ⟨some 15, none, .mv false (.t 0)⟩,
              ⟨some 16, none, .mv false (.t 6)⟩,
              ⟨some 17, none, .callF 24 [.t 15, .t 16] []⟩,
              ⟨some 14, none, .mv true (.t 17)⟩,
              ⟨some 18, none, .ext true (.t 14) 0⟩,
              ⟨some 19, none, .ext false (.t 14) 1⟩,
              ⟨some 20, none, .ext false (.t 14) 2⟩,
              ⟨some 7, none, .mv true (.t 18)⟩,
              ⟨some 8, none, .mv true (.t 19)⟩,
              ⟨some 9, none, .mv true (.t 20)⟩])
            (.seq
             (.seq
              (.region [
                ⟨some 21, none, .mv false (.t 9)⟩,
                ⟨some 22, none, .bin .neq (.t 21) (.c (.int .i64 0))⟩])
              (.cond (.t 22)
               (.seq
                (.region [
                  ⟨some 23, none, .mv true (.t 5)⟩,
                  ⟨some 24, none, .mv true (.t 6)⟩,
                  ⟨some 25, none, .mv true (.t 9)⟩,
                  ⟨some 2, none, .mv true (.t 23)⟩,
                  ⟨some 3, none, .mv true (.t 24)⟩,
                  ⟨some 4, none, .mv true (.t 25)⟩])
                .ret)
               .skip))
             (.region [
               ⟨some 26, none, .mv true (.t 5)⟩,
               ⟨some 27, none, .mv false (.t 6)⟩,
               ⟨some 28, none, .mv false (.t 7)⟩,
               ⟨some 29, none, .bsl 1 1 false [.lst 0 [] true] [(0, .t 28)] false⟩,
               ⟨some 30, none, .build [.int .i64 0, .lst 0 [] true] [(0, (1, .t 27)), (1, (1, .t 29))]⟩,
               ⟨some 31, none, .bsl 2 1 true [.int .i64 0, .lst 0 [] true] [(0, .t 30)] false⟩,
               ⟨some 32, none, .app 2 32 (.t 26) (.t 31)⟩,
               ⟨some 33, none, .mv true (.t 8)⟩,
               ⟨some 5, none, .mv true (.t 32)⟩,
               ⟨some 6, none, .mv true (.t 33)⟩])))))))
       (.seq
        (.region [
          ⟨some 34, none, .mv true (.t 5)⟩,
          ⟨some 35, none, .mv true (.t 6)⟩,
          ⟨some 2, none, .mv true (.t 34)⟩,
          ⟨some 3, none, .mv true (.t 35)⟩,
          ⟨some 4, none, .mv true (.c (.int .i64 0))⟩])
        .ret))))⟩
theorem t9 : compF Tryd.prog {} 9 = some p9 := by kernel_rfl
def p10 : PFn :=
  ⟨27, [.t 4], .seq
    (.region [
      ⟨some 4, none, .mv true (.c (.bool false))⟩])
    (.seq
     (.seq
      (.region [
        ⟨some 6, none, .mv false (.t 0)⟩,
        ⟨some 7, none, .len false (.t 6)⟩,
        ⟨some 8, none, .mv false (.t 1)⟩,
        ⟨some 9, none, .len false (.t 8)⟩,
        ⟨some 10, none, .bin .neq (.t 7) (.t 9)⟩])
      (.cond (.t 10)
       (.seq
        (.region [
          ⟨some 4, none, .mv true (.c (.bool false))⟩])
        .ret)
       .skip))
     (.seq
      (.seq
       (.region [
         ⟨some 5, none, .mv true (.c (.int .i64 0))⟩])
       (.block 0
        (.loop
         (.seq
          (.seq
           (.region [
             ⟨some 11, none, .mv false (.t 5)⟩,
             ⟨some 12, none, .mv false (.t 0)⟩,
             ⟨some 13, none, .len false (.t 12)⟩,
             ⟨some 14, none, .bin .lss (.t 11) (.t 13)⟩])
           (.cond (.t 14)
            .skip
            (.exit 0)))
          (.seq
           (.block 1
            (.seq
             (.draw [
               ⟨some 17, none, .mv false (.t 0)⟩,
               ⟨some 18, none, .mv false (.t 5)⟩,
               ⟨some 19, none, .iad 1 (.t 17) (.t 18)⟩,
               ⟨some 20, none, .ld 1 false false (.t 19)⟩,
               ⟨some 21, none, .mv false (.t 1)⟩,
               ⟨some 22, none, .mv false (.t 5)⟩,
               ⟨some 23, none, .iad 1 (.t 21) (.t 22)⟩,
               ⟨some 24, none, .ld 1 false false (.t 23)⟩,
               ⟨some 25, none, .callF 25 [.t 20, .t 24] []⟩,
               ⟨some 26, none, .un .not (.t 25)⟩] [])
             (.cond (.t 26)
              (.seq
               (.region [
                 ⟨some 4, none, .mv true (.c (.bool false))⟩])
               .ret)
              .skip)))
           (.region [
             ⟨some 15, none, .mv false (.t 5)⟩,
             ⟨some 16, none, .bin .add (.t 15) (.c (.int .i64 1))⟩,
             ⟨some 5, none, .mv true (.t 16)⟩]))))))
      (.seq
       (.region [
         ⟨some 4, none, .mv true (.c (.bool true))⟩])
       .ret)))⟩
theorem t10 : compF Tryd.prog {} 10 = some p10 := by kernel_rfl
def p11 : PFn :=
  ⟨43, [.t 6], .seq
    (.region [
      ⟨some 6, none, .mv true (.c (.bool false))⟩])
    (.seq
     (.region [
       ⟨some 7, none, .mv true (.c (.int .i64 0))⟩])
     (.seq
      (.seq
       (.region [
         ⟨some 8, none, .mv true (.c (.int .i64 0))⟩])
       (.block 0
        (.loop
         (.seq
          (.seq
           (.region [
             ⟨some 10, none, .mv false (.t 8)⟩,
             ⟨some 11, none, .mv false (.t 0)⟩,
             ⟨some 12, none, .len false (.t 11)⟩,
             ⟨some 13, none, .bin .lss (.t 10) (.t 12)⟩])
           (.cond (.t 13)
            .skip
            (.exit 0)))
          (.seq
           (.block 1
            (.seq
             (.region [
               ⟨some 9, none, .mv true (.c (.int .i64 0))⟩])
             (.block 2
              (.loop
               (.seq
                (.seq
                 (.region [
                   ⟨some 16, none, .mv false (.t 9)⟩,
                   ⟨some 17, none, .mv false (.t 0)⟩,
                   ⟨some 18, none, .mv false (.t 8)⟩,
                   ⟨some 19, none, .iad 1 (.t 17) (.t 18)⟩,
                   ⟨some 20, none, .ld 1 false false (.t 19)⟩,
                   ⟨some 21, none, .len false (.t 20)⟩,
                   ⟨some 22, none, .bin .lss (.t 16) (.t 21)⟩])
                 (.cond (.t 22)
                  .skip
                  (.exit 2)))
                (.seq
                 (.block 3
                  (.seq
                   (.region [
                     ⟨some 25, none, .mv false (.t 7)⟩,
                     ⟨some 26, none, .bin .add (.t 25) (.c (.int .i64 1))⟩,
                     ⟨some 27, none, .mv false (.t 0)⟩,
                     ⟨some 28, none, .mv false (.t 8)⟩,
                     ⟨some 29, none, .iad 1 (.t 27) (.t 28)⟩,
                     ⟨some 30, none, .ld 1 false false (.t 29)⟩,
                     ⟨some 31, none, .mv false (.t 9)⟩,
                     ⟨some 32, none, .iad 1 (.t 30) (.t 31)⟩,
                     ⟨some 33, none, .ld 1 false false (.t 32)⟩,
                     ⟨some 34, none, .len true (.t 33)⟩,
                     ⟨some 35, none, .bin .add (.t 26) (.t 34)⟩,
                     ⟨some 7, none, .mv true (.t 35)⟩])
                   (.seq
                    (.region [
                      ⟨some 36, none, .mv false (.t 7)⟩,
                      ⟨some 37, none, .mv false (.t 2)⟩,
                      ⟨some 38, none, .bin .gtr (.t 36) (.t 37)⟩])
                    (.cond (.t 38)
                     (.seq
                      (.region [
                        ⟨some 6, none, .mv true (.c (.bool false))⟩])
                      .ret)
                     .skip))))
                 (.region [
                   ⟨some 23, none, .mv false (.t 9)⟩,
                   ⟨some 24, none, .bin .add (.t 23) (.c (.int .i64 1))⟩,
                   ⟨some 9, none, .mv true (.t 24)⟩])))))))
           (.region [
             ⟨some 14, none, .mv false (.t 8)⟩,
             ⟨some 15, none, .bin .add (.t 14) (.c (.int .i64 1))⟩,
             ⟨some 8, none, .mv true (.t 15)⟩]))))))
      (.seq
       (.region [
         ⟨some 39, none, .mv false (.t 0)⟩,
         ⟨some 40, none, .len false (.t 39)⟩,
         ⟨some 41, none, .mv false (.t 1)⟩,
         ⟨some 42, none, .bin .leq (.t 40) (.t 41)⟩,
         ⟨some 6, none, .mv true (.t 42)⟩])
       .ret)))⟩
theorem t11 : compF Tryd.prog {} 11 = some p11 := by kernel_rfl
def p12 : PFn :=
  ⟨40, [.t 2, .t 3], .seq
    (.region [
      ⟨some 2, none, .mv true (.c (.lst 0 [] true))⟩,
      ⟨some 3, none, .mv true (.c (.int .i64 0))⟩])
    (.seq
     (.region [
       ⟨some 4, none, .mv true (.c (.lst 0 [] true))⟩])
     (.seq
      (.seq
       (.region [
         ⟨some 9, none, .mv false (.t 0)⟩,
         ⟨some 10, none, .len false (.t 9)⟩,
         ⟨some 11, none, .mv false (.c (.int .i64 0))⟩])
       (.block 0
        (.loop
         (.seq
          (.region [
            ⟨some 12, none, .bin .lss (.t 11) (.t 10)⟩])
          (.seq
           (.cond (.t 12)
            .skip
            (.exit 0))
           (.seq
            (.block 1
             (.seq
              (.region [
                ⟨some 13, none, .iad 1 (.t 9) (.t 11)⟩,
                ⟨some 14, none, .ld 1 false false (.t 13)⟩,
                ⟨some 6, none, .mv true (.t 14)⟩])
              (.seq
               (.seq
                (.region [
                  ⟨some 15, none, .mv false (.t 6)⟩,
                  ⟨some 16, none, .callF 26 [.t 15] []⟩,
                  ⟨some 17, none, .un .not (.t 16)⟩])
                (.cond (.t 17)
                 (.seq
                  (.region [
                    ⟨some 2, none, .mv true (.c (.lst 0 [] true))⟩,
                    ⟨some 3, none, .mv true (.c (.int .i64 10))⟩])
                  .ret)
                 .skip))
               (.seq
                (.seq
                 (.region [
                   ⟨some 18, none, .mv false (.t 6)⟩,
                   ⟨some 19, none, .len false (.t 18)⟩,
                   ⟨some 20, none, .mv false (.c (.int .i64 0))⟩])
                 (.block 2
                  (.loop
                   (.seq
                    (.region [
                      ⟨some 21, none, .bin .lss (.t 20) (.t 19)⟩])
                    (.seq
                     (.cond (.t 21)
                      .skip
                      (.exit 2))
                     (.seq
                      (.block 3
                       (.seq
                        (.region [
                          ⟨some 22, none, .mv true (.t 20)⟩,
                          ⟨some 23, none, .iad 1 (.t 18) (.t 20)⟩,
                          ⟨some 24, none, .ld 1 false false (.t 23)⟩,
                          ⟨some 7, none, .mv true (.t 22)⟩,
                          ⟨some 8, none, .mv true (.t 24)⟩])
                        (.seq
                         (.seq
                          (.region [
                            ⟨some 25, none, .mv false (.t 7)⟩,
                            ⟨some 26, none, .bin .gtr (.t 25) (.c (.int .i64 0))⟩])
                          (.cond (.t 26)
                           (.region [
                             ⟨some 27, none, .mv true (.t 4)⟩,
                             ⟨some 28, none, .bsl 1 1 false [.int .u8 0] [(0, .c (.int .u8 44))] false⟩,
                             ⟨some 29, none, .app 1 1 (.t 27) (.t 28)⟩,
                             ⟨some 4, none, .mv true (.t 29)⟩])
                           .skip))
                         (.region [
                           ⟨some 30, none, .mv true (.t 4)⟩,
                           ⟨some 31, none, .mv false (.t 8)⟩,
                           ⟨some 32, none, .callF 8 [.t 31] []⟩,
                           ⟨some 33, none, .app 1 1 (.t 30) (.t 32)⟩,
                           ⟨some 4, none, .mv true (.t 33)⟩]))))
                      (.region [
                        ⟨some 34, none, .bin .add (.t 20) (.c (.int .i64 1))⟩,
                        ⟨some 20, none, .mv false (.t 34)⟩])))))))
                (.region [
                  ⟨some 35, none, .mv true (.t 4)⟩,
                  ⟨some 36, none, .bsl 1 1 false [.int .u8 0] [(0, .c (.int .u8 10))] false⟩,
                  ⟨some 37, none, .app 1 1 (.t 35) (.t 36)⟩,
                  ⟨some 4, none, .mv true (.t 37)⟩])))))
            (.region [
              ⟨some 38, none, .bin .add (.t 11) (.c (.int .i64 1))⟩,
              ⟨some 11, none, .mv false (.t 38)⟩])))))))
      (.seq
       (.region [
         ⟨some 39, none, .mv true (.t 4)⟩,
         ⟨some 2, none, .mv true (.t 39)⟩,
         ⟨some 3, none, .mv true (.c (.int .i64 0))⟩])
       .ret)))⟩
theorem t12 : compF Tryd.prog {} 12 = some p12 := by kernel_rfl
def p13 : PFn :=
  ⟨65, [.t 2, .t 3], .seq
    (.region [
      ⟨some 2, none, .mv true (.c (.lst 0 [] true))⟩,
      ⟨some 3, none, .mv true (.c (.int .i64 0))⟩])
    (.seq
     (.region [
       ⟨some 7, none, .bsl 1 0 false [] [] false⟩,
       ⟨some 4, none, .mv true (.t 7)⟩])
     (.seq
      (.seq
       (.region [
         ⟨some 5, none, .mv true (.c (.int .i64 0))⟩])
       (.block 0
        (.loop
         (.seq
          (.seq
           (.region [
             ⟨some 8, none, .mv false (.t 5)⟩,
             ⟨some 9, none, .mv false (.t 0)⟩,
             ⟨some 10, none, .len false (.t 9)⟩,
             ⟨some 11, none, .bin .lss (.t 8) (.t 10)⟩])
           (.cond (.t 11)
            .skip
            (.exit 0)))
          (.seq
           (.block 1
            (.seq
             (.seq
              (.region [
                ⟨some 14, none, .mv false (.t 0)⟩,
                ⟨some 15, none, .mv false (.t 5)⟩,
                ⟨some 16, none, .iad 1 (.t 14) (.t 15)⟩,
                ⟨some 17, none, .ld 1 false false (.t 16)⟩,
                ⟨some 18, none, .len false (.t 17)⟩,
                ⟨some 19, none, .bin .lss (.t 18) (.c (.int .i64 1))⟩,
                ⟨some 20, none, .mv false (.t 19)⟩,
                ⟨some 21, some (20, false), .mv false (.t 0)⟩,
                ⟨some 22, some (20, false), .mv false (.t 5)⟩,
                ⟨some 23, some (20, false), .iad 1 (.t 21) (.t 22)⟩,
                ⟨some 24, some (20, false), .ld 1 false false (.t 23)⟩,
                ⟨some 25, some (20, false), .len false (.t 24)⟩,
                ⟨some 26, some (20, false), .bin .gtr (.t 25) (.c (.int .i64 50))⟩,
                ⟨some 27, none, .pick (.t 20) (.c (.bool true)) (.t 26)⟩])
              (.cond (.t 27)
               (.seq
                (.region [
                  ⟨some 2, none, .mv true (.c (.lst 0 [] true))⟩,
                  ⟨some 3, none, .mv true (.c (.int .i64 10))⟩])
                .ret)
               .skip))
             (.seq
              (.seq
               (.region [
                 ⟨some 6, none, .mv true (.c (.int .i64 0))⟩])
               (.block 2
                (.loop
                 (.seq
                  (.seq
                   (.region [
                     ⟨some 28, none, .mv false (.t 6)⟩,
                     ⟨some 29, none, .mv false (.t 0)⟩,
                     ⟨some 30, none, .mv false (.t 5)⟩,
                     ⟨some 31, none, .iad 1 (.t 29) (.t 30)⟩,
                     ⟨some 32, none, .ld 1 false false (.t 31)⟩,
                     ⟨some 33, none, .len false (.t 32)⟩,
                     ⟨some 34, none, .bin .lss (.t 28) (.t 33)⟩])
                   (.cond (.t 34)
                    .skip
                    (.exit 2)))
                  (.seq
                   (.block 3
                    (.seq
                     (.seq
                      (.region [
                        ⟨some 37, none, .mv false (.t 0)⟩,
                        ⟨some 38, none, .mv false (.t 5)⟩,
                        ⟨some 39, none, .iad 1 (.t 37) (.t 38)⟩,
                        ⟨some 40, none, .ld 1 false false (.t 39)⟩,
                        ⟨some 41, none, .mv false (.t 6)⟩,
                        ⟨some 42, none, .iad 1 (.t 40) (.t 41)⟩,
                        ⟨some 43, none, .ld 1 false false (.t 42)⟩,
                        ⟨some 44, none, .len true (.t 43)⟩,
                        ⟨some 45, none, .bin .gtr (.t 44) (.c (.int .i64 1000))⟩])
                      (.cond (.t 45)
                       (.seq
                        (.region [
                          ⟨some 2, none, .mv true (.c (.lst 0 [] true))⟩,
                          ⟨some 3, none, .mv true (.c (.int .i64 10))⟩])
                        .ret)
                       .skip))
                     (.seq
                      (.seq
                       (.region [
                         ⟨some 46, none, .mv false (.t 6)⟩,
                         ⟨some 47, none, .bin .gtr (.t 46) (.c (.int .i64 0))⟩])
                       (.cond (.t 47)
                        (.region [
                          ⟨some 48, none, .mv true (.t 4)⟩,
                          ⟨some 49, none, .bsl 1 1 false [.int .u8 0] [(0, .c (.int .u8 44))] false⟩,
                          ⟨some 50, none, .app 1 1 (.t 48) (.t 49)⟩,
                          ⟨some 4, none, .mv true (.t 50)⟩])
                        .skip))
                      (.region [
                        ⟨some 51, none, .mv true (.t 4)⟩,
                        ⟨some 52, none, .mv false (.t 0)⟩,
                        ⟨some 53, none, .mv false (.t 5)⟩,
                        ⟨some 54, none, .iad 1 (.t 52) (.t 53)⟩,
                        ⟨some 55, none, .ld 1 false false (.t 54)⟩,
                        ⟨some 56, none, .mv false (.t 6)⟩,
                        ⟨some 57, none, .iad 1 (.t 55) (.t 56)⟩,
                        ⟨some 58, none, .ld 1 false false (.t 57)⟩,
                        ⟨some 59, none, .callF 14 [.t 58] []⟩,
                        ⟨some 60, none, .app 1 1 (.t 51) (.t 59)⟩,
                        ⟨some 4, none, .mv true (.t 60)⟩]))))
                   (.region [
                     ⟨some 35, none, .mv false (.t 6)⟩,
                     ⟨some 36, none, .bin .add (.t 35) (.c (.int .i64 1))⟩,
                     ⟨some 6, none, .mv true (.t 36)⟩]))))))
              (.region [
                ⟨some 61, none, .mv true (.t 4)⟩,
                ⟨some 62, none, .bsl 1 1 false [.int .u8 0] [(0, .c (.int .u8 10))] false⟩,
                ⟨some 63, none, .app 1 1 (.t 61) (.t 62)⟩,
                ⟨some 4, none, .mv true (.t 63)⟩]))))
           (.region [
             ⟨some 12, none, .mv false (.t 5)⟩,
             ⟨some 13, none, .bin .add (.t 12) (.c (.int .i64 1))⟩,
             ⟨some 5, none, .mv true (.t 13)⟩]))))))
      (.seq
       (.region [
         ⟨some 64, none, .mv true (.t 4)⟩,
         ⟨some 2, none, .mv true (.t 64)⟩,
         ⟨some 3, none, .mv true (.c (.int .i64 0))⟩])
       .ret)))⟩
theorem t13 : compF Tryd.prog {} 13 = some p13 := by kernel_rfl
def p14 : PFn :=
  ⟨54, [.t 2], .seq
    (.region [
      ⟨some 2, none, .mv true (.c (.str []))⟩])
    (.seq
     (.region [
       ⟨some 3, none, .mv true (.c (.bool false))⟩])
     (.seq
      (.region [
        ⟨some 4, none, .mv true (.c (.str [34]))⟩])
      (.seq
       (.seq
        (.region [
          ⟨some 5, none, .mv true (.c (.int .i64 0))⟩])
        (.block 0
         (.loop
          (.seq
           (.seq
            (.region [
              ⟨some 6, none, .mv false (.t 5)⟩,
              ⟨some 7, none, .mv false (.t 0)⟩,
              ⟨some 8, none, .len true (.t 7)⟩,
              ⟨some 9, none, .bin .lss (.t 6) (.t 8)⟩])
            (.cond (.t 9)
             .skip
             (.exit 0)))
           (.seq
            (.block 1
             (.seq
              (.region [
                ⟨some 12, none, .mv false (.t 3)⟩,
                ⟨some 13, none, .mv false (.t 12)⟩,
                ⟨some 14, some (13, false), .mv false (.t 0)⟩,
                ⟨some 15, some (13, false), .mv false (.t 5)⟩,
                ⟨some 16, some (13, false), .idx (.t 14) (.t 15)⟩,
                ⟨some 17, some (13, false), .bin .eql (.t 16) (.c (.int .u8 44))⟩,
                ⟨some 18, none, .pick (.t 13) (.c (.bool true)) (.t 17)⟩,
                ⟨some 19, none, .mv false (.t 18)⟩,
                ⟨some 20, some (19, false), .mv false (.t 0)⟩,
                ⟨some 21, some (19, false), .mv false (.t 5)⟩,
                ⟨some 22, some (19, false), .idx (.t 20) (.t 21)⟩,
                ⟨some 23, some (19, false), .bin .eql (.t 22) (.c (.int .u8 34))⟩,
                ⟨some 24, none, .pick (.t 19) (.c (.bool true)) (.t 23)⟩,
                ⟨some 25, none, .mv false (.t 24)⟩,
                ⟨some 26, some (25, false), .mv false (.t 0)⟩,
                ⟨some 27, some (25, false), .mv false (.t 5)⟩,
                ⟨some 28, some (25, false), .idx (.t 26) (.t 27)⟩,
                ⟨some 29, some (25, false), .bin .eql (.t 28) (.c (.int .u8 10))⟩,
                ⟨some 30, none, .pick (.t 25) (.c (.bool true)) (.t 29)⟩,
                ⟨some 31, none, .mv false (.t 30)⟩,
                ⟨some 32, some (31, false), .mv false (.t 0)⟩,
                ⟨some 33, some (31, false), .mv false (.t 5)⟩,
                ⟨some 34, some (31, false), .idx (.t 32) (.t 33)⟩,
                ⟨some 35, some (31, false), .bin .eql (.t 34) (.c (.int .u8 13))⟩,
                ⟨some 36, none, .pick (.t 31) (.c (.bool true)) (.t 35)⟩,
                ⟨some 3, none, .mv true (.t 36)⟩])
              (.seq
               (.seq
                (.region [
                  ⟨some 37, none, .mv false (.t 0)⟩,
                  ⟨some 38, none, .mv false (.t 5)⟩,
                  ⟨some 39, none, .idx (.t 37) (.t 38)⟩,
                  ⟨some 40, none, .bin .eql (.t 39) (.c (.int .u8 34))⟩])
                (.cond (.t 40)
                 (.region [
                   ⟨some 41, none, .mv false (.t 4)⟩,
                   ⟨some 42, none, .bin .add (.t 41) (.c (.str [34]))⟩,
                   ⟨some 4, none, .mv true (.t 42)⟩])
                 .skip))
               (.region [
                 ⟨some 43, none, .mv false (.t 4)⟩,
                 ⟨some 44, none, .mv false (.t 0)⟩,
                 ⟨some 45, none, .mv false (.t 5)⟩,
                 ⟨some 46, none, .mv false (.t 5)⟩,
                 ⟨some 47, none, .bin .add (.t 46) (.c (.int .i64 1))⟩,
                 ⟨some 48, none, .sls (.t 44) (some (.t 45)) (some (.t 47))⟩,
                 ⟨some 49, none, .bin .add (.t 43) (.t 48)⟩,
                 ⟨some 4, none, .mv true (.t 49)⟩]))))
            (.region [
              ⟨some 10, none, .mv false (.t 5)⟩,
              ⟨some 11, none, .bin .add (.t 10) (.c (.int .i64 1))⟩,
              ⟨some 5, none, .mv true (.t 11)⟩]))))))
       (.seq
        (.seq
         (.region [
           ⟨some 50, none, .mv false (.t 3)⟩])
         (.cond (.t 50)
          (.seq
           (.region [
             ⟨some 51, none, .mv false (.t 4)⟩,
             ⟨some 52, none, .bin .add (.t 51) (.c (.str [34]))⟩,
             ⟨some 2, none, .mv true (.t 52)⟩])
           .ret)
          .skip))
        (.seq
         (.region [
           ⟨some 53, none, .mv true (.t 0)⟩,
           ⟨some 2, none, .mv true (.t 53)⟩])
         .ret)))))⟩
theorem t14 : compF Tryd.prog {} 14 = some p14 := by kernel_rfl
def p15 : PFn :=
  ⟨44, [.t 2], .seq
    (.region [
      ⟨some 2, none, .mv true (.c (.bool false))⟩])
    (.seq
     (.region [
       ⟨some 12, none, .mv false (.t 0)⟩,
       ⟨some 13, none, .callF 9 [.t 12] []⟩,
       ⟨some 11, none, .mv true (.t 13)⟩,
       ⟨some 14, none, .ext true (.t 11) 0⟩,
       ⟨some 15, none, .ext false (.t 11) 1⟩,
       ⟨some 16, none, .ext false (.t 11) 2⟩,
       ⟨some 3, none, .mv true (.t 14)⟩,
       ⟨some 4, none, .mv true (.t 15)⟩,
       ⟨some 5, none, .mv true (.t 16)⟩])
     (.seq
      (.region [
        ⟨some 6, none, .mv true (.c (.lst 0 [] true))⟩])
      (.seq
       (.seq
        (.region [
          ⟨some 17, none, .mv false (.t 3)⟩,
          ⟨some 18, none, .len false (.t 17)⟩,
          ⟨some 19, none, .mv false (.c (.int .i64 0))⟩])
        (.block 0
         (.loop
          (.seq
           (.region [
             ⟨some 20, none, .bin .lss (.t 19) (.t 18)⟩])
           (.seq
            (.cond (.t 20)
             .skip
             (.exit 0))
            (.seq
             (.block 1
              (.seq
               (.region [
                 ⟨some 21, none, .iad 2 (.t 17) (.t 19)⟩,
                 ⟨some 22, none, .ld 2 true false (.t 21)⟩,
                 ⟨some 8, none, .al [.int .i64 0, .lst 0 [] true]⟩,
                 ⟨none, none, .sto 2 (.t 8) (.t 22)⟩])
               (.region [
                 ⟨some 23, none, .mv true (.t 6)⟩,
                 ⟨some 24, none, .fad 1 (.t 8)⟩,
                 ⟨some 25, none, .ld 1 false false (.t 24)⟩,
                 ⟨some 26, none, .app 1 24 (.t 23) (.t 25)⟩,
                 ⟨some 6, none, .mv true (.t 26)⟩])))
             (.region [
               ⟨some 27, none, .bin .add (.t 19) (.c (.int .i64 1))⟩,
               ⟨some 19, none, .mv false (.t 27)⟩])))))))
       (.seq
        (.region [
          ⟨some 29, none, .mv false (.t 6)⟩,
          ⟨some 30, none, .callF 12 [.t 29] []⟩,
          ⟨some 28, none, .mv true (.t 30)⟩,
          ⟨some 31, none, .ext true (.t 28) 0⟩,
          ⟨some 32, none, .ext false (.t 28) 1⟩,
          ⟨some 9, none, .mv true (.t 31)⟩,
          ⟨some 10, none, .mv true (.t 32)⟩])
        (.seq
         (.region [
           ⟨some 33, none, .mv false (.t 5)⟩,
           ⟨some 34, none, .bin .eql (.t 33) (.c (.int .i64 0))⟩,
           ⟨some 35, none, .mv false (.t 34)⟩,
           ⟨some 36, some (35, true), .mv false (.t 10)⟩,
           ⟨some 37, some (35, true), .bin .eql (.t 36) (.c (.int .i64 0))⟩,
           ⟨some 38, none, .pick (.t 35) (.t 37) (.c (.bool false))⟩,
           ⟨some 39, none, .mv false (.t 38)⟩,
           ⟨some 40, some (39, true), .mv false (.t 9)⟩,
           ⟨some 41, some (39, true), .mv false (.t 0)⟩,
           ⟨some 42, some (39, true), .callF 27 [.t 40, .t 41] []⟩,
           ⟨some 43, none, .pick (.t 39) (.t 42) (.c (.bool false))⟩,
           ⟨some 2, none, .mv true (.t 43)⟩])
         .ret)))))⟩
theorem t15 : compF Tryd.prog {} 15 = some p15 := by kernel_rfl
def p16 : PFn :=
  ⟨20, [.t 2], .seq
    (.region [
      ⟨some 2, none, .mv true (.c (.lst 0 [] true))⟩])
    (.seq
     (.region [
       ⟨some 5, none, .bsl 1 0 false [] [] false⟩,
       ⟨some 3, none, .mv true (.t 5)⟩])
     (.seq
      (.seq
       (.region [
         ⟨some 4, none, .mv true (.c (.int .i64 0))⟩])
       (.block 0
        (.loop
         (.seq
          (.seq
           (.region [
             ⟨some 6, none, .mv false (.t 4)⟩,
             ⟨some 7, none, .mv false (.t 0)⟩,
             ⟨some 8, none, .len false (.t 7)⟩,
             ⟨some 9, none, .bin .lss (.t 6) (.t 8)⟩])
           (.cond (.t 9)
            .skip
            (.exit 0)))
          (.seq
           (.block 1
            (.region [
              ⟨some 12, none, .mv true (.t 3)⟩,
              ⟨some 13, none, .mv false (.t 0)⟩,
              ⟨some 14, none, .mv false (.t 4)⟩,
              ⟨some 15, none, .iad 2 (.t 13) (.t 14)⟩,
              ⟨some 16, none, .fad 1 (.t 15)⟩,
              ⟨some 17, none, .ld 1 false false (.t 16)⟩,
              ⟨some 18, none, .app 1 24 (.t 12) (.t 17)⟩,
              ⟨some 3, none, .mv true (.t 18)⟩]))
           (.region [
             ⟨some 10, none, .mv false (.t 4)⟩,
             ⟨some 11, none, .bin .add (.t 10) (.c (.int .i64 1))⟩,
             ⟨some 4, none, .mv true (.t 11)⟩]))))))
      (.seq
       (.region [
         ⟨some 19, none, .mv true (.t 3)⟩,
         ⟨some 2, none, .mv true (.t 19)⟩])
       .ret)))⟩
theorem t16 : compF Tryd.prog {} 16 = some p16 := by kernel_rfl
def p17 : PFn :=
  ⟨37, [.t 2, .t 3, .t 4], .seq
    (.region [
      ⟨some 2, none, .mv true (.c (.lst 0 [] true))⟩,
      ⟨some 3, none, .mv true (.c (.int .i64 0))⟩,
      ⟨some 4, none, .mv true (.c (.int .i64 0))⟩])
    (.seq
     (.region [
       ⟨some 10, none, .bsl 2 0 true [] [] false⟩,
       ⟨some 5, none, .mv true (.t 10)⟩])
     (.seq
      (.region [
        ⟨some 6, none, .mv true (.c (.int .i64 0))⟩])
      (.seq
       (.block 0
        (.loop
         (.seq
          (.seq
           (.region [
             ⟨some 11, none, .mv false (.t 6)⟩,
             ⟨some 12, none, .mv false (.t 0)⟩,
             ⟨some 13, none, .len false (.t 12)⟩,
             ⟨some 14, none, .bin .lss (.t 11) (.t 13)⟩])
           (.cond (.t 14)
            .skip
            (.exit 0)))
          (.block 1
           (.seq
            (.region [
              ⟨some 16, none, .mv false (.t 0)⟩,
              ⟨some 17, none, .mv false (.t 6)⟩,
              ⟨some 18, none, .callF 28 [.t 16, .t 17] []⟩,
              ⟨some 15, none, .mv true (.t 18)⟩,
              ⟨some 19, none, .ext true (.t 15) 0⟩,
              ⟨some 20, none, .ext false (.t 15) 1⟩,
              ⟨some 21, none, .ext false (.t 15) 2⟩,
              ⟨some 7, none, .mv true (.t 19)⟩,
              ⟨some 8, none, .mv true (.t 20)⟩,
              ⟨some 9, none, .mv true (.t 21)⟩])
            (.seq
             (.seq
              (.region [
                ⟨some 22, none, .mv false (.t 9)⟩,
                ⟨some 23, none, .bin .neq (.t 22) (.c (.int .i64 0))⟩])
              (.cond (.t 23)
               (.seq
                (.region [
                  ⟨some 24, none, .mv true (.t 5)⟩,
                  ⟨some 25, none, .mv true (.t 6)⟩,
                  ⟨some 26, none, .mv true (.t 9)⟩,
                  ⟨some 2, none, .mv true (.t 24)⟩,
                  ⟨some 3, none, .mv true (.t 25)⟩,
                  ⟨some 4, none, .mv true (.t 26)⟩])
                .ret)
               .skip))
             (.seq
              (.region [
                ⟨some 27, none, .mv true (.t 5)⟩,
                ⟨some 28, none, .mv false (.t 6)⟩,
                ⟨some 29, none, .mv false (.t 7)⟩,
                ⟨some 30, none, .bsl 1 1 false [.lst 0 [] true] [(0, .t 29)] false⟩,
                ⟨some 31, none, .build [.int .i64 0, .lst 0 [] true] [(0, (1, .t 28)), (1, (1, .t 30))]⟩,
                ⟨some 32, none, .bsl 2 1 true [.int .i64 0, .lst 0 [] true] [(0, .t 31)] false⟩,
                ⟨some 33, none, .app 2 32 (.t 27) (.t 32)⟩,
                ⟨some 5, none, .mv true (.t 33)⟩])
              (.region [
                ⟨some 34, none, .mv true (.t 8)⟩,
                ⟨some 6, none, .mv true (.t 34)⟩]))))))))
       (.seq
        (.region [
          ⟨some 35, none, .mv true (.t 5)⟩,
          ⟨some 36, none, .mv true (.t 6)⟩,
          ⟨some 2, none, .mv true (.t 35)⟩,
          ⟨some 3, none, .mv true (.t 36)⟩,
          ⟨some 4, none, .mv true (.c (.int .i64 0))⟩])
        .ret))))⟩
theorem t17 : compF Tryd.prog {} 17 = some p17 := by kernel_rfl
def p18 : PFn :=
  ⟨42, [.t 4], .seq
    (.region [
      ⟨some 4, none, .mv true (.c (.bool false))⟩])
    (.seq
     (.seq
      (.region [
        ⟨some 6, none, .mv false (.t 0)⟩,
        ⟨some 7, none, .len false (.t 6)⟩,
        ⟨some 8, none, .mv false (.t 1)⟩,
        ⟨some 9, none, .len false (.t 8)⟩,
        ⟨some 10, none, .bin .neq (.t 7) (.t 9)⟩])
      (.cond (.t 10)
       (.seq
        (.region [
          ⟨some 4, none, .mv true (.c (.bool false))⟩])
        .ret)
       .skip))
     (.seq
      (.seq
       (.region [
         ⟨some 5, none, .mv true (.c (.int .i64 0))⟩])
       (.block 0
        (.loop
         (.seq
          (.seq
           (.region [
             ⟨some 11, none, .mv false (.t 5)⟩,
             ⟨some 12, none, .mv false (.t 0)⟩,
             ⟨some 13, none, .len false (.t 12)⟩,
             ⟨some 14, none, .bin .lss (.t 11) (.t 13)⟩])
           (.cond (.t 14)
            .skip
            (.exit 0)))
          (.seq
           (.block 1
            (.seq
             (.draw [
               ⟨some 17, none, .mv false (.t 0)⟩,
               ⟨some 18, none, .mv false (.t 5)⟩,
               ⟨some 19, none, .iad 2 (.t 17) (.t 18)⟩,
               ⟨some 20, none, .fad 0 (.t 19)⟩,
               ⟨some 21, none, .ld 1 false false (.t 20)⟩,
               ⟨some 22, none, .mv false (.t 1)⟩,
               ⟨some 23, none, .mv false (.t 5)⟩,
               ⟨some 24, none, .iad 2 (.t 22) (.t 23)⟩,
               ⟨some 25, none, .fad 0 (.t 24)⟩,
               ⟨some 26, none, .ld 1 false false (.t 25)⟩,
               ⟨some 27, none, .bin .neq (.t 21) (.t 26)⟩,
               ⟨some 28, none, .mv false (.t 27)⟩,
               ⟨some 29, some (28, false), .mv false (.t 0)⟩,
               ⟨some 30, some (28, false), .mv false (.t 5)⟩,
               ⟨some 31, some (28, false), .iad 2 (.t 29) (.t 30)⟩,
               ⟨some 32, some (28, false), .fad 1 (.t 31)⟩,
               ⟨some 33, some (28, false), .ld 1 false false (.t 32)⟩,
               ⟨some 34, some (28, false), .mv false (.t 1)⟩,
               ⟨some 35, some (28, false), .mv false (.t 5)⟩,
               ⟨some 36, some (28, false), .iad 2 (.t 34) (.t 35)⟩,
               ⟨some 37, some (28, false), .fad 1 (.t 36)⟩,
               ⟨some 38, some (28, false), .ld 1 false false (.t 37)⟩,
               ⟨some 39, some (28, false), .callF 10 [.t 33, .t 38] []⟩,
               ⟨some 40, some (28, false), .un .not (.t 39)⟩,
               ⟨some 41, none, .pick (.t 28) (.c (.bool true)) (.t 40)⟩] [])
             (.cond (.t 41)
              (.seq
               (.region [
                 ⟨some 4, none, .mv true (.c (.bool false))⟩])
               .ret)
              .skip)))
           (.region [
             ⟨some 15, none, .mv false (.t 5)⟩,
             ⟨some 16, none, .bin .add (.t 15) (.c (.int .i64 1))⟩,
             ⟨some 5, none, .mv true (.t 16)⟩]))))))
      (.seq
       (.region [
         ⟨some 4, none, .mv true (.c (.bool true))⟩])
       .ret)))⟩
theorem t18 : compF Tryd.prog {} 18 = some p18 := by kernel_rfl
def p19 : PFn :=
  ⟨31, [.t 2], .seq
    (.region [
      ⟨some 2, none, .mv true (.c (.bool false))⟩])
    (.seq
     (.region [
       ⟨some 9, none, .mv false (.t 0)⟩,
       ⟨some 10, none, .callF 17 [.t 9] []⟩,
       ⟨some 8, none, .mv true (.t 10)⟩,
       ⟨some 11, none, .ext true (.t 8) 0⟩,
       ⟨some 12, none, .ext false (.t 8) 1⟩,
       ⟨some 13, none, .ext false (.t 8) 2⟩,
       ⟨some 3, none, .mv true (.t 11)⟩,
       ⟨some 4, none, .mv true (.t 12)⟩,
       ⟨some 5, none, .mv true (.t 13)⟩])
     (.seq
      (.seq
       (.region [
         ⟨some 14, none, .mv false (.t 5)⟩,
         ⟨some 15, none, .bin .neq (.t 14) (.c (.int .i64 0))⟩])
       (.cond (.t 15)
        (.seq
         (.region [
           ⟨some 2, none, .mv true (.c (.bool false))⟩])
         .ret)
        .skip))
      (.seq
       (.region [
         ⟨some 17, none, .mv false (.t 3)⟩,
         ⟨some 18, none, .callF 16 [.t 17] []⟩,
         ⟨some 19, none, .callF 13 [.t 18] []⟩,
         ⟨some 16, none, .mv true (.t 19)⟩,
         ⟨some 20, none, .ext true (.t 16) 0⟩,
         ⟨some 21, none, .ext false (.t 16) 1⟩,
         ⟨some 6, none, .mv true (.t 20)⟩,
         ⟨some 7, none, .mv true (.t 21)⟩])
       (.seq
        (.region [
          ⟨some 22, none, .mv false (.t 7)⟩,
          ⟨some 23, none, .bin .eql (.t 22) (.c (.int .i64 0))⟩,
          ⟨some 24, none, .mv false (.t 23)⟩,
          ⟨some 25, some (24, true), .mv false (.t 6)⟩,
          ⟨some 26, some (24, true), .cvS (.t 25)⟩,
          ⟨some 27, some (24, true), .mv false (.t 0)⟩,
          ⟨some 28, some (24, true), .cvS (.t 27)⟩,
          ⟨some 29, some (24, true), .bin .eql (.t 26) (.t 28)⟩,
          ⟨some 30, none, .pick (.t 24) (.t 29) (.c (.bool false))⟩,
          ⟨some 2, none, .mv true (.t 30)⟩])
        .ret))))⟩
theorem t19 : compF Tryd.prog {} 19 = some p19 := by kernel_rfl
def p20 : PFn :=
  ⟨16, [.t 4], .seq
    (.region [
      ⟨some 4, none, .mv true (.c (.bool false))⟩])
    (.seq
     (.region [
       ⟨some 5, none, .mv false (.t 0)⟩,
       ⟨some 6, none, .mv false (.t 1)⟩,
       ⟨some 7, none, .mm true (.t 6) (.c (.int .i64 0))⟩,
       ⟨some 8, none, .mv false (.t 0)⟩,
       ⟨some 9, none, .len false (.t 8)⟩,
       ⟨some 10, none, .mm false (.t 7) (.t 9)⟩,
       ⟨some 11, none, .sli 1 (.t 5) none (some (.t 10)) none⟩,
       ⟨some 12, none, .bsl 1 1 false [.int .u8 0] [(0, .c (.int .u8 34))] false⟩,
       ⟨some 13, none, .callF 29 [.t 11, .t 12] []⟩,
       ⟨some 14, none, .bin .rem (.t 13) (.c (.int .i64 2))⟩,
       ⟨some 15, none, .bin .eql (.t 14) (.c (.int .i64 1))⟩,
       ⟨some 4, none, .mv true (.t 15)⟩])
     .ret)⟩
theorem t20 : compF Tryd.prog {} 20 = some p20 := by kernel_rfl
def p21 : PFn :=
  ⟨26, [.t 4], .seq
    (.region [
      ⟨some 4, none, .mv true (.c (.bool false))⟩])
    (.seq
     (.region [
       ⟨some 5, none, .mv true (.c (.bool false))⟩])
     (.seq
      (.seq
       (.region [
         ⟨some 6, none, .mv true (.c (.int .i64 0))⟩])
       (.block 0
        (.loop
         (.seq
          (.seq
           (.region [
             ⟨some 7, none, .mv false (.t 6)⟩,
             ⟨some 8, none, .mv false (.t 0)⟩,
             ⟨some 9, none, .len false (.t 8)⟩,
             ⟨some 10, none, .bin .lss (.t 7) (.t 9)⟩,
             ⟨some 11, none, .mv false (.t 10)⟩,
             ⟨some 12, some (11, true), .mv false (.t 6)⟩,
             ⟨some 13, some (11, true), .mv false (.t 1)⟩,
             ⟨some 14, some (11, true), .bin .lss (.t 12) (.t 13)⟩,
             ⟨some 15, none, .pick (.t 11) (.t 14) (.c (.bool false))⟩])
           (.cond (.t 15)
            .skip
            (.exit 0)))
          (.seq
           (.block 1
            (.seq
             (.region [
               ⟨some 18, none, .mv false (.t 0)⟩,
               ⟨some 19, none, .mv false (.t 6)⟩,
               ⟨some 20, none, .iad 1 (.t 18) (.t 19)⟩,
               ⟨some 21, none, .ld 1 false false (.t 20)⟩,
               ⟨some 22, none, .bin .eql (.t 21) (.c (.int .u8 34))⟩])
             (.cond (.t 22)
              (.region [
                ⟨some 23, none, .mv false (.t 5)⟩,
                ⟨some 24, none, .un .not (.t 23)⟩,
                ⟨some 5, none, .mv true (.t 24)⟩])
              .skip)))
           (.region [
             ⟨some 16, none, .mv false (.t 6)⟩,
             ⟨some 17, none, .bin .add (.t 16) (.c (.int .i64 1))⟩,
             ⟨some 6, none, .mv true (.t 17)⟩]))))))
      (.seq
       (.region [
         ⟨some 25, none, .mv true (.t 5)⟩,
         ⟨some 4, none, .mv true (.t 25)⟩])
       .ret)))⟩
theorem t21 : compF Tryd.prog {} 21 = some p21 := by kernel_rfl
def p22 : PFn :=
  ⟨9, [.t 4], .seq
    (.region [
      ⟨some 4, none, .mv true (.c (.bool false))⟩])
    (.seq
     (.region [
       ⟨some 5, none, .mv false (.t 0)⟩,
       ⟨some 6, none, .mv false (.t 1)⟩,
       ⟨some 7, none, .callF 30 [.t 5, .t 6] []⟩,
       ⟨some 8, none, .bin .geq (.t 7) (.c (.int .i64 0))⟩,
       ⟨some 4, none, .mv true (.t 8)⟩])
     .ret)⟩
theorem t22 : compF Tryd.prog {} 22 = some p22 := by kernel_rfl
def p23 : PFn :=
  ⟨11, [.t 6], .seq
    (.region [
      ⟨some 6, none, .mv true (.c (.str []))⟩])
    (.seq
     (.region [
       ⟨some 7, none, .mv false (.t 0)⟩,
       ⟨some 8, none, .mv false (.t 1)⟩,
       ⟨some 9, none, .mv false (.t 2)⟩,
       ⟨some 10, none, .callF 31 [.t 7, .t 8, .t 9, .c (.int .i64 (-1))] []⟩,
       ⟨some 6, none, .mv true (.t 10)⟩])
     .ret)⟩
theorem t23 : compF Tryd.prog {} 23 = some p23 := by kernel_rfl
def p24 : PFn :=
  ⟨75, [.t 4, .t 5, .t 6], .seq
    (.region [
      ⟨some 4, none, .mv true (.c (.lst 0 [] true))⟩,
      ⟨some 5, none, .mv true (.c (.int .i64 0))⟩,
      ⟨some 6, none, .mv true (.c (.int .i64 0))⟩])
    (.seq
     (.region [
       ⟨some 14, none, .build [.lst 0 [] true, .lst 0 [] true, .bool false, .int .i64 0] []⟩,
       ⟨some 15, none, .bx 4 (.t 14)⟩,
       ⟨some 7, none, .mv true (.t 15)⟩])
     (.seq
      (.region [
        ⟨some 16, none, .mv false (.t 7)⟩,
        ⟨some 17, none, .mkf (.func 32) [.t 16] []⟩,
        ⟨some 8, none, .mv true (.t 17)⟩,
        ⟨some 9, none, .mv true (.c (.bool false))⟩,
        ⟨some 10, none, .mv true (.c (.bool false))⟩])
      (.seq
       (.region [
         ⟨some 18, none, .mv true (.t 8)⟩,
         ⟨some 11, none, .mv true (.t 18)⟩])
       (.seq
        (.block 0
         (.loop
          (.seq
           (.seq
            (.region [
              ⟨some 19, none, .mv false (.t 1)⟩,
              ⟨some 20, none, .mv false (.t 0)⟩,
              ⟨some 21, none, .len false (.t 20)⟩,
              ⟨some 22, none, .bin .lss (.t 19) (.t 21)⟩])
            (.cond (.t 22)
             .skip
             (.exit 0)))
           (.seq
            (.block 1
             (.seq
              (.region [
                ⟨some 25, none, .mv false (.t 0)⟩,
                ⟨some 26, none, .mv false (.t 1)⟩,
                ⟨some 27, none, .iad 1 (.t 25) (.t 26)⟩,
                ⟨some 28, none, .ld 1 false false (.t 27)⟩,
                ⟨some 12, none, .mv true (.t 28)⟩])
              (.seq
               (.region [
                 ⟨some 29, none, .mv false (.t 12)⟩,
                 ⟨some 30, none, .bin .eql (.t 29) (.c (.int .u8 13))⟩,
                 ⟨some 13, none, .mv true (.t 30)⟩])
               (.seq
                (.region [
                  ⟨some 31, none, .mv false (.t 11)⟩,
                  ⟨some 32, none, .mv false (.t 12)⟩,
                  ⟨some 33, none, .callV (.t 31) [.t 32]⟩,
                  ⟨some 11, none, .mv true (.t 33)⟩])
                (.seq
                 (.block 2
                  (.seq
                   (.region [
                     ⟨some 35, none, .mv false (.t 7)⟩,
                     ⟨some 36, none, .nck (.t 35)⟩,
                     ⟨some 37, none, .fad 3 (.t 36)⟩,
                     ⟨some 38, none, .ld 1 false false (.t 37)⟩,
                     ⟨some 39, none, .bin .neq (.t 38) (.c (.int .i64 0))⟩,
                     ⟨some 34, none, .mv true (.t 39)⟩])
                   (.cond (.t 34)
                    (.seq
                     (.draw [
                       ⟨some 40, none, .mv false (.t 7)⟩,
                       ⟨some 41, none, .nck (.t 40)⟩,
                       ⟨some 42, none, .fad 3 (.t 41)⟩,
                       ⟨some 43, none, .ld 1 false false (.t 42)⟩,
                       ⟨some 4, none, .mv true (.c (.lst 0 [] true))⟩,
                       ⟨some 5, none, .mv true (.c (.int .i64 0))⟩,
                       ⟨some 6, none, .mv true (.t 43)⟩] [])
                     .ret)
                    (.seq
                     (.region [
                       ⟨some 45, none, .mv false (.t 7)⟩,
                       ⟨some 46, none, .nck (.t 45)⟩,
                       ⟨some 47, none, .fad 2 (.t 46)⟩,
                       ⟨some 48, none, .ld 1 false false (.t 47)⟩,
                       ⟨some 44, none, .mv true (.t 48)⟩])
                     (.cond (.t 44)
                      (.seq
                       (.region [
                         ⟨some 49, none, .mv false (.t 7)⟩,
                         ⟨some 50, none, .nck (.t 49)⟩,
                         ⟨some 51, none, .fad 0 (.t 50)⟩,
                         ⟨some 52, none, .ld 1 false false (.t 51)⟩,
                         ⟨some 53, none, .mv false (.t 1)⟩,
                         ⟨some 54, none, .bin .add (.t 53) (.c (.int .i64 1))⟩,
                         ⟨some 4, none, .mv true (.t 52)⟩,
                         ⟨some 5, none, .mv true (.t 54)⟩,
                         ⟨some 6, none, .mv true (.c (.int .i64 0))⟩])
                       .ret)
                      .skip)))))
                 (.region [
                   ⟨some 55, none, .mv false (.t 7)⟩,
                   ⟨some 56, none, .mv false (.t 12)⟩,
                   ⟨some 57, none, .mv false (.t 9)⟩,
                   ⟨some 58, none, .callF 33 [.t 55, .t 56, .t 57] []⟩,
                   ⟨some 59, none, .mv false (.t 13)⟩,
                   ⟨some 60, none, .mv false (.t 59)⟩,
                   ⟨some 61, some (60, true), .mv false (.t 9)⟩,
                   ⟨some 62, some (60, true), .un .not (.t 61)⟩,
                   ⟨some 63, none, .pick (.t 60) (.t 62) (.c (.bool false))⟩,
                   ⟨some 9, none, .mv true (.t 58)⟩,
                   ⟨some 10, none, .mv true (.t 63)⟩]))))))
            (.region [
              ⟨some 23, none, .mv false (.t 1)⟩,
              ⟨some 24, none, .bin .add (.t 23) (.c (.int .i64 1))⟩,
              ⟨some 1, none, .mv true (.t 24)⟩])))))
        (.seq
         (.seq
          (.region [
            ⟨some 64, none, .mv false (.t 9)⟩,
            ⟨some 65, none, .mv false (.t 64)⟩,
            ⟨some 66, some (65, false), .mv false (.t 10)⟩,
            ⟨some 67, none, .pick (.t 65) (.c (.bool true)) (.t 66)⟩])
          (.cond (.t 67)
           (.seq
            (.region [
              ⟨some 4, none, .mv true (.c (.lst 0 [] true))⟩,
              ⟨some 5, none, .mv true (.c (.int .i64 0))⟩,
              ⟨some 6, none, .mv true (.c (.int .i64 3))⟩])
            .ret)
           .skip))
         (.seq
          (.region [
            ⟨some 68, none, .mv false (.t 7)⟩,
            ⟨some 69, none, .callF 34 [.t 68] []⟩])
          (.seq
           (.region [
             ⟨some 70, none, .mv false (.t 7)⟩,
             ⟨some 71, none, .nck (.t 70)⟩,
             ⟨some 72, none, .fad 0 (.t 71)⟩,
             ⟨some 73, none, .ld 1 false false (.t 72)⟩,
             ⟨some 74, none, .mv true (.t 1)⟩,
             ⟨some 4, none, .mv true (.t 73)⟩,
             ⟨some 5, none, .mv true (.t 74)⟩,
             ⟨some 6, none, .mv true (.c (.int .i64 0))⟩])
           .ret)))))))⟩
theorem t24 : compF Tryd.prog {} 24 = some p24 := by kernel_rfl
def p25 : PFn :=
  ⟨26, [.t 4], .seq
    (.region [
      ⟨some 4, none, .mv true (.c (.bool false))⟩])
    (.seq
     (.seq
      (.region [
        ⟨some 6, none, .mv false (.t 0)⟩,
        ⟨some 7, none, .len false (.t 6)⟩,
        ⟨some 8, none, .mv false (.t 1)⟩,
        ⟨some 9, none, .len false (.t 8)⟩,
        ⟨some 10, none, .bin .neq (.t 7) (.t 9)⟩])
      (.cond (.t 10)
       (.seq
        (.region [
          ⟨some 4, none, .mv true (.c (.bool false))⟩])
        .ret)
       .skip))
     (.seq
      (.seq
       (.region [
         ⟨some 5, none, .mv true (.c (.int .i64 0))⟩])
       (.block 0
        (.loop
         (.seq
          (.seq
           (.region [
             ⟨some 11, none, .mv false (.t 5)⟩,
             ⟨some 12, none, .mv false (.t 0)⟩,
             ⟨some 13, none, .len false (.t 12)⟩,
             ⟨some 14, none, .bin .lss (.t 11) (.t 13)⟩])
           (.cond (.t 14)
            .skip
            (.exit 0)))
          (.seq
           (.block 1
            (.seq
             (.draw [
               ⟨some 17, none, .mv false (.t 0)⟩,
               ⟨some 18, none, .mv false (.t 5)⟩,
               ⟨some 19, none, .iad 1 (.t 17) (.t 18)⟩,
               ⟨some 20, none, .ld 1 false false (.t 19)⟩,
               ⟨some 21, none, .mv false (.t 1)⟩,
               ⟨some 22, none, .mv false (.t 5)⟩,
               ⟨some 23, none, .iad 1 (.t 21) (.t 22)⟩,
               ⟨some 24, none, .ld 1 false false (.t 23)⟩,
               ⟨some 25, none, .bin .neq (.t 20) (.t 24)⟩] [])
             (.cond (.t 25)
              (.seq
               (.region [
                 ⟨some 4, none, .mv true (.c (.bool false))⟩])
               .ret)
              .skip)))
           (.region [
             ⟨some 15, none, .mv false (.t 5)⟩,
             ⟨some 16, none, .bin .add (.t 15) (.c (.int .i64 1))⟩,
             ⟨some 5, none, .mv true (.t 16)⟩]))))))
      (.seq
       (.region [
         ⟨some 4, none, .mv true (.c (.bool true))⟩])
       .ret)))⟩
theorem t25 : compF Tryd.prog {} 25 = some p25 := by kernel_rfl
def p26 : PFn :=
  ⟨23, [.t 2], .seq
    (.region [
      ⟨some 2, none, .mv true (.c (.bool false))⟩])
    (.seq
     (.seq
      (.region [
        ⟨some 5, none, .mv false (.t 0)⟩,
        ⟨some 6, none, .len false (.t 5)⟩,
        ⟨some 7, none, .mv false (.c (.int .i64 0))⟩])
      (.block 0
       (.loop
        (.seq
         (.region [
           ⟨some 8, none, .bin .lss (.t 7) (.t 6)⟩])
         (.seq
          (.cond (.t 8)
           .skip
           (.exit 0))
          (.seq
           (.block 1
            (.seq
             (.region [
               ⟨some 9, none, .iad 1 (.t 5) (.t 7)⟩,
               ⟨some 10, none, .ld 1 false false (.t 9)⟩,
               ⟨some 4, none, .mv true (.t 10)⟩])
             (.seq
              (.region [
                ⟨some 11, none, .mv false (.t 4)⟩,
                ⟨some 12, none, .len true (.t 11)⟩,
                ⟨some 13, none, .bin .gtr (.t 12) (.c (.int .i64 1000))⟩])
              (.cond (.t 13)
               (.seq
                (.region [
                  ⟨some 2, none, .mv true (.c (.bool false))⟩])
                .ret)
               .skip))))
           (.region [
             ⟨some 14, none, .bin .add (.t 7) (.c (.int .i64 1))⟩,
             ⟨some 7, none, .mv false (.t 14)⟩])))))))
     (.seq
      (.region [
        ⟨some 15, none, .mv false (.t 0)⟩,
        ⟨some 16, none, .len false (.t 15)⟩,
        ⟨some 17, none, .bin .gtr (.t 16) (.c (.int .i64 0))⟩,
        ⟨some 18, none, .mv false (.t 17)⟩,
        ⟨some 19, some (18, true), .mv false (.t 0)⟩,
        ⟨some 20, some (18, true), .len false (.t 19)⟩,
        ⟨some 21, some (18, true), .bin .leq (.t 20) (.c (.int .i64 50))⟩,
        ⟨some 22, none, .pick (.t 18) (.t 21) (.c (.bool false))⟩,
        ⟨some 2, none, .mv true (.t 22)⟩])
      .ret))⟩
theorem t26 : compF Tryd.prog {} 26 = some p26 := by kernel_rfl
def p27 : PFn :=
  ⟨10, [.t 4], .seq
    (.region [
      ⟨some 4, none, .mv true (.c (.bool false))⟩])
    (.seq
     (.region [
       ⟨some 5, none, .mv false (.t 0)⟩,
       ⟨some 6, none, .cvS (.t 5)⟩,
       ⟨some 7, none, .mv false (.t 1)⟩,
       ⟨some 8, none, .cvS (.t 7)⟩,
       ⟨some 9, none, .bin .eql (.t 6) (.t 8)⟩,
       ⟨some 4, none, .mv true (.t 9)⟩])
     .ret)⟩
theorem t27 : compF Tryd.prog {} 27 = some p27 := by kernel_rfl
def p28 : PFn :=
  ⟨68, [.t 4, .t 5, .t 6], .seq
    (.region [
      ⟨some 4, none, .mv true (.c (.lst 0 [] true))⟩,
      ⟨some 5, none, .mv true (.c (.int .i64 0))⟩,
      ⟨some 6, none, .mv true (.c (.int .i64 0))⟩])
    (.seq
     (.region [
       ⟨some 11, none, .bsl 1 0 false [] [] false⟩,
       ⟨some 7, none, .mv true (.t 11)⟩])
     (.block 0
      (.loop
       (.block 1
        (.seq
         (.seq
          (.region [
            ⟨some 12, none, .mv false (.t 7)⟩,
            ⟨some 13, none, .len false (.t 12)⟩,
            ⟨some 14, none, .bin .eql (.t 13) (.c (.int .i64 50))⟩])
          (.cond (.t 14)
           (.seq
            (.region [
              ⟨some 4, none, .mv true (.c (.lst 0 [] true))⟩,
              ⟨some 5, none, .mv true (.c (.int .i64 0))⟩,
              ⟨some 6, none, .mv true (.c (.int .i64 5))⟩])
            .ret)
           .skip))
         (.seq
          (.region [
            ⟨some 8, none, .mv true (.c (.str []))⟩,
            ⟨some 9, none, .mv true (.c (.int .i64 0))⟩,
            ⟨some 10, none, .mv true (.c (.int .i64 0))⟩])
          (.seq
           (.seq
            (.region [
              ⟨some 15, none, .mv false (.t 1)⟩,
              ⟨some 16, none, .mv false (.t 0)⟩,
              ⟨some 17, none, .len false (.t 16)⟩,
              ⟨some 18, none, .bin .lss (.t 15) (.t 17)⟩,
              ⟨some 19, none, .mv false (.t 18)⟩,
              ⟨some 20, some (19, true), .mv false (.t 0)⟩,
              ⟨some 21, some (19, true), .mv false (.t 1)⟩,
              ⟨some 22, some (19, true), .iad 1 (.t 20) (.t 21)⟩,
              ⟨some 23, some (19, true), .ld 1 false false (.t 22)⟩,
              ⟨some 24, some (19, true), .bin .eql (.t 23) (.c (.int .u8 34))⟩,
              ⟨some 25, none, .pick (.t 19) (.t 24) (.c (.bool false))⟩])
            (.cond (.t 25)
             (.region [
               ⟨some 27, none, .mv false (.t 0)⟩,
               ⟨some 28, none, .mv false (.t 1)⟩,
               ⟨some 29, none, .bin .add (.t 28) (.c (.int .i64 1))⟩,
               ⟨some 30, none, .callF 35 [.t 27, .t 29] []⟩,
               ⟨some 26, none, .mv true (.t 30)⟩,
               ⟨some 31, none, .ext false (.t 26) 0⟩,
               ⟨some 32, none, .ext false (.t 26) 1⟩,
               ⟨some 33, none, .ext false (.t 26) 2⟩,
               ⟨some 8, none, .mv true (.t 31)⟩,
               ⟨some 9, none, .mv true (.t 32)⟩,
               ⟨some 10, none, .mv true (.t 33)⟩])
             (.region [
               ⟨some 35, none, .mv false (.t 0)⟩,
               ⟨some 36, none, .mv false (.t 1)⟩,
               ⟨some 37, none, .callF 36 [.t 35, .t 36] []⟩,
               ⟨some 34, none, .mv true (.t 37)⟩,
               ⟨some 38, none, .ext false (.t 34) 0⟩,
               ⟨some 39, none, .ext false (.t 34) 1⟩,
               ⟨some 40, none, .ext false (.t 34) 2⟩,
               ⟨some 8, none, .mv true (.t 38)⟩,
               ⟨some 9, none, .mv true (.t 39)⟩,
               ⟨some 10, none, .mv true (.t 40)⟩])))
           (.seq
            (.seq
             (.region [
               ⟨some 41, none, .mv false (.t 10)⟩,
               ⟨some 42, none, .bin .neq (.t 41) (.c (.int .i64 0))⟩])
             (.cond (.t 42)
              (.seq
               (.region [
                 ⟨some 43, none, .mv true (.t 10)⟩,
                 ⟨some 4, none, .mv true (.c (.lst 0 [] true))⟩,
                 ⟨some 5, none, .mv true (.c (.int .i64 0))⟩,
                 ⟨some 6, none, .mv true (.t 43)⟩])
               .ret)
              .skip))
            (.seq
             (.region [
               ⟨some 44, none, .mv true (.t 7)⟩,
               ⟨some 45, none, .mv false (.t 8)⟩,
               ⟨some 46, none, .bsl 1 1 false [.str []] [(0, .t 45)] false⟩,
               ⟨some 47, none, .app 1 16 (.t 44) (.t 46)⟩,
               ⟨some 7, none, .mv true (.t 47)⟩])
             (.seq
              (.region [
                ⟨some 48, none, .mv true (.t 9)⟩,
                ⟨some 1, none, .mv true (.t 48)⟩])
              (.seq
               (.seq
                (.region [
                  ⟨some 49, none, .mv false (.t 1)⟩,
                  ⟨some 50, none, .mv false (.t 0)⟩,
                  ⟨some 51, none, .len false (.t 50)⟩,
                  ⟨some 52, none, .bin .lss (.t 49) (.t 51)⟩,
                  ⟨some 53, none, .mv false (.t 52)⟩,
                  ⟨some 54, some (53, true), .mv false (.t 0)⟩,
                  ⟨some 55, some (53, true), .mv false (.t 1)⟩,
                  ⟨some 56, some (53, true), .iad 1 (.t 54) (.t 55)⟩,
                  ⟨some 57, some (53, true), .ld 1 false false (.t 56)⟩,
                  ⟨some 58, some (53, true), .bin .eql (.t 57) (.c (.int .u8 44))⟩,
                  ⟨some 59, none, .pick (.t 53) (.t 58) (.c (.bool false))⟩])
                (.cond (.t 59)
                 (.seq
                  (.region [
                    ⟨some 60, none, .mv false (.t 1)⟩,
                    ⟨some 61, none, .bin .add (.t 60) (.c (.int .i64 1))⟩,
                    ⟨some 1, none, .mv true (.t 61)⟩])
                  (.exit 1))
                 .skip))
               (.seq
                (.region [
                  ⟨some 62, none, .mv true (.t 7)⟩,
                  ⟨some 63, none, .mv false (.t 1)⟩,
                  ⟨some 64, none, .mv false (.t 0)⟩,
                  ⟨some 65, none, .mv false (.t 1)⟩,
                  ⟨some 66, none, .callF 37 [.t 64, .t 65] []⟩,
                  ⟨some 67, none, .bin .add (.t 63) (.t 66)⟩,
                  ⟨some 4, none, .mv true (.t 62)⟩,
                  ⟨some 5, none, .mv true (.t 67)⟩,
                  ⟨some 6, none, .mv true (.c (.int .i64 0))⟩])
                .ret))))))))))))⟩
theorem t28 : compF Tryd.prog {} 28 = some p28 := by kernel_rfl
def p29 : PFn :=
  ⟨35, [.t 4], .seq
    (.region [
      ⟨some 4, none, .mv true (.c (.int .i64 0))⟩])
    (.seq
     (.seq
      (.region [
        ⟨some 7, none, .mv false (.t 1)⟩,
        ⟨some 8, none, .len false (.t 7)⟩,
        ⟨some 9, none, .bin .eql (.t 8) (.c (.int .i64 0))⟩])
      (.cond (.t 9)
       (.seq
        (.region [
          ⟨some 10, none, .mv false (.t 0)⟩,
          ⟨some 11, none, .callF 38 [.t 10] []⟩,
          ⟨some 12, none, .bin .add (.t 11) (.c (.int .i64 1))⟩,
          ⟨some 4, none, .mv true (.t 12)⟩])
        .ret)
       .skip))
     (.seq
      (.seq
       (.region [
         ⟨some 13, none, .mv false (.t 1)⟩,
         ⟨some 14, none, .len false (.t 13)⟩,
         ⟨some 15, none, .bin .eql (.t 14) (.c (.int .i64 1))⟩])
       (.cond (.t 15)
        (.seq
         (.region [
           ⟨some 16, none, .mv false (.t 0)⟩,
           ⟨some 17, none, .mv false (.t 1)⟩,
           ⟨some 18, none, .iad 1 (.t 17) (.c (.int .i64 0))⟩,
           ⟨some 19, none, .ld 1 false false (.t 18)⟩,
           ⟨some 20, none, .callF 39 [.t 16, .t 19] []⟩,
           ⟨some 4, none, .mv true (.t 20)⟩])
         .ret)
        .skip))
      (.seq
       (.region [
         ⟨some 5, none, .mv true (.c (.int .i64 0))⟩])
       (.block 0
        (.loop
         (.block 1
          (.seq
           (.region [
             ⟨some 21, none, .mv false (.t 0)⟩,
             ⟨some 22, none, .mv false (.t 1)⟩,
             ⟨some 23, none, .callF 40 [.t 21, .t 22] []⟩,
             ⟨some 6, none, .mv true (.t 23)⟩])
           (.seq
            (.seq
             (.region [
               ⟨some 24, none, .mv false (.t 6)⟩,
               ⟨some 25, none, .bin .eql (.t 24) (.c (.int .i64 (-1)))⟩])
             (.cond (.t 25)
              (.seq
               (.region [
                 ⟨some 26, none, .mv true (.t 5)⟩,
                 ⟨some 4, none, .mv true (.t 26)⟩])
               .ret)
              .skip))
            (.seq
             (.region [
               ⟨some 27, none, .mv false (.t 5)⟩,
               ⟨some 28, none, .bin .add (.t 27) (.c (.int .i64 1))⟩,
               ⟨some 5, none, .mv true (.t 28)⟩])
             (.region [
               ⟨some 29, none, .mv false (.t 0)⟩,
               ⟨some 30, none, .mv false (.t 6)⟩,
               ⟨some 31, none, .mv false (.t 1)⟩,
               ⟨some 32, none, .len false (.t 31)⟩,
               ⟨some 33, none, .bin .add (.t 30) (.t 32)⟩,
               ⟨some 34, none, .sli 1 (.t 29) (some (.t 33)) none none⟩,
               ⟨some 0, none, .mv true (.t 34)⟩]))))))))))⟩
theorem t29 : compF Tryd.prog {} 29 = some p29 := by kernel_rfl
def p30 : PFn :=
  ⟨55, [.t 4], .seq
    (.region [
      ⟨some 4, none, .mv true (.c (.int .i64 0))⟩])
    (.seq
     (.seq
      (.region [
        ⟨some 11, none, .mv false (.t 1)⟩,
        ⟨some 12, none, .bin .eql (.t 11) (.c (.str []))⟩])
      (.cond (.t 12)
       (.seq
        (.region [
          ⟨some 4, none, .mv true (.c (.int .i64 (-1)))⟩])
        .ret)
       .skip))
     (.seq
      (.seq
       (.region [
         ⟨some 13, none, .mv false (.t 1)⟩,
         ⟨some 14, none, .len true (.t 13)⟩,
         ⟨some 15, none, .bin .eql (.t 14) (.c (.int .i64 1))⟩])
       (.cond (.t 15)
        (.seq
         (.region [
           ⟨some 16, none, .mv false (.t 1)⟩,
           ⟨some 17, none, .idx (.t 16) (.c (.int .i64 0))⟩,
           ⟨some 18, none, .cvI .i32 (.t 17)⟩,
           ⟨some 5, none, .mv true (.t 18)⟩])
         (.seq
          (.seq
           (.region [
             ⟨some 19, none, .mv false (.t 5)⟩,
             ⟨some 20, none, .bin .geq (.t 19) (.c (.int .i32 128))⟩])
           (.cond (.t 20)
            (.region [
              ⟨some 5, none, .mv true (.c (.int .i32 65533))⟩])
            .skip))
          (.seq
           (.region [
             ⟨some 21, none, .mv false (.t 0)⟩,
             ⟨some 22, none, .mv false (.t 5)⟩,
             ⟨some 23, none, .callF 41 [.t 21, .t 22] []⟩,
             ⟨some 4, none, .mv true (.t 23)⟩])
           .ret)))
        .skip))
      (.seq
       (.seq
        (.region [
          ⟨some 24, none, .mv false (.t 0)⟩,
          ⟨some 25, none, .len true (.t 24)⟩,
          ⟨some 26, none, .callF 42 [.t 25] []⟩])
        (.cond (.t 26)
         (.seq
          (.region [
            ⟨some 28, none, .mv false (.t 1)⟩,
            ⟨some 29, none, .callF 43 [.t 28] []⟩,
            ⟨some 27, none, .mv true (.t 29)⟩,
            ⟨some 30, none, .ext false (.t 27) 0⟩,
            ⟨some 31, none, .ext false (.t 27) 1⟩,
            ⟨some 6, none, .al [.bool false, .bool false, .bool false, .bool false, .bool false, .bool false, .bool false, .bool false, .bool false, .bool false, .bool false, .bool false, .bool false, .bool false, .bool false, .bool false, .bool false, .bool false, .bool false, .bool false, .bool false, .bool false, .bool false, .bool false, .bool false, .bool false, .bool false, .bool false, .bool false, .bool false, .bool false, .bool false, .bool false, .bool false, .bool false, .bool false, .bool false, .bool false, .bool false, .bool false, .bool false, .bool false, .bool false, .bool false, .bool false, .bool false, .bool false, .bool false, .bool false, .bool false, .bool false, .bool false, .bool false, .bool false, .bool false, .bool false, .bool false, .bool false, .bool false, .bool false, .bool false, .bool false, .bool false, .bool false, .bool false, .bool false, .bool false, .bool false, .bool false, .bool false, .bool false, .bool false, .bool false, .bool false, .bool false, .bool false, .bool false, .bool false, .bool false, .bool false, .bool false, .bool false, .bool false, .bool false, .bool false, .bool false, .bool false, .bool false, .bool false, .bool false, .bool false, .bool false, .bool false, .bool false, .bool false, .bool false, .bool false, .bool false, .bool false, .bool false, .bool false, .bool false, .bool false, .bool false, .bool false, .bool false, .bool false, .bool false, .bool false, .bool false, .bool false, .bool false, .bool false, .bool false, .bool false, .bool false, .bool false, .bool false, .bool false, .bool false, .bool false, .bool false, .bool false, .bool false, .bool false, .bool false, .bool false, .bool false, .bool false, .bool false, .bool false, .bool false, .bool false, .bool false, .bool false, .bool false, .bool false, .bool false, .bool false, .bool false, .bool false, .bool false, .bool false, .bool false, .bool false, .bool false, .bool false, .bool false, .bool false, .bool false, .bool false, .bool false, .bool false, .bool false, .bool false, .bool false, .bool false, .bool false, .bool false, .bool false, .bool false, .bool false, .bool false, .bool false, .bool false, .bool false, .bool false, .bool false, .bool false, .bool false, .bool false, .bool false, .bool false, .bool false, .bool false, .bool false, .bool false, .bool false, .bool false, .bool false, .bool false, .bool false, .bool false, .bool false, .bool false, .bool false, .bool false, .bool false, .bool false, .bool false, .bool false, .bool false, .bool false, .bool false, .bool false, .bool false, .bool false, .bool false, .bool false, .bool false, .bool false, .bool false, .bool false, .bool false, .bool false, .bool false, .bool false, .bool false, .bool false, .bool false, .bool false, .bool false, .bool false, .bool false, .bool false, .bool false, .bool false, .bool false, .bool false, .bool false, .bool false, .bool false, .bool false, .bool false, .bool false, .bool false, .bool false, .bool false, .bool false, .bool false, .bool false, .bool false, .bool false, .bool false, .bool false, .bool false, .bool false, .bool false, .bool false, .bool false, .bool false, .bool false, .bool false, .bool false, .bool false, .bool false, .bool false, .bool false, .bool false, .bool false, .bool false, .bool false, .bool false, .bool false, .bool false, .bool false]⟩,
            ⟨none, none, .sto 256 (.t 6) (.t 30)⟩,
            ⟨some 7, none, .mv true (.t 31)⟩])
          (.seq
           (.region [
             ⟨some 32, none, .mv false (.t 7)⟩])
           (.cond (.t 32)
            (.seq
             (.seq
              (.region [
                ⟨some 8, none, .mv true (.c (.int .i64 0))⟩])
              (.block 0
               (.loop
                (.seq
                 (.seq
                  (.region [
                    ⟨some 33, none, .mv false (.t 8)⟩,
                    ⟨some 34, none, .mv false (.t 0)⟩,
                    ⟨some 35, none, .len true (.t 34)⟩,
                    ⟨some 36, none, .bin .lss (.t 33) (.t 35)⟩])
                  (.cond (.t 36)
                   .skip
                   (.exit 0)))
                 (.seq
                  (.block 1
                   (.seq
                    (.region [
                      ⟨some 39, none, .mv false (.t 0)⟩,
                      ⟨some 40, none, .mv false (.t 8)⟩,
                      ⟨some 41, none, .idx (.t 39) (.t 40)⟩,
                      ⟨some 42, none, .callF 44 [.t 6, .t 41] []⟩])
                    (.cond (.t 42)
                     (.seq
                      (.region [
                        ⟨some 43, none, .mv true (.t 8)⟩,
                        ⟨some 4, none, .mv true (.t 43)⟩])
                      .ret)
                     .skip)))
                  (.region [
                    ⟨some 37, none, .mv false (.t 8)⟩,
                    ⟨some 38, none, .bin .add (.t 37) (.c (.int .i64 1))⟩,
                    ⟨some 8, none, .mv true (.t 38)⟩]))))))
             (.seq
              (.region [
                ⟨some 4, none, .mv true (.c (.int .i64 (-1)))⟩])
              .ret))
            .skip)))
         .skip))
       (.seq
        (.seq
         (.region [
           ⟨some 44, none, .mv false (.t 0)⟩,
           ⟨some 45, none, .bad⟩])
         (.block 2
          (.loop
           (.seq
            (.region [
              ⟨some 46, none, .bad⟩,
              ⟨some 47, none, .ext false (.t 46) 0⟩])
            (.seq
             (.cond (.t 47)
              .skip
              (.exit 2))
             (.block 3
              (.seq
               (.region [
                 ⟨some 48, none, .ext false (.t 46) 1⟩,
                 ⟨some 49, none, .ext false (.t 46) 2⟩,
                 ⟨some 9, none, .mv true (.t 48)⟩,
                 ⟨some 10, none, .mv true (.t 49)⟩])
               (.seq
                (.region [
                  ⟨some 50, none, .mv false (.t 1)⟩,
                  ⟨some 51, none, .mv false (.t 10)⟩,
                  ⟨some 52, none, .callF 41 [.t 50, .t 51] []⟩,
                  ⟨some 53, none, .bin .geq (.t 52) (.c (.int .i64 0))⟩])
                (.cond (.t 53)
                 (.seq
                  (.region [
                    ⟨some 54, none, .mv true (.t 9)⟩,
                    ⟨some 4, none, .mv true (.t 54)⟩])
                  .ret)
                 .skip)))))))))
        (.seq
         (.region [
           ⟨some 4, none, .mv true (.c (.int .i64 (-1)))⟩])
         .ret)))))⟩
theorem t30 : compF Tryd.prog {} 30 = some p30 := by kernel_rfl
def p31 : PFn :=
  ⟨104, [.t 8], .seq
    (.region [
      ⟨some 8, none, .mv true (.c (.str []))⟩])
    (.seq
     (.seq
      (.region [
        ⟨some 16, none, .mv false (.t 1)⟩,
        ⟨some 17, none, .mv false (.t 2)⟩,
        ⟨some 18, none, .bin .eql (.t 16) (.t 17)⟩,
        ⟨some 19, none, .mv false (.t 18)⟩,
        ⟨some 20, some (19, false), .mv false (.t 3)⟩,
        ⟨some 21, some (19, false), .bin .eql (.t 20) (.c (.int .i64 0))⟩,
        ⟨some 22, none, .pick (.t 19) (.c (.bool true)) (.t 21)⟩])
      (.cond (.t 22)
       (.seq
        (.region [
          ⟨some 23, none, .mv true (.t 0)⟩,
          ⟨some 8, none, .mv true (.t 23)⟩])
        .ret)
       .skip))
     (.seq
      (.seq
       (.region [
         ⟨some 24, none, .mv false (.t 0)⟩,
         ⟨some 25, none, .mv false (.t 1)⟩,
         ⟨some 26, none, .callF 45 [.t 24, .t 25] []⟩,
         ⟨some 9, none, .mv true (.t 26)⟩])
       (.seq
        (.region [
          ⟨some 27, none, .mv false (.t 9)⟩,
          ⟨some 28, none, .bin .eql (.t 27) (.c (.int .i64 0))⟩])
        (.cond (.t 28)
         (.seq
          (.region [
            ⟨some 29, none, .mv true (.t 0)⟩,
            ⟨some 8, none, .mv true (.t 29)⟩])
          .ret)
         (.seq
          (.region [
            ⟨some 30, none, .mv false (.t 3)⟩,
            ⟨some 31, none, .bin .lss (.t 30) (.c (.int .i64 0))⟩,
            ⟨some 32, none, .mv false (.t 31)⟩,
            ⟨some 33, some (32, false), .mv false (.t 9)⟩,
            ⟨some 34, some (32, false), .mv false (.t 3)⟩,
            ⟨some 35, some (32, false), .bin .lss (.t 33) (.t 34)⟩,
            ⟨some 36, none, .pick (.t 32) (.c (.bool true)) (.t 35)⟩])
          (.cond (.t 36)
           (.region [
             ⟨some 37, none, .mv true (.t 9)⟩,
             ⟨some 3, none, .mv true (.t 37)⟩])
           .skip)))))
      (.seq
       (.region [
         ⟨some 10, none, .al [.ptr none, .lst 0 [] true]⟩])
       (.seq
        (.region [
          ⟨some 38, none, .mv false (.t 0)⟩,
          ⟨some 39, none, .len true (.t 38)⟩,
          ⟨some 40, none, .mv false (.t 3)⟩,
          ⟨some 41, none, .mv false (.t 2)⟩,
          ⟨some 42, none, .len true (.t 41)⟩,
          ⟨some 43, none, .mv false (.t 1)⟩,
          ⟨some 44, none, .len true (.t 43)⟩,
          ⟨some 45, none, .bin .sub (.t 42) (.t 44)⟩,
          ⟨some 46, none, .bin .mul (.t 40) (.t 45)⟩,
          ⟨some 47, none, .bin .add (.t 39) (.t 46)⟩,
          ⟨some 48, none, .callF 46 [.t 10, .t 47] []⟩])
        (.seq
         (.region [
           ⟨some 11, none, .mv true (.c (.int .i64 0))⟩])
         (.seq
          (.seq
           (.region [
             ⟨some 49, none, .mv false (.t 1)⟩,
             ⟨some 50, none, .len true (.t 49)⟩,
             ⟨some 51, none, .bin .gtr (.t 50) (.c (.int .i64 0))⟩])
           (.cond (.t 51)
            (.seq
             (.region [
               ⟨some 52, none, .mv false (.t 3)⟩,
               ⟨some 53, none, .mv false (.c (.int .i64 0))⟩])
             (.block 0
              (.loop
               (.seq
                (.region [
                  ⟨some 54, none, .bin .lss (.t 53) (.t 52)⟩])
                (.seq
                 (.cond (.t 54)
                  .skip
                  (.exit 0))
                 (.seq
                  (.block 1
                   (.seq
                    (.region [
                      ⟨some 55, none, .mv false (.t 11)⟩,
                      ⟨some 56, none, .mv false (.t 0)⟩,
                      ⟨some 57, none, .mv false (.t 11)⟩,
                      ⟨some 58, none, .sls (.t 56) (some (.t 57)) none⟩,
                      ⟨some 59, none, .mv false (.t 1)⟩,
                      ⟨some 60, none, .callF 47 [.t 58, .t 59] []⟩,
                      ⟨some 61, none, .bin .add (.t 55) (.t 60)⟩,
                      ⟨some 12, none, .mv true (.t 61)⟩])
                    (.seq
                     (.region [
                       ⟨some 62, none, .mv false (.t 0)⟩,
                       ⟨some 63, none, .mv false (.t 11)⟩,
                       ⟨some 64, none, .mv false (.t 12)⟩,
                       ⟨some 65, none, .sls (.t 62) (some (.t 63)) (some (.t 64))⟩,
                       ⟨some 66, none, .callF 48 [.t 10, .t 65] []⟩])
                     (.seq
                      (.region [
                        ⟨some 67, none, .mv false (.t 2)⟩,
                        ⟨some 68, none, .callF 48 [.t 10, .t 67] []⟩])
                      (.region [
                        ⟨some 69, none, .mv false (.t 12)⟩,
                        ⟨some 70, none, .mv false (.t 1)⟩,
                        ⟨some 71, none, .len true (.t 70)⟩,
                        ⟨some 72, none, .bin .add (.t 69) (.t 71)⟩,
                        ⟨some 11, none, .mv true (.t 72)⟩])))))
                  (.region [
                    ⟨some 73, none, .bin .add (.t 53) (.c (.int .i64 1))⟩,
                    ⟨some 53, none, .mv false (.t 73)⟩])))))))
            (.seq
             (.region [
               ⟨some 74, none, .mv false (.t 2)⟩,
               ⟨some 75, none, .callF 48 [.t 10, .t 74] []⟩])
             (.seq
              (.region [
                ⟨some 76, none, .mv false (.t 3)⟩,
                ⟨some 77, none, .bin .sub (.t 76) (.c (.int .i64 1))⟩,
                ⟨some 78, none, .mv false (.c (.int .i64 0))⟩])
              (.block 2
               (.loop
                (.seq
                 (.region [
                   ⟨some 79, none, .bin .lss (.t 78) (.t 77)⟩])
                 (.seq
                  (.cond (.t 79)
                   .skip
                   (.exit 2))
                  (.seq
                   (.block 3
                    (.seq
                     (.region [
                       ⟨some 81, none, .mv false (.t 0)⟩,
                       ⟨some 82, none, .mv false (.t 11)⟩,
                       ⟨some 83, none, .sls (.t 81) (some (.t 82)) none⟩,
                       ⟨some 84, none, .callF 49 [.t 83] []⟩,
                       ⟨some 80, none, .mv true (.t 84)⟩,
                       ⟨some 85, none, .ext false (.t 80) 0⟩,
                       ⟨some 86, none, .ext false (.t 80) 1⟩,
                       ⟨some 13, none, .mv true (.t 85)⟩,
                       ⟨some 14, none, .mv true (.t 86)⟩])
                     (.seq
                      (.region [
                        ⟨some 87, none, .mv false (.t 11)⟩,
                        ⟨some 88, none, .mv false (.t 14)⟩,
                        ⟨some 89, none, .bin .add (.t 87) (.t 88)⟩,
                        ⟨some 15, none, .mv true (.t 89)⟩])
                      (.seq
                       (.region [
                         ⟨some 90, none, .mv false (.t 0)⟩,
                         ⟨some 91, none, .mv false (.t 11)⟩,
                         ⟨some 92, none, .mv false (.t 15)⟩,
                         ⟨some 93, none, .sls (.t 90) (some (.t 91)) (some (.t 92))⟩,
                         ⟨some 94, none, .callF 48 [.t 10, .t 93] []⟩])
                       (.seq
                        (.region [
                          ⟨some 95, none, .mv false (.t 2)⟩,
                          ⟨some 96, none, .callF 48 [.t 10, .t 95] []⟩])
                        (.region [
                          ⟨some 97, none, .mv true (.t 15)⟩,
                          ⟨some 11, none, .mv true (.t 97)⟩]))))))
                   (.region [
                     ⟨some 98, none, .bin .add (.t 78) (.c (.int .i64 1))⟩,
                     ⟨some 78, none, .mv false (.t 98)⟩]))))))))))
          (.seq
           (.region [
             ⟨some 99, none, .mv false (.t 0)⟩,
             ⟨some 100, none, .mv false (.t 11)⟩,
             ⟨some 101, none, .sls (.t 99) (some (.t 100)) none⟩,
             ⟨some 102, none, .callF 48 [.t 10, .t 101] []⟩])
           (.seq
            (.region [
              ⟨some 103, none, .callF 50 [.t 10] []⟩,
              ⟨some 8, none, .mv true (.t 103)⟩])
            .ret))))))))⟩
theorem t31 : compF Tryd.prog {} 31 = some p31 := by kernel_rfl
def p32 : PFn :=
  ⟨12, [.t 4], .seq
    (.region [
      ⟨some 4, none, .mv true (.c .nilf)⟩])
    (.seq
     (.seq
      (.region [
        ⟨some 5, none, .mv false (.t 1)⟩,
        ⟨some 6, none, .bin .eql (.t 5) (.c (.int .u8 34))⟩])
      (.cond (.t 6)
       (.seq
        (.region [
          ⟨some 7, none, .mv false (.t 0)⟩,
          ⟨some 8, none, .mkf (.func 51) [.t 7] []⟩,
          ⟨some 4, none, .mv true (.t 8)⟩])
        .ret)
       .skip))
     (.seq
      (.region [
        ⟨some 9, none, .mv false (.t 0)⟩,
        ⟨some 10, none, .mv false (.t 1)⟩,
        ⟨some 11, none, .callF 52 [.t 9, .t 10] []⟩,
        ⟨some 4, none, .mv true (.t 11)⟩])
      .ret))⟩
theorem t32 : compF Tryd.prog {} 32 = some p32 := by kernel_rfl
def p33 : PFn :=
  ⟨11, [.t 6], .seq
    (.region [
      ⟨some 6, none, .mv true (.c (.bool false))⟩])
    (.seq
     (.region [
       ⟨some 7, none, .mv false (.t 2)⟩,
       ⟨some 8, none, .mv false (.t 1)⟩,
       ⟨some 9, none, .bin .eql (.t 8) (.c (.int .u8 34))⟩,
       ⟨some 10, none, .binB true (.t 7) (.t 9)⟩,
       ⟨some 6, none, .mv true (.t 10)⟩])
     .ret)⟩
theorem t33 : compF Tryd.prog {} 33 = some p33 := by kernel_rfl
def p34 : PFn :=
  ⟨19, [], .draw [
     ⟨some 2, none, .mv false (.t 0)⟩,
     ⟨some 3, none, .mv false (.t 0)⟩,
     ⟨some 4, none, .mv false (.t 0)⟩,
     ⟨some 5, none, .nck (.t 4)⟩,
     ⟨some 6, none, .fad 0 (.t 5)⟩,
     ⟨some 7, none, .ld 1 false false (.t 6)⟩,
     ⟨some 8, none, .mv false (.t 0)⟩,
     ⟨some 9, none, .nck (.t 8)⟩,
     ⟨some 10, none, .fad 1 (.t 9)⟩,
     ⟨some 11, none, .ld 1 false false (.t 10)⟩,
     ⟨some 12, none, .cvS (.t 11)⟩,
     ⟨some 13, none, .bsl 1 1 false [.str []] [(0, .t 12)] false⟩,
     ⟨some 14, none, .app 1 16 (.t 7) (.t 13)⟩,
     ⟨some 15, none, .nck (.t 2)⟩,
     ⟨some 16, none, .fad 0 (.t 15)⟩,
     ⟨none, none, .sto 1 (.t 16) (.t 14)⟩,
     ⟨some 17, none, .nck (.t 3)⟩,
     ⟨some 18, none, .fad 1 (.t 17)⟩,
     ⟨none, none, .sto 1 (.t 18) (.c (.lst 0 [] true))⟩] []⟩
theorem t34 : compF Tryd.prog {} 34 = some p34 := by kernel_rfl
def p35 : PFn :=
  ⟨70, [.t 4, .t 5, .t 6], .seq
    (.region [
      ⟨some 4, none, .mv true (.c (.str []))⟩,
      ⟨some 5, none, .mv true (.c (.int .i64 0))⟩,
      ⟨some 6, none, .mv true (.c (.int .i64 0))⟩])
    (.seq
     (.region [
       ⟨some 8, none, .bsl 1 0 false [] [] false⟩,
       ⟨some 7, none, .mv true (.t 8)⟩])
     (.seq
      (.block 0
       (.loop
        (.seq
         (.seq
          (.region [
            ⟨some 9, none, .mv false (.t 1)⟩,
            ⟨some 10, none, .mv false (.t 0)⟩,
            ⟨some 11, none, .len false (.t 10)⟩,
            ⟨some 12, none, .bin .lss (.t 9) (.t 11)⟩])
          (.cond (.t 12)
           .skip
           (.exit 0)))
         (.block 1
          (.seq
           (.seq
            (.region [
              ⟨some 13, none, .mv false (.t 0)⟩,
              ⟨some 14, none, .mv false (.t 1)⟩,
              ⟨some 15, none, .iad 1 (.t 13) (.t 14)⟩,
              ⟨some 16, none, .ld 1 false false (.t 15)⟩,
              ⟨some 17, none, .bin .neq (.t 16) (.c (.int .u8 34))⟩])
            (.cond (.t 17)
             (.seq
              (.region [
                ⟨some 18, none, .mv true (.t 7)⟩,
                ⟨some 19, none, .mv false (.t 0)⟩,
                ⟨some 20, none, .mv false (.t 1)⟩,
                ⟨some 21, none, .iad 1 (.t 19) (.t 20)⟩,
                ⟨some 22, none, .ld 1 false false (.t 21)⟩,
                ⟨some 23, none, .bsl 1 1 false [.int .u8 0] [(0, .t 22)] false⟩,
                ⟨some 24, none, .app 1 1 (.t 18) (.t 23)⟩,
                ⟨some 7, none, .mv true (.t 24)⟩])
              (.region [
                ⟨some 25, none, .mv false (.t 1)⟩,
                ⟨some 26, none, .bin .add (.t 25) (.c (.int .i64 1))⟩,
                ⟨some 1, none, .mv true (.t 26)⟩]))
             (.seq
              (.region [
                ⟨some 27, none, .mv false (.t 1)⟩,
                ⟨some 28, none, .bin .add (.t 27) (.c (.int .i64 1))⟩,
                ⟨some 29, none, .mv false (.t 0)⟩,
                ⟨some 30, none, .len false (.t 29)⟩,
                ⟨some 31, none, .bin .lss (.t 28) (.t 30)⟩,
                ⟨some 32, none, .mv false (.t 31)⟩,
                ⟨some 33, some (32, true), .mv false (.t 0)⟩,
                ⟨some 34, some (32, true), .mv false (.t 1)⟩,
                ⟨some 35, some (32, true), .bin .add (.t 34) (.c (.int .i64 1))⟩,
                ⟨some 36, some (32, true), .iad 1 (.t 33) (.t 35)⟩,
                ⟨some 37, some (32, true), .ld 1 false false (.t 36)⟩,
                ⟨some 38, some (32, true), .bin .eql (.t 37) (.c (.int .u8 34))⟩,
                ⟨some 39, none, .pick (.t 32) (.t 38) (.c (.bool false))⟩])
              (.cond (.t 39)
               (.seq
                (.region [
                  ⟨some 40, none, .mv true (.t 7)⟩,
                  ⟨some 41, none, .bsl 1 1 false [.int .u8 0] [(0, .c (.int .u8 34))] false⟩,
                  ⟨some 42, none, .app 1 1 (.t 40) (.t 41)⟩,
                  ⟨some 7, none, .mv true (.t 42)⟩])
                (.region [
                  ⟨some 43, none, .mv false (.t 1)⟩,
                  ⟨some 44, none, .bin .add (.t 43) (.c (.int .i64 2))⟩,
                  ⟨some 1, none, .mv true (.t 44)⟩]))
               (.seq
                (.region [
                  ⟨some 45, none, .mv false (.t 1)⟩,
                  ⟨some 46, none, .bin .add (.t 45) (.c (.int .i64 1))⟩,
                  ⟨some 1, none, .mv true (.t 46)⟩])
                (.seq
                 (.seq
                  (.region [
                    ⟨some 47, none, .mv false (.t 1)⟩,
                    ⟨some 48, none, .mv false (.t 0)⟩,
                    ⟨some 49, none, .len false (.t 48)⟩,
                    ⟨some 50, none, .bin .lss (.t 47) (.t 49)⟩,
                    ⟨some 51, none, .mv false (.t 50)⟩,
                    ⟨some 52, some (51, true), .mv false (.t 0)⟩,
                    ⟨some 53, some (51, true), .mv false (.t 1)⟩,
                    ⟨some 54, some (51, true), .iad 1 (.t 52) (.t 53)⟩,
                    ⟨some 55, some (51, true), .ld 1 false false (.t 54)⟩,
                    ⟨some 56, some (51, true), .bin .neq (.t 55) (.c (.int .u8 44))⟩,
                    ⟨some 57, none, .pick (.t 51) (.t 56) (.c (.bool false))⟩,
                    ⟨some 58, none, .mv false (.t 57)⟩,
                    ⟨some 59, some (58, true), .mv false (.t 0)⟩,
                    ⟨some 60, some (58, true), .mv false (.t 1)⟩,
                    ⟨some 61, some (58, true), .callF 37 [.t 59, .t 60] []⟩,
                    ⟨some 62, some (58, true), .bin .eql (.t 61) (.c (.int .i64 0))⟩,
                    ⟨some 63, none, .pick (.t 58) (.t 62) (.c (.bool false))⟩])
                  (.cond (.t 63)
                   (.seq
                    (.region [
                      ⟨some 4, none, .mv true (.c (.str []))⟩,
                      ⟨some 5, none, .mv true (.c (.int .i64 0))⟩,
                      ⟨some 6, none, .mv true (.c (.int .i64 3))⟩])
                    .ret)
                   .skip))
                 (.seq
                  (.region [
                    ⟨some 64, none, .mv false (.t 7)⟩,
                    ⟨some 65, none, .cvS (.t 64)⟩,
                    ⟨some 66, none, .mv true (.t 1)⟩,
                    ⟨some 4, none, .mv true (.t 65)⟩,
                    ⟨some 5, none, .mv true (.t 66)⟩,
                    ⟨some 6, none, .mv true (.c (.int .i64 0))⟩])
                  .ret)))))))
           (.seq
            (.region [
              ⟨some 67, none, .mv false (.t 7)⟩,
              ⟨some 68, none, .len false (.t 67)⟩,
              ⟨some 69, none, .bin .gtr (.t 68) (.c (.int .i64 1000))⟩])
            (.cond (.t 69)
             (.seq
              (.region [
                ⟨some 4, none, .mv true (.c (.str []))⟩,
                ⟨some 5, none, .mv true (.c (.int .i64 0))⟩,
                ⟨some 6, none, .mv true (.c (.int .i64 5))⟩])
              .ret)
             .skip)))))))
      (.seq
       (.region [
         ⟨some 4, none, .mv true (.c (.str []))⟩,
         ⟨some 5, none, .mv true (.c (.int .i64 0))⟩,
         ⟨some 6, none, .mv true (.c (.int .i64 3))⟩])
       .ret)))⟩
theorem t35 : compF Tryd.prog {} 35 = some p35 := by kernel_rfl
def p36 : PFn :=
  ⟨50, [.t 4, .t 5, .t 6], .seq
    (.region [
      ⟨some 4, none, .mv true (.c (.str []))⟩,
      ⟨some 5, none, .mv true (.c (.int .i64 0))⟩,
      ⟨some 6, none, .mv true (.c (.int .i64 0))⟩])
    (.seq
     (.region [
       ⟨some 8, none, .mv true (.t 1)⟩,
       ⟨some 7, none, .mv true (.t 8)⟩])
     (.seq
      (.block 0
       (.loop
        (.seq
         (.seq
          (.region [
            ⟨some 9, none, .mv false (.t 1)⟩,
            ⟨some 10, none, .mv false (.t 0)⟩,
            ⟨some 11, none, .len false (.t 10)⟩,
            ⟨some 12, none, .bin .lss (.t 9) (.t 11)⟩,
            ⟨some 13, none, .mv false (.t 12)⟩,
            ⟨some 14, some (13, true), .mv false (.t 0)⟩,
            ⟨some 15, some (13, true), .mv false (.t 1)⟩,
            ⟨some 16, some (13, true), .iad 1 (.t 14) (.t 15)⟩,
            ⟨some 17, some (13, true), .ld 1 false false (.t 16)⟩,
            ⟨some 18, some (13, true), .bin .neq (.t 17) (.c (.int .u8 44))⟩,
            ⟨some 19, none, .pick (.t 13) (.t 18) (.c (.bool false))⟩,
            ⟨some 20, none, .mv false (.t 19)⟩,
            ⟨some 21, some (20, true), .mv false (.t 0)⟩,
            ⟨some 22, some (20, true), .mv false (.t 1)⟩,
            ⟨some 23, some (20, true), .callF 37 [.t 21, .t 22] []⟩,
            ⟨some 24, some (20, true), .bin .eql (.t 23) (.c (.int .i64 0))⟩,
            ⟨some 25, none, .pick (.t 20) (.t 24) (.c (.bool false))⟩])
          (.cond (.t 25)
           .skip
           (.exit 0)))
         (.block 1
          (.seq
           (.seq
            (.region [
              ⟨some 26, none, .mv false (.t 0)⟩,
              ⟨some 27, none, .mv false (.t 1)⟩,
              ⟨some 28, none, .iad 1 (.t 26) (.t 27)⟩,
              ⟨some 29, none, .ld 1 false false (.t 28)⟩,
              ⟨some 30, none, .bin .eql (.t 29) (.c (.int .u8 34))⟩,
              ⟨some 31, none, .mv false (.t 30)⟩,
              ⟨some 32, some (31, false), .mv false (.t 0)⟩,
              ⟨some 33, some (31, false), .mv false (.t 1)⟩,
              ⟨some 34, some (31, false), .iad 1 (.t 32) (.t 33)⟩,
              ⟨some 35, some (31, false), .ld 1 false false (.t 34)⟩,
              ⟨some 36, some (31, false), .bin .eql (.t 35) (.c (.int .u8 13))⟩,
              ⟨some 37, none, .pick (.t 31) (.c (.bool true)) (.t 36)⟩])
            (.cond (.t 37)
             (.seq
              (.region [
                ⟨some 4, none, .mv true (.c (.str []))⟩,
                ⟨some 5, none, .mv true (.c (.int .i64 0))⟩,
                ⟨some 6, none, .mv true (.c (.int .i64 3))⟩])
              .ret)
             .skip))
           (.seq
            (.region [
              ⟨some 38, none, .mv false (.t 1)⟩,
              ⟨some 39, none, .bin .add (.t 38) (.c (.int .i64 1))⟩,
              ⟨some 1, none, .mv true (.t 39)⟩])
            (.seq
             (.region [
               ⟨some 40, none, .mv false (.t 1)⟩,
               ⟨some 41, none, .mv false (.t 7)⟩,
               ⟨some 42, none, .bin .sub (.t 40) (.t 41)⟩,
               ⟨some 43, none, .bin .gtr (.t 42) (.c (.int .i64 1000))⟩])
             (.cond (.t 43)
              (.seq
               (.region [
                 ⟨some 4, none, .mv true (.c (.str []))⟩,
                 ⟨some 5, none, .mv true (.c (.int .i64 0))⟩,
                 ⟨some 6, none, .mv true (.c (.int .i64 5))⟩])
               .ret)
              .skip))))))))
      (.seq
       (.region [
         ⟨some 44, none, .mv false (.t 0)⟩,
         ⟨some 45, none, .mv false (.t 7)⟩,
         ⟨some 46, none, .mv false (.t 1)⟩,
         ⟨some 47, none, .sli 1 (.t 44) (some (.t 45)) (some (.t 46)) none⟩,
         ⟨some 48, none, .cvS (.t 47)⟩,
         ⟨some 49, none, .mv true (.t 1)⟩,
         ⟨some 4, none, .mv true (.t 48)⟩,
         ⟨some 5, none, .mv true (.t 49)⟩,
         ⟨some 6, none, .mv true (.c (.int .i64 0))⟩])
       .ret)))⟩
theorem t36 : compF Tryd.prog {} 36 = some p36 := by kernel_rfl
def p37 : PFn :=
  ⟨36, [.t 4], .seq
    (.region [
      ⟨some 4, none, .mv true (.c (.int .i64 0))⟩])
    (.seq
     (.seq
      (.region [
        ⟨some 5, none, .mv false (.t 1)⟩,
        ⟨some 6, none, .mv false (.t 0)⟩,
        ⟨some 7, none, .len false (.t 6)⟩,
        ⟨some 8, none, .bin .lss (.t 5) (.t 7)⟩,
        ⟨some 9, none, .mv false (.t 8)⟩,
        ⟨some 10, some (9, true), .mv false (.t 0)⟩,
        ⟨some 11, some (9, true), .mv false (.t 1)⟩,
        ⟨some 12, some (9, true), .iad 1 (.t 10) (.t 11)⟩,
        ⟨some 13, some (9, true), .ld 1 false false (.t 12)⟩,
        ⟨some 14, some (9, true), .bin .eql (.t 13) (.c (.int .u8 10))⟩,
        ⟨some 15, none, .pick (.t 9) (.t 14) (.c (.bool false))⟩])
      (.cond (.t 15)
       (.seq
        (.region [
          ⟨some 4, none, .mv true (.c (.int .i64 1))⟩])
        .ret)
       .skip))
     (.seq
      (.seq
       (.region [
         ⟨some 16, none, .mv false (.t 1)⟩,
         ⟨some 17, none, .bin .add (.t 16) (.c (.int .i64 1))⟩,
         ⟨some 18, none, .mv false (.t 0)⟩,
         ⟨some 19, none, .len false (.t 18)⟩,
         ⟨some 20, none, .bin .lss (.t 17) (.t 19)⟩,
         ⟨some 21, none, .mv false (.t 20)⟩,
         ⟨some 22, some (21, true), .mv false (.t 0)⟩,
         ⟨some 23, some (21, true), .mv false (.t 1)⟩,
         ⟨some 24, some (21, true), .iad 1 (.t 22) (.t 23)⟩,
         ⟨some 25, some (21, true), .ld 1 false false (.t 24)⟩,
         ⟨some 26, some (21, true), .bin .eql (.t 25) (.c (.int .u8 13))⟩,
         ⟨some 27, none, .pick (.t 21) (.t 26) (.c (.bool false))⟩,
         ⟨some 28, none, .mv false (.t 27)⟩,
         ⟨some 29, some (28, true), .mv false (.t 0)⟩,
         ⟨some 30, some (28, true), .mv false (.t 1)⟩,
         ⟨some 31, some (28, true), .bin .add (.t 30) (.c (.int .i64 1))⟩,
         ⟨some 32, some (28, true), .iad 1 (.t 29) (.t 31)⟩,
         ⟨some 33, some (28, true), .ld 1 false false (.t 32)⟩,
         ⟨some 34, some (28, true), .bin .eql (.t 33) (.c (.int .u8 10))⟩,
         ⟨some 35, none, .pick (.t 28) (.t 34) (.c (.bool false))⟩])
       (.cond (.t 35)
        (.seq
         (.region [
           ⟨some 4, none, .mv true (.c (.int .i64 2))⟩])
         .ret)
        .skip))
      (.seq
       (.region [
         ⟨some 4, none, .mv true (.c (.int .i64 0))⟩])
       .ret)))⟩
theorem t37 : compF Tryd.prog {} 37 = some p37 := by kernel_rfl
def p38 : PFn :=
  ⟨27, [.t 2], .seq
    (.region [
      ⟨some 2, none, .mv true (.c (.int .i64 0))⟩])
    (.seq
     (.region [
       ⟨some 6, none, .mv false (.t 0)⟩,
       ⟨some 7, none, .len false (.t 6)⟩,
       ⟨some 3, none, .mv true (.t 7)⟩])
     (.seq
      (.region [
        ⟨some 4, none, .mv true (.c (.int .i64 0))⟩])
      (.seq
       (.block 0
        (.loop
         (.seq
          (.seq
           (.region [
             ⟨some 8, none, .mv false (.t 4)⟩,
             ⟨some 9, none, .mv false (.t 3)⟩,
             ⟨some 10, none, .bin .lss (.t 8) (.t 9)⟩])
           (.cond (.t 10)
            .skip
            (.exit 0)))
          (.seq
           (.block 1
            (.seq
             (.region [
               ⟨some 13, none, .mv false (.t 0)⟩,
               ⟨some 14, none, .mv false (.t 4)⟩,
               ⟨some 15, none, .iad 1 (.t 13) (.t 14)⟩,
               ⟨some 16, none, .ld 1 false false (.t 15)⟩,
               ⟨some 5, none, .mv true (.t 16)⟩])
             (.seq
              (.region [
                ⟨some 17, none, .mv false (.t 5)⟩,
                ⟨some 18, none, .bin .geq (.t 17) (.c (.int .u8 128))⟩])
              (.cond (.t 18)
               (.seq
                (.region [
                  ⟨some 19, none, .mv false (.t 4)⟩,
                  ⟨some 20, none, .mv false (.t 0)⟩,
                  ⟨some 21, none, .mv false (.t 4)⟩,
                  ⟨some 22, none, .sli 1 (.t 20) (some (.t 21)) none none⟩,
                  ⟨some 23, none, .cvS (.t 22)⟩,
                  ⟨some 24, none, .callF 53 [.t 23] []⟩,
                  ⟨some 25, none, .bin .add (.t 19) (.t 24)⟩,
                  ⟨some 2, none, .mv true (.t 25)⟩])
                .ret)
               .skip))))
           (.region [
             ⟨some 11, none, .mv false (.t 4)⟩,
             ⟨some 12, none, .bin .add (.t 11) (.c (.int .i64 1))⟩,
             ⟨some 4, none, .mv true (.t 12)⟩])))))
       (.seq
        (.region [
          ⟨some 26, none, .mv true (.t 4)⟩,
          ⟨some 2, none, .mv true (.t 26)⟩])
        .ret))))⟩
theorem t38 : compF Tryd.prog {} 38 = some p38 := by kernel_rfl
def p40 : PFn :=
  ⟨200, [.t 4], .seq
    (.region [
      ⟨some 4, none, .mv true (.c (.int .i64 0))⟩])
    (.seq
     (.region [
       ⟨some 20, none, .mv false (.t 1)⟩,
       ⟨some 21, none, .len false (.t 20)⟩,
       ⟨some 5, none, .mv true (.t 21)⟩])
     (.seq
      (.block 0
       (.seq
        (.region [
          ⟨some 23, none, .mv false (.t 5)⟩,
          ⟨some 24, none, .bin .eql (.t 23) (.c (.int .i64 0))⟩,
          ⟨some 22, none, .mv true (.t 24)⟩])
        (.cond (.t 22)
         (.seq
          (.region [
            ⟨some 4, none, .mv true (.c (.int .i64 0))⟩])
          .ret)
         (.seq
          (.region [
            ⟨some 26, none, .mv false (.t 5)⟩,
            ⟨some 27, none, .bin .eql (.t 26) (.c (.int .i64 1))⟩,
            ⟨some 25, none, .mv true (.t 27)⟩])
          (.cond (.t 25)
           (.seq
            (.region [
              ⟨some 28, none, .mv false (.t 0)⟩,
              ⟨some 29, none, .mv false (.t 1)⟩,
              ⟨some 30, none, .iad 1 (.t 29) (.c (.int .i64 0))⟩,
              ⟨some 31, none, .ld 1 false false (.t 30)⟩,
              ⟨some 32, none, .callF 54 [.t 28, .t 31] []⟩,
              ⟨some 4, none, .mv true (.t 32)⟩])
            .ret)
           (.seq
            (.region [
              ⟨some 34, none, .mv false (.t 5)⟩,
              ⟨some 35, none, .mv false (.t 0)⟩,
              ⟨some 36, none, .len false (.t 35)⟩,
              ⟨some 37, none, .bin .eql (.t 34) (.t 36)⟩,
              ⟨some 33, none, .mv true (.t 37)⟩])
            (.cond (.t 33)
             (.seq
              (.seq
               (.region [
                 ⟨some 38, none, .mv false (.t 1)⟩,
                 ⟨some 39, none, .mv false (.t 0)⟩,
                 ⟨some 40, none, .callF 27 [.t 38, .t 39] []⟩])
               (.cond (.t 40)
                (.seq
                 (.region [
                   ⟨some 4, none, .mv true (.c (.int .i64 0))⟩])
                 .ret)
                .skip))
              (.seq
               (.region [
                 ⟨some 4, none, .mv true (.c (.int .i64 (-1)))⟩])
               .ret))
             (.seq
              (.region [
                ⟨some 42, none, .mv false (.t 5)⟩,
                ⟨some 43, none, .mv false (.t 0)⟩,
                ⟨some 44, none, .len false (.t 43)⟩,
                ⟨some 45, none, .bin .gtr (.t 42) (.t 44)⟩,
                ⟨some 41, none, .mv true (.t 45)⟩])
              (.cond (.t 41)
               (.seq
                (.region [
                  ⟨some 4, none, .mv true (.c (.int .i64 (-1)))⟩])
                .ret)
               (.seq
                (.region [
                  ⟨some 47, none, .mv false (.t 5)⟩,
                  ⟨some 48, none, .bad⟩,
                  ⟨some 49, none, .bin .leq (.t 47) (.t 48)⟩,
                  ⟨some 46, none, .mv true (.t 49)⟩])
                (.cond (.t 46)
                 (.seq
                  (.seq
                   (.region [
                     ⟨some 50, none, .mv false (.t 0)⟩,
                     ⟨some 51, none, .len false (.t 50)⟩,
                     ⟨some 52, none, .bin .leq (.t 51) (.c (.int .i64 64))⟩])
                   (.cond (.t 52)
                    (.seq
                     (.region [
                       ⟨some 53, none, .mv false (.t 0)⟩,
                       ⟨some 54, none, .mv false (.t 1)⟩,
                       ⟨some 55, none, .callF 55 [.t 53, .t 54] []⟩,
                       ⟨some 4, none, .mv true (.t 55)⟩])
                     .ret)
                    .skip))
                  (.seq
                   (.region [
                     ⟨some 56, none, .mv false (.t 1)⟩,
                     ⟨some 57, none, .iad 1 (.t 56) (.c (.int .i64 0))⟩,
                     ⟨some 58, none, .ld 1 false false (.t 57)⟩,
                     ⟨some 6, none, .mv true (.t 58)⟩])
                   (.seq
                    (.region [
                      ⟨some 59, none, .mv false (.t 1)⟩,
                      ⟨some 60, none, .iad 1 (.t 59) (.c (.int .i64 1))⟩,
                      ⟨some 61, none, .ld 1 false false (.t 60)⟩,
                      ⟨some 7, none, .mv true (.t 61)⟩])
                    (.seq
                     (.region [
                       ⟨some 8, none, .mv true (.c (.int .i64 0))⟩])
                     (.seq
                      (.region [
                        ⟨some 62, none, .mv false (.t 0)⟩,
                        ⟨some 63, none, .len false (.t 62)⟩,
                        ⟨some 64, none, .mv false (.t 5)⟩,
                        ⟨some 65, none, .bin .sub (.t 63) (.t 64)⟩,
                        ⟨some 66, none, .bin .add (.t 65) (.c (.int .i64 1))⟩,
                        ⟨some 9, none, .mv true (.t 66)⟩])
                      (.seq
                       (.region [
                         ⟨some 10, none, .mv true (.c (.int .i64 0))⟩])
                       (.seq
                        (.block 1
                         (.loop
                          (.seq
                           (.seq
                            (.region [
                              ⟨some 67, none, .mv false (.t 8)⟩,
                              ⟨some 68, none, .mv false (.t 9)⟩,
                              ⟨some 69, none, .bin .lss (.t 67) (.t 68)⟩])
                            (.cond (.t 69)
                             .skip
                             (.exit 1)))
                           (.block 2
                            (.seq
                             (.seq
                              (.region [
                                ⟨some 70, none, .mv false (.t 0)⟩,
                                ⟨some 71, none, .mv false (.t 8)⟩,
                                ⟨some 72, none, .iad 1 (.t 70) (.t 71)⟩,
                                ⟨some 73, none, .ld 1 false false (.t 72)⟩,
                                ⟨some 74, none, .mv false (.t 6)⟩,
                                ⟨some 75, none, .bin .neq (.t 73) (.t 74)⟩])
                              (.cond (.t 75)
                               (.seq
                                (.region [
                                  ⟨some 76, none, .mv false (.t 0)⟩,
                                  ⟨some 77, none, .mv false (.t 8)⟩,
                                  ⟨some 78, none, .bin .add (.t 77) (.c (.int .i64 1))⟩,
                                  ⟨some 79, none, .mv false (.t 9)⟩,
                                  ⟨some 80, none, .sli 1 (.t 76) (some (.t 78)) (some (.t 79)) none⟩,
                                  ⟨some 81, none, .mv false (.t 6)⟩,
                                  ⟨some 82, none, .callF 54 [.t 80, .t 81] []⟩,
                                  ⟨some 11, none, .mv true (.t 82)⟩])
                                (.seq
                                 (.seq
                                  (.region [
                                    ⟨some 83, none, .mv false (.t 11)⟩,
                                    ⟨some 84, none, .bin .lss (.t 83) (.c (.int .i64 0))⟩])
                                  (.cond (.t 84)
                                   (.seq
                                    (.region [
                                      ⟨some 4, none, .mv true (.c (.int .i64 (-1)))⟩])
                                    .ret)
                                   .skip))
                                 (.region [
                                   ⟨some 85, none, .mv false (.t 8)⟩,
                                   ⟨some 86, none, .mv false (.t 11)⟩,
                                   ⟨some 87, none, .bin .add (.t 86) (.c (.int .i64 1))⟩,
                                   ⟨some 88, none, .bin .add (.t 85) (.t 87)⟩,
                                   ⟨some 8, none, .mv true (.t 88)⟩])))
                               .skip))
                             (.seq
                              (.seq
                               (.region [
                                 ⟨some 89, none, .mv false (.t 0)⟩,
                                 ⟨some 90, none, .mv false (.t 8)⟩,
                                 ⟨some 91, none, .bin .add (.t 90) (.c (.int .i64 1))⟩,
                                 ⟨some 92, none, .iad 1 (.t 89) (.t 91)⟩,
                                 ⟨some 93, none, .ld 1 false false (.t 92)⟩,
                                 ⟨some 94, none, .mv false (.t 7)⟩,
                                 ⟨some 95, none, .bin .eql (.t 93) (.t 94)⟩,
                                 ⟨some 96, none, .mv false (.t 95)⟩,
                                 ⟨some 97, some (96, true), .mv false (.t 0)⟩,
                                 ⟨some 98, some (96, true), .mv false (.t 8)⟩,
                                 ⟨some 99, some (96, true), .mv false (.t 8)⟩,
                                 ⟨some 100, some (96, true), .mv false (.t 5)⟩,
                                 ⟨some 101, some (96, true), .bin .add (.t 99) (.t 100)⟩,
                                 ⟨some 102, some (96, true), .sli 1 (.t 97) (some (.t 98)) (some (.t 101)) none⟩,
                                 ⟨some 103, some (96, true), .mv false (.t 1)⟩,
                                 ⟨some 104, some (96, true), .callF 27 [.t 102, .t 103] []⟩,
                                 ⟨some 105, none, .pick (.t 96) (.t 104) (.c (.bool false))⟩])
                               (.cond (.t 105)
                                (.seq
                                 (.region [
                                   ⟨some 106, none, .mv true (.t 8)⟩,
                                   ⟨some 4, none, .mv true (.t 106)⟩])
                                 .ret)
                                .skip))
                              (.seq
                               (.region [
                                 ⟨some 107, none, .mv false (.t 10)⟩,
                                 ⟨some 108, none, .bin .add (.t 107) (.c (.int .i64 1))⟩,
                                 ⟨some 10, none, .mv true (.t 108)⟩])
                               (.seq
                                (.region [
                                  ⟨some 109, none, .mv false (.t 8)⟩,
                                  ⟨some 110, none, .bin .add (.t 109) (.c (.int .i64 1))⟩,
                                  ⟨some 8, none, .mv true (.t 110)⟩])
                                (.seq
                                 (.region [
                                   ⟨some 111, none, .mv false (.t 10)⟩,
                                   ⟨some 112, none, .mv false (.t 8)⟩,
                                   ⟨some 113, none, .callF 56 [.t 112] []⟩,
                                   ⟨some 114, none, .bin .gtr (.t 111) (.t 113)⟩])
                                 (.cond (.t 114)
                                  (.seq
                                   (.region [
                                     ⟨some 115, none, .mv false (.t 0)⟩,
                                     ⟨some 116, none, .mv false (.t 8)⟩,
                                     ⟨some 117, none, .sli 1 (.t 115) (some (.t 116)) none none⟩,
                                     ⟨some 118, none, .mv false (.t 1)⟩,
                                     ⟨some 119, none, .callF 55 [.t 117, .t 118] []⟩,
                                     ⟨some 12, none, .mv true (.t 119)⟩])
                                   (.seq
                                    (.seq
                                     (.region [
                                       ⟨some 120, none, .mv false (.t 12)⟩,
                                       ⟨some 121, none, .bin .geq (.t 120) (.c (.int .i64 0))⟩])
                                     (.cond (.t 121)
                                      (.seq
                                       (.region [
                                         ⟨some 122, none, .mv false (.t 12)⟩,
                                         ⟨some 123, none, .mv false (.t 8)⟩,
                                         ⟨some 124, none, .bin .add (.t 122) (.t 123)⟩,
                                         ⟨some 4, none, .mv true (.t 124)⟩])
                                       .ret)
                                      .skip))
                                    (.seq
                                     (.region [
                                       ⟨some 4, none, .mv true (.c (.int .i64 (-1)))⟩])
                                     .ret)))
                                  .skip))))))))))
                        (.seq
                         (.region [
                           ⟨some 4, none, .mv true (.c (.int .i64 (-1)))⟩])
                         .ret))))))))
                 .skip)))))))))))
      (.seq
       (.region [
         ⟨some 125, none, .mv false (.t 1)⟩,
         ⟨some 126, none, .iad 1 (.t 125) (.c (.int .i64 0))⟩,
         ⟨some 127, none, .ld 1 false false (.t 126)⟩,
         ⟨some 13, none, .mv true (.t 127)⟩])
       (.seq
        (.region [
          ⟨some 128, none, .mv false (.t 1)⟩,
          ⟨some 129, none, .iad 1 (.t 128) (.c (.int .i64 1))⟩,
          ⟨some 130, none, .ld 1 false false (.t 129)⟩,
          ⟨some 14, none, .mv true (.t 130)⟩])
        (.seq
         (.region [
           ⟨some 15, none, .mv true (.c (.int .i64 0))⟩])
         (.seq
          (.region [
            ⟨some 16, none, .mv true (.c (.int .i64 0))⟩])
          (.seq
           (.region [
             ⟨some 131, none, .mv false (.t 0)⟩,
             ⟨some 132, none, .len false (.t 131)⟩,
             ⟨some 133, none, .mv false (.t 5)⟩,
             ⟨some 134, none, .bin .sub (.t 132) (.t 133)⟩,
             ⟨some 135, none, .bin .add (.t 134) (.c (.int .i64 1))⟩,
             ⟨some 17, none, .mv true (.t 135)⟩])
           (.seq
            (.block 3
             (.loop
              (.seq
               (.seq
                (.region [
                  ⟨some 136, none, .mv false (.t 15)⟩,
                  ⟨some 137, none, .mv false (.t 17)⟩,
                  ⟨some 138, none, .bin .lss (.t 136) (.t 137)⟩])
                (.cond (.t 138)
                 .skip
                 (.exit 3)))
               (.block 4
                (.seq
                 (.seq
                  (.region [
                    ⟨some 139, none, .mv false (.t 0)⟩,
                    ⟨some 140, none, .mv false (.t 15)⟩,
                    ⟨some 141, none, .iad 1 (.t 139) (.t 140)⟩,
                    ⟨some 142, none, .ld 1 false false (.t 141)⟩,
                    ⟨some 143, none, .mv false (.t 13)⟩,
                    ⟨some 144, none, .bin .neq (.t 142) (.t 143)⟩])
                  (.cond (.t 144)
                   (.seq
                    (.region [
                      ⟨some 145, none, .mv false (.t 0)⟩,
                      ⟨some 146, none, .mv false (.t 15)⟩,
                      ⟨some 147, none, .bin .add (.t 146) (.c (.int .i64 1))⟩,
                      ⟨some 148, none, .mv false (.t 17)⟩,
                      ⟨some 149, none, .sli 1 (.t 145) (some (.t 147)) (some (.t 148)) none⟩,
                      ⟨some 150, none, .mv false (.t 13)⟩,
                      ⟨some 151, none, .callF 54 [.t 149, .t 150] []⟩,
                      ⟨some 18, none, .mv true (.t 151)⟩])
                    (.seq
                     (.seq
                      (.region [
                        ⟨some 152, none, .mv false (.t 18)⟩,
                        ⟨some 153, none, .bin .lss (.t 152) (.c (.int .i64 0))⟩])
                      (.cond (.t 153)
                       (.exit 3)
                       .skip))
                     (.region [
                       ⟨some 154, none, .mv false (.t 15)⟩,
                       ⟨some 155, none, .mv false (.t 18)⟩,
                       ⟨some 156, none, .bin .add (.t 155) (.c (.int .i64 1))⟩,
                       ⟨some 157, none, .bin .add (.t 154) (.t 156)⟩,
                       ⟨some 15, none, .mv true (.t 157)⟩])))
                   .skip))
                 (.seq
                  (.seq
                   (.region [
                     ⟨some 158, none, .mv false (.t 0)⟩,
                     ⟨some 159, none, .mv false (.t 15)⟩,
                     ⟨some 160, none, .bin .add (.t 159) (.c (.int .i64 1))⟩,
                     ⟨some 161, none, .iad 1 (.t 158) (.t 160)⟩,
                     ⟨some 162, none, .ld 1 false false (.t 161)⟩,
                     ⟨some 163, none, .mv false (.t 14)⟩,
                     ⟨some 164, none, .bin .eql (.t 162) (.t 163)⟩,
                     ⟨some 165, none, .mv false (.t 164)⟩,
                     ⟨some 166, some (165, true), .mv false (.t 0)⟩,
                     ⟨some 167, some (165, true), .mv false (.t 15)⟩,
                     ⟨some 168, some (165, true), .mv false (.t 15)⟩,
                     ⟨some 169, some (165, true), .mv false (.t 5)⟩,
                     ⟨some 170, some (165, true), .bin .add (.t 168) (.t 169)⟩,
                     ⟨some 171, some (165, true), .sli 1 (.t 166) (some (.t 167)) (some (.t 170)) none⟩,
                     ⟨some 172, some (165, true), .mv false (.t 1)⟩,
                     ⟨some 173, some (165, true), .callF 27 [.t 171, .t 172] []⟩,
                     ⟨some 174, none, .pick (.t 165) (.t 173) (.c (.bool false))⟩])
                   (.cond (.t 174)
                    (.seq
                     (.region [
                       ⟨some 175, none, .mv true (.t 15)⟩,
                       ⟨some 4, none, .mv true (.t 175)⟩])
                     .ret)
                    .skip))
                  (.seq
                   (.region [
                     ⟨some 176, none, .mv false (.t 15)⟩,
                     ⟨some 177, none, .bin .add (.t 176) (.c (.int .i64 1))⟩,
                     ⟨some 15, none, .mv true (.t 177)⟩])
                   (.seq
                    (.region [
                      ⟨some 178, none, .mv false (.t 16)⟩,
                      ⟨some 179, none, .bin .add (.t 178) (.c (.int .i64 1))⟩,
                      ⟨some 16, none, .mv true (.t 179)⟩])
                    (.seq
                     (.region [
                       ⟨some 180, none, .mv false (.t 16)⟩,
                       ⟨some 181, none, .mv false (.t 15)⟩,
                       ⟨some 182, none, .bin .shr (.t 181) (.c (.int .u64 4))⟩,
                       ⟨some 183, none, .bin .add (.c (.int .i64 4)) (.t 182)⟩,
                       ⟨some 184, none, .bin .geq (.t 180) (.t 183)⟩,
                       ⟨some 185, none, .mv false (.t 184)⟩,
                       ⟨some 186, some (185, true), .mv false (.t 15)⟩,
                       ⟨some 187, some (185, true), .mv false (.t 17)⟩,
                       ⟨some 188, some (185, true), .bin .lss (.t 186) (.t 187)⟩,
                       ⟨some 189, none, .pick (.t 185) (.t 188) (.c (.bool false))⟩])
                     (.cond (.t 189)
                      (.seq
                       (.region [
                         ⟨some 190, none, .mv false (.t 0)⟩,
                         ⟨some 191, none, .mv false (.t 15)⟩,
                         ⟨some 192, none, .sli 1 (.t 190) (some (.t 191)) none none⟩,
                         ⟨some 193, none, .mv false (.t 1)⟩,
                         ⟨some 194, none, .callF 57 [.t 192, .t 193] []⟩,
                         ⟨some 19, none, .mv true (.t 194)⟩])
                       (.seq
                        (.seq
                         (.region [
                           ⟨some 195, none, .mv false (.t 19)⟩,
                           ⟨some 196, none, .bin .lss (.t 195) (.c (.int .i64 0))⟩])
                         (.cond (.t 196)
                          (.seq
                           (.region [
                             ⟨some 4, none, .mv true (.c (.int .i64 (-1)))⟩])
                           .ret)
                          .skip))
                        (.seq
                         (.region [
                           ⟨some 197, none, .mv false (.t 15)⟩,
                           ⟨some 198, none, .mv false (.t 19)⟩,
                           ⟨some 199, none, .bin .add (.t 197) (.t 198)⟩,
                           ⟨some 4, none, .mv true (.t 199)⟩])
                         .ret)))
                      .skip))))))))))
            (.seq
             (.region [
               ⟨some 4, none, .mv true (.c (.int .i64 (-1)))⟩])
             .ret)))))))))⟩
theorem t40 : compF Tryd.prog {} 40 = some p40 := by kernel_rfl
def p42 : PFn :=
  ⟨5, [.t 2], .seq
    (.region [
      ⟨some 2, none, .mv true (.c (.bool false))⟩])
    (.seq
     (.region [
       ⟨some 3, none, .mv false (.t 0)⟩,
       ⟨some 4, none, .bin .gtr (.t 3) (.c (.int .i64 8))⟩,
       ⟨some 2, none, .mv true (.t 4)⟩])
     .ret)⟩
theorem t42 : compF Tryd.prog {} 42 = some p42 := by kernel_rfl
def p43 : PFn :=
  ⟨21, [.c 2 256 true, .t 3], .seq
    (.region [
      ⟨some 2, none, .al [.bool false, .bool false, .bool false, .bool false, .bool false, .bool false, .bool false, .bool false, .bool false, .bool false, .bool false, .bool false, .bool false, .bool false, .bool false, .bool false, .bool false, .bool false, .bool false, .bool false, .bool false, .bool false, .bool false, .bool false, .bool false, .bool false, .bool false, .bool false, .bool false, .bool false, .bool false, .bool false, .bool false, .bool false, .bool false, .bool false, .bool false, .bool false, .bool false, .bool false, .bool false, .bool false, .bool false, .bool false, .bool false, .bool false, .bool false, .bool false, .bool false, .bool false, .bool false, .bool false, .bool false, .bool false, .bool false, .bool false, .bool false, .bool false, .bool false, .bool false, .bool false, .bool false, .bool false, .bool false, .bool false, .bool false, .bool false, .bool false, .bool false, .bool false, .bool false, .bool false, .bool false, .bool false, .bool false, .bool false, .bool false, .bool false, .bool false, .bool false, .bool false, .bool false, .bool false, .bool false, .bool false, .bool false, .bool false, .bool false, .bool false, .bool false, .bool false, .bool false, .bool false, .bool false, .bool false, .bool false, .bool false, .bool false, .bool false, .bool false, .bool false, .bool false, .bool false, .bool false, .bool false, .bool false, .bool false, .bool false, .bool false, .bool false, .bool false, .bool false, .bool false, .bool false, .bool false, .bool false, .bool false, .bool false, .bool false, .bool false, .bool false, .bool false, .bool false, .bool false, .bool false, .bool false, .bool false, .bool false, .bool false, .bool false, .bool false, .bool false, .bool false, .bool false, .bool false, .bool false, .bool false, .bool false, .bool false, .bool false, .bool false, .bool false, .bool false, .bool false, .bool false, .bool false, .bool false, .bool false, .bool false, .bool false, .bool false, .bool false, .bool false, .bool false, .bool false, .bool false, .bool false, .bool false, .bool false, .bool false, .bool false, .bool false, .bool false, .bool false, .bool false, .bool false, .bool false, .bool false, .bool false, .bool false, .bool false, .bool false, .bool false, .bool false, .bool false, .bool false, .bool false, .bool false, .bool false, .bool false, .bool false, .bool false, .bool false, .bool false, .bool false, .bool false, .bool false, .bool false, .bool false, .bool false, .bool false, .bool false, .bool false, .bool false, .bool false, .bool false, .bool false, .bool false, .bool false, .bool false, .bool false, .bool false, .bool false, .bool false, .bool false, .bool false, .bool false, .bool false, .bool false, .bool false, .bool false, .bool false, .bool false, .bool false, .bool false, .bool false, .bool false, .bool false, .bool false, .bool false, .bool false, .bool false, .bool false, .bool false, .bool false, .bool false, .bool false, .bool false, .bool false, .bool false, .bool false, .bool false, .bool false, .bool false, .bool false, .bool false, .bool false, .bool false, .bool false, .bool false, .bool false, .bool false, .bool false, .bool false, .bool false, .bool false, .bool false, .bool false, .bool false, .bool false, .bool false, .bool false, .bool false, .bool false, .bool false, .bool false]⟩,
      ⟨some 3, none, .mv true (.c (.bool false))⟩])
    (.seq
     (.seq
      (.region [
        ⟨some 4, none, .mv true (.c (.int .i64 0))⟩])
      (.block 0
       (.loop
        (.seq
         (.seq
          (.region [
            ⟨some 6, none, .mv false (.t 4)⟩,
            ⟨some 7, none, .mv false (.t 0)⟩,
            ⟨some 8, none, .len true (.t 7)⟩,
            ⟨some 9, none, .bin .lss (.t 6) (.t 8)⟩])
          (.cond (.t 9)
           .skip
           (.exit 0)))
         (.seq
          (.block 1
           (.seq
            (.region [
              ⟨some 12, none, .mv false (.t 0)⟩,
              ⟨some 13, none, .mv false (.t 4)⟩,
              ⟨some 14, none, .idx (.t 12) (.t 13)⟩,
              ⟨some 5, none, .mv true (.t 14)⟩])
            (.seq
             (.seq
              (.region [
                ⟨some 15, none, .mv false (.t 5)⟩,
                ⟨some 16, none, .bin .geq (.t 15) (.c (.int .u8 128))⟩])
              (.cond (.t 16)
               (.seq
                (.region [
                  ⟨some 17, none, .ld 256 true false (.t 2)⟩,
                  ⟨none, none, .sto 256 (.t 2) (.t 17)⟩,
                  ⟨some 3, none, .mv true (.c (.bool false))⟩])
                .ret)
               .skip))
             (.region [
               ⟨some 18, none, .mv false (.t 5)⟩,
               ⟨some 19, none, .bad⟩,
               ⟨none, none, .sto 1 (.t 19) (.c (.bool true))⟩]))))
          (.region [
            ⟨some 10, none, .mv false (.t 4)⟩,
            ⟨some 11, none, .bin .add (.t 10) (.c (.int .i64 1))⟩,
            ⟨some 4, none, .mv true (.t 11)⟩]))))))
     (.seq
      (.region [
        ⟨some 20, none, .ld 256 true false (.t 2)⟩,
        ⟨none, none, .sto 256 (.t 2) (.t 20)⟩,
        ⟨some 3, none, .mv true (.c (.bool true))⟩])
      .ret))⟩
theorem t43 : compF Tryd.prog {} 43 = some p43 := by kernel_rfl
def p44 : PFn :=
  ⟨10, [.t 4], .seq
    (.region [
      ⟨some 4, none, .mv true (.c (.bool false))⟩])
    (.seq
     (.region [
       ⟨some 5, none, .mv false (.t 0)⟩,
       ⟨some 6, none, .mv false (.t 1)⟩,
       ⟨some 7, none, .nck (.t 5)⟩,
       ⟨some 8, none, .bad⟩,
       ⟨some 9, none, .ld 1 false false (.t 8)⟩,
       ⟨some 4, none, .mv true (.t 9)⟩])
     .ret)⟩
theorem t44 : compF Tryd.prog {} 44 = some p44 := by kernel_rfl
def p45 : PFn :=
  ⟨34, [.t 4], .seq
    (.region [
      ⟨some 4, none, .mv true (.c (.int .i64 0))⟩])
    (.seq
     (.seq
      (.region [
        ⟨some 7, none, .mv false (.t 1)⟩,
        ⟨some 8, none, .len true (.t 7)⟩,
        ⟨some 9, none, .bin .eql (.t 8) (.c (.int .i64 0))⟩])
      (.cond (.t 9)
       (.seq
        (.region [
          ⟨some 10, none, .mv false (.t 0)⟩,
          ⟨some 11, none, .callF 53 [.t 10] []⟩,
          ⟨some 12, none, .bin .add (.t 11) (.c (.int .i64 1))⟩,
          ⟨some 4, none, .mv true (.t 12)⟩])
        .ret)
       .skip))
     (.seq
      (.seq
       (.region [
         ⟨some 13, none, .mv false (.t 1)⟩,
         ⟨some 14, none, .len true (.t 13)⟩,
         ⟨some 15, none, .bin .eql (.t 14) (.c (.int .i64 1))⟩])
       (.cond (.t 15)
        (.seq
         (.region [
           ⟨some 16, none, .mv false (.t 0)⟩,
           ⟨some 17, none, .mv false (.t 1)⟩,
           ⟨some 18, none, .idx (.t 17) (.c (.int .i64 0))⟩,
           ⟨some 19, none, .callF 61 [.t 16, .t 18] []⟩,
           ⟨some 4, none, .mv true (.t 19)⟩])
         .ret)
        .skip))
      (.seq
       (.region [
         ⟨some 5, none, .mv true (.c (.int .i64 0))⟩])
       (.block 0
        (.loop
         (.block 1
          (.seq
           (.region [
             ⟨some 20, none, .mv false (.t 0)⟩,
             ⟨some 21, none, .mv false (.t 1)⟩,
             ⟨some 22, none, .callF 47 [.t 20, .t 21] []⟩,
             ⟨some 6, none, .mv true (.t 22)⟩])
           (.seq
            (.seq
             (.region [
               ⟨some 23, none, .mv false (.t 6)⟩,
               ⟨some 24, none, .bin .eql (.t 23) (.c (.int .i64 (-1)))⟩])
             (.cond (.t 24)
              (.seq
               (.region [
                 ⟨some 25, none, .mv true (.t 5)⟩,
                 ⟨some 4, none, .mv true (.t 25)⟩])
               .ret)
              .skip))
            (.seq
             (.region [
               ⟨some 26, none, .mv false (.t 5)⟩,
               ⟨some 27, none, .bin .add (.t 26) (.c (.int .i64 1))⟩,
               ⟨some 5, none, .mv true (.t 27)⟩])
             (.region [
               ⟨some 28, none, .mv false (.t 0)⟩,
               ⟨some 29, none, .mv false (.t 6)⟩,
               ⟨some 30, none, .mv false (.t 1)⟩,
               ⟨some 31, none, .len true (.t 30)⟩,
               ⟨some 32, none, .bin .add (.t 29) (.t 31)⟩,
               ⟨some 33, none, .sls (.t 28) (some (.t 32)) none⟩,
               ⟨some 0, none, .mv true (.t 33)⟩]))))))))))⟩
theorem t45 : compF Tryd.prog {} 45 = some p45 := by kernel_rfl
def p46 : PFn :=
  ⟨25, [], .seq
    (.region [
      ⟨some 4, none, .mv false (.t 0)⟩,
      ⟨some 5, none, .callF 62 [.t 4] []⟩])
    (.seq
     (.seq
      (.region [
        ⟨some 6, none, .mv false (.t 1)⟩,
        ⟨some 7, none, .bin .lss (.t 6) (.c (.int .i64 0))⟩])
      (.cond (.t 7)
       (.region [
         ⟨some 8, none, .bad⟩,
         ⟨none, none, .bad⟩])
       .skip))
     (.seq
      (.draw [
        ⟨some 9, none, .mv false (.t 0)⟩,
        ⟨some 10, none, .nck (.t 9)⟩,
        ⟨some 11, none, .fad 1 (.t 10)⟩,
        ⟨some 12, none, .ld 1 false false (.t 11)⟩,
        ⟨some 13, none, .cap (.t 12)⟩,
        ⟨some 14, none, .mv false (.t 0)⟩,
        ⟨some 15, none, .nck (.t 14)⟩,
        ⟨some 16, none, .fad 1 (.t 15)⟩,
        ⟨some 17, none, .ld 1 false false (.t 16)⟩,
        ⟨some 18, none, .len false (.t 17)⟩,
        ⟨some 19, none, .bin .sub (.t 13) (.t 18)⟩,
        ⟨some 20, none, .mv false (.t 1)⟩,
        ⟨some 21, none, .bin .lss (.t 19) (.t 20)⟩] [])
      (.cond (.t 21)
       (.region [
         ⟨some 22, none, .mv false (.t 0)⟩,
         ⟨some 23, none, .mv false (.t 1)⟩,
         ⟨some 24, none, .callF 63 [.t 22, .t 23] []⟩])
       .skip)))⟩
theorem t46 : compF Tryd.prog {} 46 = some p46 := by kernel_rfl
def p47 : PFn :=
  ⟨8, [.t 4], .seq
    (.region [
      ⟨some 4, none, .mv true (.c (.int .i64 0))⟩])
    (.seq
     (.region [
       ⟨some 5, none, .mv false (.t 0)⟩,
       ⟨some 6, none, .mv false (.t 1)⟩,
       ⟨some 7, none, .callF 64 [.t 5, .t 6] []⟩,
       ⟨some 4, none, .mv true (.t 7)⟩])
     .ret)⟩
theorem t47 : compF Tryd.prog {} 47 = some p47 := by kernel_rfl
def p48 : PFn :=
  ⟨19, [.t 4, .t 5], .seq
    (.region [
      ⟨some 4, none, .mv true (.c (.int .i64 0))⟩,
      ⟨some 5, none, .bad⟩])
    (.seq
     (.region [
       ⟨some 6, none, .mv false (.t 0)⟩,
       ⟨some 7, none, .callF 62 [.t 6] []⟩])
     (.seq
      (.region [
        ⟨some 8, none, .mv false (.t 0)⟩,
        ⟨some 9, none, .mv false (.t 0)⟩,
        ⟨some 10, none, .nck (.t 9)⟩,
        ⟨some 11, none, .fad 1 (.t 10)⟩,
        ⟨some 12, none, .ld 1 false false (.t 11)⟩,
        ⟨some 13, none, .mv false (.t 1)⟩,
        ⟨some 14, none, .app 1 1 (.t 12) (.t 13)⟩,
        ⟨some 15, none, .nck (.t 8)⟩,
        ⟨some 16, none, .fad 1 (.t 15)⟩,
        ⟨none, none, .sto 1 (.t 16) (.t 14)⟩])
      (.seq
       (.region [
         ⟨some 17, none, .mv false (.t 1)⟩,
         ⟨some 18, none, .len true (.t 17)⟩,
         ⟨some 4, none, .mv true (.t 18)⟩,
         ⟨some 5, none, .bad⟩])
       .ret)))⟩
theorem t48 : compF Tryd.prog {} 48 = some p48 := by kernel_rfl
def p49 : PFn :=
  ⟨19, [.t 2, .t 3], .seq
    (.region [
      ⟨some 2, none, .mv true (.c (.int .i32 0))⟩,
      ⟨some 3, none, .mv true (.c (.int .i64 0))⟩])
    (.seq
     (.seq
      (.region [
        ⟨some 4, none, .mv false (.t 0)⟩,
        ⟨some 5, none, .bin .neq (.t 4) (.c (.str []))⟩,
        ⟨some 6, none, .mv false (.t 5)⟩,
        ⟨some 7, some (6, true), .mv false (.t 0)⟩,
        ⟨some 8, some (6, true), .idx (.t 7) (.c (.int .i64 0))⟩,
        ⟨some 9, some (6, true), .bin .lss (.t 8) (.c (.int .u8 128))⟩,
        ⟨some 10, none, .pick (.t 6) (.t 9) (.c (.bool false))⟩])
      (.cond (.t 10)
       (.seq
        (.region [
          ⟨some 11, none, .mv false (.t 0)⟩,
          ⟨some 12, none, .idx (.t 11) (.c (.int .i64 0))⟩,
          ⟨some 13, none, .cvI .i32 (.t 12)⟩,
          ⟨some 2, none, .mv true (.t 13)⟩,
          ⟨some 3, none, .mv true (.c (.int .i64 1))⟩])
        .ret)
       (.region [
         ⟨some 15, none, .mv false (.t 0)⟩,
         ⟨some 16, none, .callF 65 [.t 15] []⟩,
         ⟨some 14, none, .mv true (.t 16)⟩,
         ⟨some 17, none, .ext false (.t 14) 0⟩,
         ⟨some 18, none, .ext false (.t 14) 1⟩,
         ⟨some 2, none, .mv true (.t 17)⟩,
         ⟨some 3, none, .mv true (.t 18)⟩])))
     .ret)⟩
theorem t49 : compF Tryd.prog {} 49 = some p49 := by kernel_rfl
def p50 : PFn :=
  ⟨14, [.t 2], .seq
    (.region [
      ⟨some 2, none, .mv true (.c (.str []))⟩])
    (.seq
     (.draw [
       ⟨some 3, none, .mv false (.t 0)⟩,
       ⟨some 4, none, .nck (.t 3)⟩,
       ⟨some 5, none, .fad 1 (.t 4)⟩,
       ⟨some 6, none, .ld 1 false false (.t 5)⟩,
       ⟨some 7, none, .bad⟩,
       ⟨some 8, none, .mv false (.t 0)⟩,
       ⟨some 9, none, .nck (.t 8)⟩,
       ⟨some 10, none, .fad 1 (.t 9)⟩,
       ⟨some 11, none, .ld 1 false false (.t 10)⟩,
       ⟨some 12, none, .len false (.t 11)⟩,
       ⟨some 13, none, .bad⟩,
       ⟨some 2, none, .mv true (.t 13)⟩] [])
     .ret)⟩
theorem t50 : compF Tryd.prog {} 50 = some p50 := by kernel_rfl
def p51 : PFn :=
  ⟨14, [.t 4], .seq
    (.region [
      ⟨some 4, none, .mv true (.c .nilf)⟩])
    (.seq
     (.seq
      (.region [
        ⟨some 5, none, .mv false (.t 1)⟩,
        ⟨some 6, none, .bin .eql (.t 5) (.c (.int .u8 34))⟩])
      (.cond (.t 6)
       (.seq
        (.region [
          ⟨some 7, none, .mv false (.t 0)⟩,
          ⟨some 8, none, .mkf (.func 66) [.t 7] []⟩,
          ⟨some 4, none, .mv true (.t 8)⟩])
        .ret)
       .skip))
     (.seq
      (.region [
        ⟨some 9, none, .mv false (.t 0)⟩,
        ⟨some 10, none, .mv false (.t 1)⟩,
        ⟨some 11, none, .callF 67 [.t 9, .t 10] []⟩])
      (.seq
       (.region [
         ⟨some 12, none, .mv false (.t 0)⟩,
         ⟨some 13, none, .mkf (.func 51) [.t 12] []⟩,
         ⟨some 4, none, .mv true (.t 13)⟩])
       .ret)))⟩
theorem t51 : compF Tryd.prog {} 51 = some p51 := by kernel_rfl
def p52 : PFn :=
  ⟨23, [.t 4], .seq
    (.region [
      ⟨some 4, none, .mv true (.c .nilf)⟩])
    (.seq
     (.seq
      (.region [
        ⟨some 5, none, .mv false (.t 1)⟩])
      (.block 0
       (.seq
        (.seq
         (.region [
           ⟨some 7, none, .bin .eql (.t 5) (.c (.int .u8 44))⟩,
           ⟨some 6, none, .mv true (.t 7)⟩])
         (.cond (.t 6)
          .skip
          (.seq
           (.region [
             ⟨some 8, none, .bin .eql (.t 5) (.c (.int .u8 10))⟩,
             ⟨some 6, none, .mv true (.t 8)⟩])
           (.cond (.t 6)
            .skip
            (.region [
              ⟨some 9, none, .bin .eql (.t 5) (.c (.int .u8 13))⟩,
              ⟨some 6, none, .mv true (.t 9)⟩])))))
        (.cond (.t 6)
         (.seq
          (.region [
            ⟨some 10, none, .mv false (.t 0)⟩,
            ⟨some 11, none, .mv false (.t 1)⟩,
            ⟨some 12, none, .callF 68 [.t 10, .t 11] []⟩,
            ⟨some 4, none, .mv true (.t 12)⟩])
          .ret)
         (.seq
          (.region [
            ⟨some 14, none, .bin .eql (.t 5) (.c (.int .u8 34))⟩,
            ⟨some 13, none, .mv true (.t 14)⟩])
          (.cond (.t 13)
           (.seq
            (.region [
              ⟨some 15, none, .mv false (.t 0)⟩,
              ⟨some 16, none, .mv false (.t 1)⟩,
              ⟨some 17, none, .callF 69 [.t 15, .t 16] []⟩,
              ⟨some 4, none, .mv true (.t 17)⟩])
            .ret)
           .skip))))))
     (.seq
      (.region [
        ⟨some 18, none, .mv false (.t 0)⟩,
        ⟨some 19, none, .mv false (.t 1)⟩,
        ⟨some 20, none, .callF 67 [.t 18, .t 19] []⟩])
      (.seq
       (.region [
         ⟨some 21, none, .mv false (.t 0)⟩,
         ⟨some 22, none, .mkf (.func 52) [.t 21] []⟩,
         ⟨some 4, none, .mv true (.t 22)⟩])
       .ret)))⟩
theorem t52 : compF Tryd.prog {} 52 = some p52 := by kernel_rfl
def p53 : PFn :=
  ⟨10, [.t 2], .seq
    (.region [
      ⟨some 2, none, .mv true (.c (.int .i64 0))⟩])
    (.seq
     (.seq
      (.region [
        ⟨some 3, none, .mv false (.t 0)⟩,
        ⟨some 4, none, .bad⟩])
      (.block 0
       (.loop
        (.seq
         (.region [
           ⟨some 5, none, .bad⟩,
           ⟨some 6, none, .ext false (.t 5) 0⟩])
         (.seq
          (.cond (.t 6)
           .skip
           (.exit 0))
          (.block 1
           (.region [
             ⟨some 7, none, .mv false (.t 2)⟩,
             ⟨some 8, none, .bin .add (.t 7) (.c (.int .i64 1))⟩,
             ⟨some 2, none, .mv true (.t 8)⟩])))))))
     (.seq
      (.region [
        ⟨some 9, none, .mv true (.t 2)⟩,
        ⟨some 2, none, .mv true (.t 9)⟩])
      .ret))⟩
theorem t53 : compF Tryd.prog {} 53 = some p53 := by kernel_rfl
def p54 : PFn :=
  ⟨8, [.t 4], .seq
    (.region [
      ⟨some 4, none, .mv true (.c (.int .i64 0))⟩])
    (.seq
     (.region [
       ⟨some 5, none, .mv false (.t 0)⟩,
       ⟨some 6, none, .mv false (.t 1)⟩,
       ⟨some 7, none, .callF 70 [.t 5, .t 6] []⟩,
       ⟨some 4, none, .mv true (.t 7)⟩])
     .ret)⟩
theorem t54 : compF Tryd.prog {} 54 = some p54 := by kernel_rfl
def p56 : PFn :=
  ⟨6, [.t 2], .seq
    (.region [
      ⟨some 2, none, .mv true (.c (.int .i64 0))⟩])
    (.seq
     (.region [
       ⟨some 3, none, .mv false (.t 0)⟩,
       ⟨some 4, none, .bin .add (.t 3) (.c (.int .i64 16))⟩,
       ⟨some 5, none, .bin .quo (.t 4) (.c (.int .i64 8))⟩,
       ⟨some 2, none, .mv true (.t 5)⟩])
     .ret)⟩
theorem t56 : compF Tryd.prog {} 56 = some p56 := by kernel_rfl
def p57 : PFn :=
  ⟨88, [.t 4], .seq
    (.region [
      ⟨some 4, none, .mv true (.c (.int .i64 0))⟩])
    (.seq
     (.region [
       ⟨some 12, none, .mv false (.t 1)⟩,
       ⟨some 13, none, .callF 71 [.t 12] []⟩,
       ⟨some 11, none, .mv true (.t 13)⟩,
       ⟨some 14, none, .ext false (.t 11) 0⟩,
       ⟨some 15, none, .ext false (.t 11) 1⟩,
       ⟨some 5, none, .mv true (.t 14)⟩,
       ⟨some 6, none, .mv true (.t 15)⟩])
     (.seq
      (.region [
        ⟨some 16, none, .mv false (.t 1)⟩,
        ⟨some 17, none, .len false (.t 16)⟩,
        ⟨some 7, none, .mv true (.t 17)⟩])
      (.seq
       (.region [
         ⟨some 8, none, .mv true (.c (.int .u32 0))⟩])
       (.seq
        (.seq
         (.region [
           ⟨some 9, none, .mv true (.c (.int .i64 0))⟩])
         (.block 0
          (.loop
           (.seq
            (.seq
             (.region [
               ⟨some 18, none, .mv false (.t 9)⟩,
               ⟨some 19, none, .mv false (.t 7)⟩,
               ⟨some 20, none, .bin .lss (.t 18) (.t 19)⟩])
             (.cond (.t 20)
              .skip
              (.exit 0)))
            (.seq
             (.block 1
              (.region [
                ⟨some 23, none, .mv false (.t 8)⟩,
                ⟨some 24, none, .bin .mul (.t 23) (.c (.int .u32 16777619))⟩,
                ⟨some 25, none, .mv false (.t 0)⟩,
                ⟨some 26, none, .mv false (.t 9)⟩,
                ⟨some 27, none, .iad 1 (.t 25) (.t 26)⟩,
                ⟨some 28, none, .ld 1 false false (.t 27)⟩,
                ⟨some 29, none, .cvI .u32 (.t 28)⟩,
                ⟨some 30, none, .bin .add (.t 24) (.t 29)⟩,
                ⟨some 8, none, .mv true (.t 30)⟩]))
             (.region [
               ⟨some 21, none, .mv false (.t 9)⟩,
               ⟨some 22, none, .bin .add (.t 21) (.c (.int .i64 1))⟩,
               ⟨some 9, none, .mv true (.t 22)⟩]))))))
        (.seq
         (.seq
          (.draw [
            ⟨some 31, none, .mv false (.t 8)⟩,
            ⟨some 32, none, .mv false (.t 5)⟩,
            ⟨some 33, none, .bin .eql (.t 31) (.t 32)⟩,
            ⟨some 34, none, .mv false (.t 33)⟩,
            ⟨some 35, some (34, true), .mv false (.t 0)⟩,
            ⟨some 36, some (34, true), .mv false (.t 7)⟩,
            ⟨some 37, some (34, true), .sli 1 (.t 35) none (some (.t 36)) none⟩,
            ⟨some 38, some (34, true), .cvS (.t 37)⟩,
            ⟨some 39, some (34, true), .mv false (.t 1)⟩,
            ⟨some 40, some (34, true), .cvS (.t 39)⟩,
            ⟨some 41, some (34, true), .bin .eql (.t 38) (.t 40)⟩,
            ⟨some 42, none, .pick (.t 34) (.t 41) (.c (.bool false))⟩] [])
          (.cond (.t 42)
           (.seq
            (.region [
              ⟨some 4, none, .mv true (.c (.int .i64 0))⟩])
            .ret)
           .skip))
         (.seq
          (.seq
           (.region [
             ⟨some 43, none, .mv true (.t 7)⟩,
             ⟨some 10, none, .mv true (.t 43)⟩])
           (.block 2
            (.loop
             (.seq
              (.seq
               (.region [
                 ⟨some 44, none, .mv false (.t 10)⟩,
                 ⟨some 45, none, .mv false (.t 0)⟩,
                 ⟨some 46, none, .len false (.t 45)⟩,
                 ⟨some 47, none, .bin .lss (.t 44) (.t 46)⟩])
               (.cond (.t 47)
                .skip
                (.exit 2)))
              (.block 3
               (.seq
                (.region [
                  ⟨some 48, none, .mv false (.t 8)⟩,
                  ⟨some 49, none, .bin .mul (.t 48) (.c (.int .u32 16777619))⟩,
                  ⟨some 8, none, .mv true (.t 49)⟩])
                (.seq
                 (.region [
                   ⟨some 50, none, .mv false (.t 8)⟩,
                   ⟨some 51, none, .mv false (.t 0)⟩,
                   ⟨some 52, none, .mv false (.t 10)⟩,
                   ⟨some 53, none, .iad 1 (.t 51) (.t 52)⟩,
                   ⟨some 54, none, .ld 1 false false (.t 53)⟩,
                   ⟨some 55, none, .cvI .u32 (.t 54)⟩,
                   ⟨some 56, none, .bin .add (.t 50) (.t 55)⟩,
                   ⟨some 8, none, .mv true (.t 56)⟩])
                 (.seq
                  (.region [
                    ⟨some 57, none, .mv false (.t 8)⟩,
                    ⟨some 58, none, .mv false (.t 6)⟩,
                    ⟨some 59, none, .mv false (.t 0)⟩,
                    ⟨some 60, none, .mv false (.t 10)⟩,
                    ⟨some 61, none, .mv false (.t 7)⟩,
                    ⟨some 62, none, .bin .sub (.t 60) (.t 61)⟩,
                    ⟨some 63, none, .iad 1 (.t 59) (.t 62)⟩,
                    ⟨some 64, none, .ld 1 false false (.t 63)⟩,
                    ⟨some 65, none, .cvI .u32 (.t 64)⟩,
                    ⟨some 66, none, .bin .mul (.t 58) (.t 65)⟩,
                    ⟨some 67, none, .bin .sub (.t 57) (.t 66)⟩,
                    ⟨some 8, none, .mv true (.t 67)⟩])
                  (.seq
                   (.region [
                     ⟨some 68, none, .mv false (.t 10)⟩,
                     ⟨some 69, none, .bin .add (.t 68) (.c (.int .i64 1))⟩,
                     ⟨some 10, none, .mv true (.t 69)⟩])
                   (.seq
                    (.draw [
                      ⟨some 70, none, .mv false (.t 8)⟩,
                      ⟨some 71, none, .mv false (.t 5)⟩,
                      ⟨some 72, none, .bin .eql (.t 70) (.t 71)⟩,
                      ⟨some 73, none, .mv false (.t 72)⟩,
                      ⟨some 74, some (73, true), .mv false (.t 0)⟩,
                      ⟨some 75, some (73, true), .mv false (.t 10)⟩,
                      ⟨some 76, some (73, true), .mv false (.t 7)⟩,
                      ⟨some 77, some (73, true), .bin .sub (.t 75) (.t 76)⟩,
                      ⟨some 78, some (73, true), .mv false (.t 10)⟩,
                      ⟨some 79, some (73, true), .sli 1 (.t 74) (some (.t 77)) (some (.t 78)) none⟩,
                      ⟨some 80, some (73, true), .cvS (.t 79)⟩,
                      ⟨some 81, some (73, true), .mv false (.t 1)⟩,
                      ⟨some 82, some (73, true), .cvS (.t 81)⟩,
                      ⟨some 83, some (73, true), .bin .eql (.t 80) (.t 82)⟩,
                      ⟨some 84, none, .pick (.t 73) (.t 83) (.c (.bool false))⟩] [])
                    (.cond (.t 84)
                     (.seq
                      (.region [
                        ⟨some 85, none, .mv false (.t 10)⟩,
                        ⟨some 86, none, .mv false (.t 7)⟩,
                        ⟨some 87, none, .bin .sub (.t 85) (.t 86)⟩,
                        ⟨some 4, none, .mv true (.t 87)⟩])
                      .ret)
                     .skip)))))))))))
          (.seq
           (.region [
             ⟨some 4, none, .mv true (.c (.int .i64 (-1)))⟩])
           .ret)))))))⟩
theorem t57 : compF Tryd.prog {} 57 = some p57 := by kernel_rfl
def p58 : PFn :=
  ⟨8, [.t 4], .seq
    (.region [
      ⟨some 4, none, .mv true (.c (.int .i64 0))⟩])
    (.seq
     (.region [
       ⟨some 5, none, .mv false (.t 0)⟩,
       ⟨some 6, none, .mv false (.t 1)⟩,
       ⟨some 7, none, .callF 72 [.t 5, .t 6] []⟩,
       ⟨some 4, none, .mv true (.t 7)⟩])
     .ret)⟩
theorem t58 : compF Tryd.prog {} 58 = some p58 := by kernel_rfl
def p59 : PFn :=
  ⟨17, [.t 2], .seq
    (.region [
      ⟨some 2, none, .mv true (.c (.bool false))⟩])
    (.seq
     (.block 0
      (.seq
       (.region [
         ⟨some 4, none, .mv false (.t 0)⟩,
         ⟨some 5, none, .bin .leq (.c (.int .i32 0)) (.t 4)⟩,
         ⟨some 6, none, .mv false (.t 5)⟩,
         ⟨some 7, some (6, true), .mv false (.t 0)⟩,
         ⟨some 8, some (6, true), .bin .lss (.t 7) (.c (.int .i32 55296))⟩,
         ⟨some 9, none, .pick (.t 6) (.t 8) (.c (.bool false))⟩,
         ⟨some 3, none, .mv true (.t 9)⟩])
       (.cond (.t 3)
        (.seq
         (.region [
           ⟨some 2, none, .mv true (.c (.bool true))⟩])
         .ret)
        (.seq
         (.region [
           ⟨some 11, none, .mv false (.t 0)⟩,
           ⟨some 12, none, .bin .lss (.c (.int .i32 57343)) (.t 11)⟩,
           ⟨some 13, none, .mv false (.t 12)⟩,
           ⟨some 14, some (13, true), .mv false (.t 0)⟩,
           ⟨some 15, some (13, true), .bin .leq (.t 14) (.c (.int .i32 1114111))⟩,
           ⟨some 16, none, .pick (.t 13) (.t 15) (.c (.bool false))⟩,
           ⟨some 10, none, .mv true (.t 16)⟩])
         (.cond (.t 10)
          (.seq
           (.region [
             ⟨some 2, none, .mv true (.c (.bool true))⟩])
           .ret)
          .skip)))))
     (.seq
      (.region [
        ⟨some 2, none, .mv true (.c (.bool false))⟩])
      .ret))⟩
theorem t59 : compF Tryd.prog {} 59 = some p59 := by kernel_rfl
def p63 : PFn :=
  ⟨30, [], .seq
    (.draw [
      ⟨some 5, none, .mv false (.t 0)⟩,
      ⟨some 6, none, .nck (.t 5)⟩,
      ⟨some 7, none, .fad 1 (.t 6)⟩,
      ⟨some 8, none, .ld 1 false false (.t 7)⟩,
      ⟨some 9, none, .cap (.t 8)⟩,
      ⟨some 10, none, .bin .mul (.c (.int .i64 2)) (.t 9)⟩,
      ⟨some 11, none, .mv false (.t 1)⟩,
      ⟨some 12, none, .bin .add (.t 10) (.t 11)⟩,
      ⟨some 13, none, .callF 74 [.t 12] []⟩,
      ⟨some 14, none, .mv false (.t 0)⟩,
      ⟨some 15, none, .nck (.t 14)⟩,
      ⟨some 16, none, .fad 1 (.t 15)⟩,
      ⟨some 17, none, .ld 1 false false (.t 16)⟩,
      ⟨some 18, none, .len false (.t 17)⟩,
      ⟨some 19, none, .sli 1 (.t 13) none (some (.t 18)) none⟩,
      ⟨some 4, none, .mv true (.t 19)⟩] [])
    (.seq
     (.region [
       ⟨some 20, none, .mv false (.t 4)⟩,
       ⟨some 21, none, .mv false (.t 0)⟩,
       ⟨some 22, none, .nck (.t 21)⟩,
       ⟨some 23, none, .fad 1 (.t 22)⟩,
       ⟨some 24, none, .ld 1 false false (.t 23)⟩,
       ⟨some 25, none, .cpy 1 (.t 20) (.t 24)⟩])
     (.region [
       ⟨some 26, none, .mv false (.t 0)⟩,
       ⟨some 27, none, .mv true (.t 4)⟩,
       ⟨some 28, none, .nck (.t 26)⟩,
       ⟨some 29, none, .fad 1 (.t 28)⟩,
       ⟨none, none, .sto 1 (.t 29) (.t 27)⟩]))⟩
theorem t63 : compF Tryd.prog {} 63 = some p63 := by kernel_rfl
def p64 : PFn :=
  ⟨143, [.t 4], .seq
    (.region [
      ⟨some 4, none, .mv true (.c (.int .i64 0))⟩])
    (.seq
     (.region [
       ⟨some 14, none, .mv false (.t 1)⟩,
       ⟨some 15, none, .len true (.t 14)⟩,
       ⟨some 5, none, .mv true (.t 15)⟩])
     (.seq
      (.block 0
       (.seq
        (.region [
          ⟨some 17, none, .mv false (.t 5)⟩,
          ⟨some 18, none, .bin .eql (.t 17) (.c (.int .i64 0))⟩,
          ⟨some 19, none, .mv false (.t 18)⟩,
          ⟨some 20, some (19, false), .mv false (.t 1)⟩,
          ⟨some 21, some (19, false), .mv false (.t 0)⟩,
          ⟨some 22, some (19, false), .bin .eql (.t 20) (.t 21)⟩,
          ⟨some 23, none, .pick (.t 19) (.c (.bool true)) (.t 22)⟩,
          ⟨some 16, none, .mv true (.t 23)⟩])
        (.cond (.t 16)
         (.seq
          (.region [
            ⟨some 4, none, .mv true (.c (.int .i64 0))⟩])
          .ret)
         (.seq
          (.region [
            ⟨some 25, none, .mv false (.t 5)⟩,
            ⟨some 26, none, .bin .eql (.t 25) (.c (.int .i64 1))⟩,
            ⟨some 24, none, .mv true (.t 26)⟩])
          (.cond (.t 24)
           (.seq
            (.region [
              ⟨some 27, none, .mv false (.t 0)⟩,
              ⟨some 28, none, .mv false (.t 1)⟩,
              ⟨some 29, none, .idx (.t 28) (.c (.int .i64 0))⟩,
              ⟨some 30, none, .callF 72 [.t 27, .t 29] []⟩,
              ⟨some 4, none, .mv true (.t 30)⟩])
            .ret)
           (.seq
            (.region [
              ⟨some 32, none, .mv false (.t 5)⟩,
              ⟨some 33, none, .mv false (.t 0)⟩,
              ⟨some 34, none, .len true (.t 33)⟩,
              ⟨some 35, none, .bin .geq (.t 32) (.t 34)⟩,
              ⟨some 31, none, .mv true (.t 35)⟩])
            (.cond (.t 31)
             (.seq
              (.region [
                ⟨some 4, none, .mv true (.c (.int .i64 (-1)))⟩])
              .ret)
             (.seq
              (.region [
                ⟨some 37, none, .mv false (.t 5)⟩,
                ⟨some 38, none, .bad⟩,
                ⟨some 39, none, .bin .leq (.t 37) (.t 38)⟩,
                ⟨some 40, none, .mv false (.t 39)⟩,
                ⟨some 41, some (40, true), .mv false (.t 0)⟩,
                ⟨some 42, some (40, true), .len true (.t 41)⟩,
                ⟨some 43, some (40, true), .bin .leq (.t 42) (.c (.int .i64 64))⟩,
                ⟨some 44, none, .pick (.t 40) (.t 43) (.c (.bool false))⟩,
                ⟨some 36, none, .mv true (.t 44)⟩])
              (.cond (.t 36)
               (.seq
                (.region [
                  ⟨some 45, none, .mv false (.t 0)⟩,
                  ⟨some 46, none, .mv false (.t 1)⟩,
                  ⟨some 47, none, .callF 60 [.t 45, .t 46] []⟩,
                  ⟨some 4, none, .mv true (.t 47)⟩])
                .ret)
               .skip)))))))))
      (.seq
       (.region [
         ⟨some 48, none, .mv false (.t 1)⟩,
         ⟨some 49, none, .idx (.t 48) (.c (.int .i64 0))⟩,
         ⟨some 6, none, .mv true (.t 49)⟩])
       (.seq
        (.region [
          ⟨some 50, none, .mv false (.t 1)⟩,
          ⟨some 51, none, .idx (.t 50) (.c (.int .i64 1))⟩,
          ⟨some 7, none, .mv true (.t 51)⟩])
        (.seq
         (.region [
           ⟨some 8, none, .mv true (.c (.int .i64 0))⟩])
         (.seq
          (.region [
            ⟨some 52, none, .mv false (.t 0)⟩,
            ⟨some 53, none, .len true (.t 52)⟩,
            ⟨some 54, none, .mv false (.t 5)⟩,
            ⟨some 55, none, .bin .sub (.t 53) (.t 54)⟩,
            ⟨some 56, none, .bin .add (.t 55) (.c (.int .i64 1))⟩,
            ⟨some 9, none, .mv true (.t 56)⟩])
          (.seq
           (.region [
             ⟨some 10, none, .mv true (.c (.int .i64 0))⟩])
           (.seq
            (.block 1
             (.loop
              (.seq
               (.seq
                (.region [
                  ⟨some 57, none, .mv false (.t 8)⟩,
                  ⟨some 58, none, .mv false (.t 9)⟩,
                  ⟨some 59, none, .bin .lss (.t 57) (.t 58)⟩])
                (.cond (.t 59)
                 .skip
                 (.exit 1)))
               (.block 2
                (.seq
                 (.seq
                  (.region [
                    ⟨some 60, none, .mv false (.t 0)⟩,
                    ⟨some 61, none, .mv false (.t 8)⟩,
                    ⟨some 62, none, .idx (.t 60) (.t 61)⟩,
                    ⟨some 63, none, .mv false (.t 6)⟩,
                    ⟨some 64, none, .bin .neq (.t 62) (.t 63)⟩])
                  (.cond (.t 64)
                   (.seq
                    (.region [
                      ⟨some 65, none, .mv false (.t 0)⟩,
                      ⟨some 66, none, .mv false (.t 8)⟩,
                      ⟨some 67, none, .bin .add (.t 66) (.c (.int .i64 1))⟩,
                      ⟨some 68, none, .mv false (.t 9)⟩,
                      ⟨some 69, none, .sls (.t 65) (some (.t 67)) (some (.t 68))⟩,
                      ⟨some 70, none, .mv false (.t 6)⟩,
                      ⟨some 71, none, .callF 72 [.t 69, .t 70] []⟩,
                      ⟨some 11, none, .mv true (.t 71)⟩])
                    (.seq
                     (.seq
                      (.region [
                        ⟨some 72, none, .mv false (.t 11)⟩,
                        ⟨some 73, none, .bin .lss (.t 72) (.c (.int .i64 0))⟩])
                      (.cond (.t 73)
                       (.seq
                        (.region [
                          ⟨some 4, none, .mv true (.c (.int .i64 (-1)))⟩])
                        .ret)
                       .skip))
                     (.region [
                       ⟨some 74, none, .mv false (.t 8)⟩,
                       ⟨some 75, none, .mv false (.t 11)⟩,
                       ⟨some 76, none, .bin .add (.t 75) (.c (.int .i64 1))⟩,
                       ⟨some 77, none, .bin .add (.t 74) (.t 76)⟩,
                       ⟨some 8, none, .mv true (.t 77)⟩])))
                   .skip))
                 (.seq
                  (.seq
                   (.region [
                     ⟨some 78, none, .mv false (.t 0)⟩,
                     ⟨some 79, none, .mv false (.t 8)⟩,
                     ⟨some 80, none, .bin .add (.t 79) (.c (.int .i64 1))⟩,
                     ⟨some 81, none, .idx (.t 78) (.t 80)⟩,
                     ⟨some 82, none, .mv false (.t 7)⟩,
                     ⟨some 83, none, .bin .eql (.t 81) (.t 82)⟩,
                     ⟨some 84, none, .mv false (.t 83)⟩,
                     ⟨some 85, some (84, true), .mv false (.t 0)⟩,
                     ⟨some 86, some (84, true), .mv false (.t 8)⟩,
                     ⟨some 87, some (84, true), .mv false (.t 8)⟩,
                     ⟨some 88, some (84, true), .mv false (.t 5)⟩,
                     ⟨some 89, some (84, true), .bin .add (.t 87) (.t 88)⟩,
                     ⟨some 90, some (84, true), .sls (.t 85) (some (.t 86)) (some (.t 89))⟩,
                     ⟨some 91, some (84, true), .mv false (.t 1)⟩,
                     ⟨some 92, some (84, true), .bin .eql (.t 90) (.t 91)⟩,
                     ⟨some 93, none, .pick (.t 84) (.t 92) (.c (.bool false))⟩])
                   (.cond (.t 93)
                    (.seq
                     (.region [
                       ⟨some 94, none, .mv true (.t 8)⟩,
                       ⟨some 4, none, .mv true (.t 94)⟩])
                     .ret)
                    .skip))
                  (.seq
                   (.region [
                     ⟨some 95, none, .mv false (.t 8)⟩,
                     ⟨some 96, none, .bin .add (.t 95) (.c (.int .i64 1))⟩,
                     ⟨some 8, none, .mv true (.t 96)⟩])
                   (.seq
                    (.region [
                      ⟨some 97, none, .mv false (.t 10)⟩,
                      ⟨some 98, none, .bin .add (.t 97) (.c (.int .i64 1))⟩,
                      ⟨some 10, none, .mv true (.t 98)⟩])
                    (.seq
                     (.region [
                       ⟨some 99, none, .mv false (.t 5)⟩,
                       ⟨some 100, none, .bad⟩,
                       ⟨some 101, none, .bin .leq (.t 99) (.t 100)⟩,
                       ⟨some 102, none, .mv false (.t 101)⟩,
                       ⟨some 103, some (102, true), .mv false (.t 10)⟩,
                       ⟨some 104, some (102, true), .mv false (.t 8)⟩,
                       ⟨some 105, some (102, true), .callF 56 [.t 104] []⟩,
                       ⟨some 106, some (102, true), .bin .gtr (.t 103) (.t 105)⟩,
                       ⟨some 107, none, .pick (.t 102) (.t 106) (.c (.bool false))⟩])
                     (.cond (.t 107)
                      (.seq
                       (.region [
                         ⟨some 108, none, .mv false (.t 0)⟩,
                         ⟨some 109, none, .mv false (.t 8)⟩,
                         ⟨some 110, none, .sls (.t 108) (some (.t 109)) none⟩,
                         ⟨some 111, none, .mv false (.t 1)⟩,
                         ⟨some 112, none, .callF 60 [.t 110, .t 111] []⟩,
                         ⟨some 12, none, .mv true (.t 112)⟩])
                       (.seq
                        (.seq
                         (.region [
                           ⟨some 113, none, .mv false (.t 12)⟩,
                           ⟨some 114, none, .bin .geq (.t 113) (.c (.int .i64 0))⟩])
                         (.cond (.t 114)
                          (.seq
                           (.region [
                             ⟨some 115, none, .mv false (.t 12)⟩,
                             ⟨some 116, none, .mv false (.t 8)⟩,
                             ⟨some 117, none, .bin .add (.t 115) (.t 116)⟩,
                             ⟨some 4, none, .mv true (.t 117)⟩])
                           .ret)
                          .skip))
                        (.seq
                         (.region [
                           ⟨some 4, none, .mv true (.c (.int .i64 (-1)))⟩])
                         .ret)))
                      (.seq
                       (.region [
                         ⟨some 118, none, .mv false (.t 5)⟩,
                         ⟨some 119, none, .bad⟩,
                         ⟨some 120, none, .bin .gtr (.t 118) (.t 119)⟩,
                         ⟨some 121, none, .mv false (.t 120)⟩,
                         ⟨some 122, some (121, true), .mv false (.t 10)⟩,
                         ⟨some 123, some (121, true), .mv false (.t 8)⟩,
                         ⟨some 124, some (121, true), .bin .shr (.t 123) (.c (.int .u64 4))⟩,
                         ⟨some 125, some (121, true), .bin .add (.c (.int .i64 4)) (.t 124)⟩,
                         ⟨some 126, some (121, true), .bin .geq (.t 122) (.t 125)⟩,
                         ⟨some 127, none, .pick (.t 121) (.t 126) (.c (.bool false))⟩,
                         ⟨some 128, none, .mv false (.t 127)⟩,
                         ⟨some 129, some (128, true), .mv false (.t 8)⟩,
                         ⟨some 130, some (128, true), .mv false (.t 9)⟩,
                         ⟨some 131, some (128, true), .bin .lss (.t 129) (.t 130)⟩,
                         ⟨some 132, none, .pick (.t 128) (.t 131) (.c (.bool false))⟩])
                       (.cond (.t 132)
                        (.seq
                         (.region [
                           ⟨some 133, none, .mv false (.t 0)⟩,
                           ⟨some 134, none, .mv false (.t 8)⟩,
                           ⟨some 135, none, .sls (.t 133) (some (.t 134)) none⟩,
                           ⟨some 136, none, .mv false (.t 1)⟩,
                           ⟨some 137, none, .callF 75 [.t 135, .t 136] []⟩,
                           ⟨some 13, none, .mv true (.t 137)⟩])
                         (.seq
                          (.seq
                           (.region [
                             ⟨some 138, none, .mv false (.t 13)⟩,
                             ⟨some 139, none, .bin .lss (.t 138) (.c (.int .i64 0))⟩])
                           (.cond (.t 139)
                            (.seq
                             (.region [
                               ⟨some 4, none, .mv true (.c (.int .i64 (-1)))⟩])
                             .ret)
                            .skip))
                          (.seq
                           (.region [
                             ⟨some 140, none, .mv false (.t 8)⟩,
                             ⟨some 141, none, .mv false (.t 13)⟩,
                             ⟨some 142, none, .bin .add (.t 140) (.t 141)⟩,
                             ⟨some 4, none, .mv true (.t 142)⟩])
                           .ret)))
                        .skip))))))))))))
            (.seq
             (.region [
               ⟨some 4, none, .mv true (.c (.int .i64 (-1)))⟩])
             .ret)))))))))⟩
theorem t64 : compF Tryd.prog {} 64 = some p64 := by kernel_rfl
def p65 : PFn :=
  ⟨117, [.t 2, .t 3], .seq
    (.region [
      ⟨some 2, none, .mv true (.c (.int .i32 0))⟩,
      ⟨some 3, none, .mv true (.c (.int .i64 0))⟩])
    (.seq
     (.region [
       ⟨some 13, none, .mv false (.t 0)⟩,
       ⟨some 14, none, .len true (.t 13)⟩,
       ⟨some 4, none, .mv true (.t 14)⟩])
     (.seq
      (.seq
       (.region [
         ⟨some 15, none, .mv false (.t 4)⟩,
         ⟨some 16, none, .bin .lss (.t 15) (.c (.int .i64 1))⟩])
       (.cond (.t 16)
        (.seq
         (.region [
           ⟨some 2, none, .mv true (.c (.int .i32 65533))⟩,
           ⟨some 3, none, .mv true (.c (.int .i64 0))⟩])
         .ret)
        .skip))
      (.seq
       (.region [
         ⟨some 17, none, .mv false (.t 0)⟩,
         ⟨some 18, none, .idx (.t 17) (.c (.int .i64 0))⟩,
         ⟨some 5, none, .mv true (.t 18)⟩])
       (.seq
        (.region [
          ⟨some 19, none, .mv false (.t 5)⟩,
          ⟨some 20, none, .bad⟩,
          ⟨some 21, none, .ld 1 false false (.t 20)⟩,
          ⟨some 6, none, .mv true (.t 21)⟩])
        (.seq
         (.seq
          (.region [
            ⟨some 22, none, .mv false (.t 6)⟩,
            ⟨some 23, none, .bin .geq (.t 22) (.c (.int .u8 240))⟩])
          (.cond (.t 23)
           (.seq
            (.region [
              ⟨some 24, none, .mv false (.t 6)⟩,
              ⟨some 25, none, .cvI .i32 (.t 24)⟩,
              ⟨some 26, none, .bin .shl (.t 25) (.c (.int .u64 31))⟩,
              ⟨some 27, none, .bin .shr (.t 26) (.c (.int .u64 31))⟩,
              ⟨some 7, none, .mv true (.t 27)⟩])
            (.seq
             (.region [
               ⟨some 28, none, .mv false (.t 0)⟩,
               ⟨some 29, none, .idx (.t 28) (.c (.int .i64 0))⟩,
               ⟨some 30, none, .cvI .i32 (.t 29)⟩,
               ⟨some 31, none, .mv false (.t 7)⟩,
               ⟨some 32, none, .bin .andNot (.t 30) (.t 31)⟩,
               ⟨some 33, none, .mv false (.t 7)⟩,
               ⟨some 34, none, .bin .and (.c (.int .i32 65533)) (.t 33)⟩,
               ⟨some 35, none, .bin .or (.t 32) (.t 34)⟩,
               ⟨some 2, none, .mv true (.t 35)⟩,
               ⟨some 3, none, .mv true (.c (.int .i64 1))⟩])
             .ret))
           .skip))
         (.seq
          (.region [
            ⟨some 36, none, .mv false (.t 6)⟩,
            ⟨some 37, none, .bin .and (.t 36) (.c (.int .u8 7))⟩,
            ⟨some 38, none, .cvI .i64 (.t 37)⟩,
            ⟨some 8, none, .mv true (.t 38)⟩])
          (.seq
           (.region [
             ⟨some 39, none, .mv false (.t 6)⟩,
             ⟨some 40, none, .bin .shr (.t 39) (.c (.int .u64 4))⟩,
             ⟨some 41, none, .bad⟩,
             ⟨some 42, none, .ld 2 true false (.t 41)⟩,
             ⟨some 9, none, .al [.int .u8 0, .int .u8 0]⟩,
             ⟨none, none, .sto 2 (.t 9) (.t 42)⟩])
           (.seq
            (.seq
             (.region [
               ⟨some 43, none, .mv false (.t 4)⟩,
               ⟨some 44, none, .mv false (.t 8)⟩,
               ⟨some 45, none, .bin .lss (.t 43) (.t 44)⟩])
             (.cond (.t 45)
              (.seq
               (.region [
                 ⟨some 2, none, .mv true (.c (.int .i32 65533))⟩,
                 ⟨some 3, none, .mv true (.c (.int .i64 1))⟩])
               .ret)
              .skip))
            (.seq
             (.region [
               ⟨some 46, none, .mv false (.t 0)⟩,
               ⟨some 47, none, .idx (.t 46) (.c (.int .i64 1))⟩,
               ⟨some 10, none, .mv true (.t 47)⟩])
             (.seq
              (.seq
               (.region [
                 ⟨some 48, none, .mv false (.t 10)⟩,
                 ⟨some 49, none, .fad 0 (.t 9)⟩,
                 ⟨some 50, none, .ld 1 false false (.t 49)⟩,
                 ⟨some 51, none, .bin .lss (.t 48) (.t 50)⟩,
                 ⟨some 52, none, .mv false (.t 51)⟩,
                 ⟨some 53, some (52, false), .fad 1 (.t 9)⟩,
                 ⟨some 54, some (52, false), .ld 1 false false (.t 53)⟩,
                 ⟨some 55, some (52, false), .mv false (.t 10)⟩,
                 ⟨some 56, some (52, false), .bin .lss (.t 54) (.t 55)⟩,
                 ⟨some 57, none, .pick (.t 52) (.c (.bool true)) (.t 56)⟩])
               (.cond (.t 57)
                (.seq
                 (.region [
                   ⟨some 2, none, .mv true (.c (.int .i32 65533))⟩,
                   ⟨some 3, none, .mv true (.c (.int .i64 1))⟩])
                 .ret)
                .skip))
              (.seq
               (.seq
                (.region [
                  ⟨some 58, none, .mv false (.t 8)⟩,
                  ⟨some 59, none, .bin .leq (.t 58) (.c (.int .i64 2))⟩])
                (.cond (.t 59)
                 (.seq
                  (.region [
                    ⟨some 60, none, .mv false (.t 5)⟩,
                    ⟨some 61, none, .bin .and (.t 60) (.c (.int .u8 31))⟩,
                    ⟨some 62, none, .cvI .i32 (.t 61)⟩,
                    ⟨some 63, none, .bin .shl (.t 62) (.c (.int .u64 6))⟩,
                    ⟨some 64, none, .mv false (.t 10)⟩,
                    ⟨some 65, none, .bin .and (.t 64) (.c (.int .u8 63))⟩,
                    ⟨some 66, none, .cvI .i32 (.t 65)⟩,
                    ⟨some 67, none, .bin .or (.t 63) (.t 66)⟩,
                    ⟨some 2, none, .mv true (.t 67)⟩,
                    ⟨some 3, none, .mv true (.c (.int .i64 2))⟩])
                  .ret)
                 .skip))
               (.seq
                (.region [
                  ⟨some 68, none, .mv false (.t 0)⟩,
                  ⟨some 69, none, .idx (.t 68) (.c (.int .i64 2))⟩,
                  ⟨some 11, none, .mv true (.t 69)⟩])
                (.seq
                 (.seq
                  (.region [
                    ⟨some 70, none, .mv false (.t 11)⟩,
                    ⟨some 71, none, .bin .lss (.t 70) (.c (.int .u8 128))⟩,
                    ⟨some 72, none, .mv false (.t 71)⟩,
                    ⟨some 73, some (72, false), .mv false (.t 11)⟩,
                    ⟨some 74, some (72, false), .bin .lss (.c (.int .u8 191)) (.t 73)⟩,
                    ⟨some 75, none, .pick (.t 72) (.c (.bool true)) (.t 74)⟩])
                  (.cond (.t 75)
                   (.seq
                    (.region [
                      ⟨some 2, none, .mv true (.c (.int .i32 65533))⟩,
                      ⟨some 3, none, .mv true (.c (.int .i64 1))⟩])
                    .ret)
                   .skip))
                 (.seq
                  (.seq
                   (.region [
                     ⟨some 76, none, .mv false (.t 8)⟩,
                     ⟨some 77, none, .bin .leq (.t 76) (.c (.int .i64 3))⟩])
                   (.cond (.t 77)
                    (.seq
                     (.region [
                       ⟨some 78, none, .mv false (.t 5)⟩,
                       ⟨some 79, none, .bin .and (.t 78) (.c (.int .u8 15))⟩,
                       ⟨some 80, none, .cvI .i32 (.t 79)⟩,
                       ⟨some 81, none, .bin .shl (.t 80) (.c (.int .u64 12))⟩,
                       ⟨some 82, none, .mv false (.t 10)⟩,
                       ⟨some 83, none, .bin .and (.t 82) (.c (.int .u8 63))⟩,
                       ⟨some 84, none, .cvI .i32 (.t 83)⟩,
                       ⟨some 85, none, .bin .shl (.t 84) (.c (.int .u64 6))⟩,
                       ⟨some 86, none, .bin .or (.t 81) (.t 85)⟩,
                       ⟨some 87, none, .mv false (.t 11)⟩,
                       ⟨some 88, none, .bin .and (.t 87) (.c (.int .u8 63))⟩,
                       ⟨some 89, none, .cvI .i32 (.t 88)⟩,
                       ⟨some 90, none, .bin .or (.t 86) (.t 89)⟩,
                       ⟨some 2, none, .mv true (.t 90)⟩,
                       ⟨some 3, none, .mv true (.c (.int .i64 3))⟩])
                     .ret)
                    .skip))
                  (.seq
                   (.region [
                     ⟨some 91, none, .mv false (.t 0)⟩,
                     ⟨some 92, none, .idx (.t 91) (.c (.int .i64 3))⟩,
                     ⟨some 12, none, .mv true (.t 92)⟩])
                   (.seq
                    (.seq
                     (.region [
                       ⟨some 93, none, .mv false (.t 12)⟩,
                       ⟨some 94, none, .bin .lss (.t 93) (.c (.int .u8 128))⟩,
                       ⟨some 95, none, .mv false (.t 94)⟩,
                       ⟨some 96, some (95, false), .mv false (.t 12)⟩,
                       ⟨some 97, some (95, false), .bin .lss (.c (.int .u8 191)) (.t 96)⟩,
                       ⟨some 98, none, .pick (.t 95) (.c (.bool true)) (.t 97)⟩])
                     (.cond (.t 98)
                      (.seq
                       (.region [
                         ⟨some 2, none, .mv true (.c (.int .i32 65533))⟩,
                         ⟨some 3, none, .mv true (.c (.int .i64 1))⟩])
                       .ret)
                      .skip))
                    (.seq
                     (.region [
                       ⟨some 99, none, .mv false (.t 5)⟩,
                       ⟨some 100, none, .bin .and (.t 99) (.c (.int .u8 7))⟩,
                       ⟨some 101, none, .cvI .i32 (.t 100)⟩,
                       ⟨some 102, none, .bin .shl (.t 101) (.c (.int .u64 18))⟩,
                       ⟨some 103, none, .mv false (.t 10)⟩,
                       ⟨some 104, none, .bin .and (.t 103) (.c (.int .u8 63))⟩,
                       ⟨some 105, none, .cvI .i32 (.t 104)⟩,
                       ⟨some 106, none, .bin .shl (.t 105) (.c (.int .u64 12))⟩,
                       ⟨some 107, none, .bin .or (.t 102) (.t 106)⟩,
                       ⟨some 108, none, .mv false (.t 11)⟩,
                       ⟨some 109, none, .bin .and (.t 108) (.c (.int .u8 63))⟩,
                       ⟨some 110, none, .cvI .i32 (.t 109)⟩,
                       ⟨some 111, none, .bin .shl (.t 110) (.c (.int .u64 6))⟩,
                       ⟨some 112, none, .bin .or (.t 107) (.t 111)⟩,
                       ⟨some 113, none, .mv false (.t 12)⟩,
                       ⟨some 114, none, .bin .and (.t 113) (.c (.int .u8 63))⟩,
                       ⟨some 115, none, .cvI .i32 (.t 114)⟩,
                       ⟨some 116, none, .bin .or (.t 112) (.t 115)⟩,
                       ⟨some 2, none, .mv true (.t 116)⟩,
                       ⟨some 3, none, .mv true (.c (.int .i64 4))⟩])
                     .ret)))))))))))))))))⟩
theorem t65 : compF Tryd.prog {} 65 = some p65 := by kernel_rfl
def p66 : PFn :=
  ⟨15, [.t 4], .seq
    (.region [
      ⟨some 4, none, .mv true (.c .nilf)⟩])
    (.seq
     (.seq
      (.region [
        ⟨some 5, none, .mv false (.t 1)⟩,
        ⟨some 6, none, .bin .eql (.t 5) (.c (.int .u8 34))⟩])
      (.cond (.t 6)
       (.seq
        (.region [
          ⟨some 7, none, .mv false (.t 0)⟩,
          ⟨some 8, none, .mv false (.t 1)⟩,
          ⟨some 9, none, .callF 67 [.t 7, .t 8] []⟩])
        (.seq
         (.region [
           ⟨some 10, none, .mv false (.t 0)⟩,
           ⟨some 11, none, .mkf (.func 51) [.t 10] []⟩,
           ⟨some 4, none, .mv true (.t 11)⟩])
         .ret))
       .skip))
     (.seq
      (.region [
        ⟨some 12, none, .mv false (.t 0)⟩,
        ⟨some 13, none, .mv false (.t 1)⟩,
        ⟨some 14, none, .callF 68 [.t 12, .t 13] []⟩,
        ⟨some 4, none, .mv true (.t 14)⟩])
      .ret))⟩
theorem t66 : compF Tryd.prog {} 66 = some p66 := by kernel_rfl
def p67 : PFn :=
  ⟨23, [], .seq
    (.region [
      ⟨some 4, none, .mv false (.t 0)⟩,
      ⟨some 5, none, .mv false (.t 0)⟩,
      ⟨some 6, none, .nck (.t 5)⟩,
      ⟨some 7, none, .fad 1 (.t 6)⟩,
      ⟨some 8, none, .ld 1 false false (.t 7)⟩,
      ⟨some 9, none, .mv false (.t 1)⟩,
      ⟨some 10, none, .bsl 1 1 false [.int .u8 0] [(0, .t 9)] false⟩,
      ⟨some 11, none, .app 1 1 (.t 8) (.t 10)⟩,
      ⟨some 12, none, .nck (.t 4)⟩,
      ⟨some 13, none, .fad 1 (.t 12)⟩,
      ⟨none, none, .sto 1 (.t 13) (.t 11)⟩])
    (.seq
     (.region [
       ⟨some 14, none, .mv false (.t 0)⟩,
       ⟨some 15, none, .nck (.t 14)⟩,
       ⟨some 16, none, .fad 1 (.t 15)⟩,
       ⟨some 17, none, .ld 1 false false (.t 16)⟩,
       ⟨some 18, none, .len false (.t 17)⟩,
       ⟨some 19, none, .bin .gtr (.t 18) (.c (.int .i64 1000))⟩])
     (.cond (.t 19)
      (.region [
        ⟨some 20, none, .mv false (.t 0)⟩,
        ⟨some 21, none, .nck (.t 20)⟩,
        ⟨some 22, none, .fad 3 (.t 21)⟩,
        ⟨none, none, .sto 1 (.t 22) (.c (.int .i64 5))⟩])
      .skip))⟩
theorem t67 : compF Tryd.prog {} 67 = some p67 := by kernel_rfl
def p68 : PFn :=
  ⟨35, [.t 4], .seq
    (.region [
      ⟨some 4, none, .mv true (.c .nilf)⟩])
    (.seq
     (.seq
      (.region [
        ⟨some 5, none, .mv false (.t 1)⟩])
      (.block 0
       (.seq
        (.region [
          ⟨some 7, none, .bin .eql (.t 5) (.c (.int .u8 44))⟩,
          ⟨some 6, none, .mv true (.t 7)⟩])
        (.cond (.t 6)
         (.seq
          (.region [
            ⟨some 8, none, .mv false (.t 0)⟩,
            ⟨some 9, none, .callF 34 [.t 8] []⟩])
          (.seq
           (.seq
            (.region [
              ⟨some 10, none, .mv false (.t 0)⟩,
              ⟨some 11, none, .nck (.t 10)⟩,
              ⟨some 12, none, .fad 0 (.t 11)⟩,
              ⟨some 13, none, .ld 1 false false (.t 12)⟩,
              ⟨some 14, none, .len false (.t 13)⟩,
              ⟨some 15, none, .bin .eql (.t 14) (.c (.int .i64 50))⟩])
            (.cond (.t 15)
             (.region [
               ⟨some 16, none, .mv false (.t 0)⟩,
               ⟨some 17, none, .nck (.t 16)⟩,
               ⟨some 18, none, .fad 3 (.t 17)⟩,
               ⟨none, none, .sto 1 (.t 18) (.c (.int .i64 5))⟩])
             .skip))
           (.seq
            (.region [
              ⟨some 19, none, .mv false (.t 0)⟩,
              ⟨some 20, none, .mkf (.func 32) [.t 19] []⟩,
              ⟨some 4, none, .mv true (.t 20)⟩])
            .ret)))
         (.seq
          (.region [
            ⟨some 22, none, .bin .eql (.t 5) (.c (.int .u8 10))⟩,
            ⟨some 21, none, .mv true (.t 22)⟩])
          (.cond (.t 21)
           (.seq
            (.region [
              ⟨some 23, none, .mv false (.t 0)⟩,
              ⟨some 24, none, .callF 34 [.t 23] []⟩])
            (.seq
             (.region [
               ⟨some 25, none, .mv false (.t 0)⟩,
               ⟨some 26, none, .nck (.t 25)⟩,
               ⟨some 27, none, .fad 2 (.t 26)⟩,
               ⟨none, none, .sto 1 (.t 27) (.c (.bool true))⟩])
             (.seq
              (.region [
                ⟨some 4, none, .mv true (.c .nilf)⟩])
              .ret)))
           (.seq
            (.region [
              ⟨some 29, none, .bin .eql (.t 5) (.c (.int .u8 13))⟩,
              ⟨some 28, none, .mv true (.t 29)⟩])
            (.cond (.t 28)
             (.seq
              (.region [
                ⟨some 30, none, .mv false (.t 0)⟩,
                ⟨some 31, none, .mkf (.func 76) [.t 30] []⟩,
                ⟨some 4, none, .mv true (.t 31)⟩])
              .ret)
             .skip))))))))
     (.seq
      (.region [
        ⟨some 32, none, .mv false (.t 0)⟩,
        ⟨some 33, none, .mv false (.t 1)⟩,
        ⟨some 34, none, .callF 69 [.t 32, .t 33] []⟩,
        ⟨some 4, none, .mv true (.t 34)⟩])
      .ret))⟩
theorem t68 : compF Tryd.prog {} 68 = some p68 := by kernel_rfl
def p69 : PFn :=
  ⟨10, [.t 4], .seq
    (.region [
      ⟨some 4, none, .mv true (.c .nilf)⟩])
    (.seq
     (.region [
       ⟨some 5, none, .mv false (.t 0)⟩,
       ⟨some 6, none, .nck (.t 5)⟩,
       ⟨some 7, none, .fad 3 (.t 6)⟩,
       ⟨none, none, .sto 1 (.t 7) (.c (.int .i64 3))⟩])
     (.seq
      (.region [
        ⟨some 8, none, .mv false (.t 0)⟩,
        ⟨some 9, none, .mkf (.func 69) [.t 8] []⟩,
        ⟨some 4, none, .mv true (.t 9)⟩])
      .ret))⟩
theorem t69 : compF Tryd.prog {} 69 = some p69 := by kernel_rfl
def p71 : PFn :=
  ⟨40, [.t 2, .t 3], .seq
    (.region [
      ⟨some 2, none, .mv true (.c (.int .u32 0))⟩,
      ⟨some 3, none, .mv true (.c (.int .u32 0))⟩])
    (.seq
     (.region [
       ⟨some 4, none, .mv true (.c (.int .u32 0))⟩])
     (.seq
      (.seq
       (.region [
         ⟨some 5, none, .mv true (.c (.int .i64 0))⟩])
       (.block 0
        (.loop
         (.seq
          (.seq
           (.region [
             ⟨some 9, none, .mv false (.t 5)⟩,
             ⟨some 10, none, .mv false (.t 0)⟩,
             ⟨some 11, none, .len false (.t 10)⟩,
             ⟨some 12, none, .bin .lss (.t 9) (.t 11)⟩])
           (.cond (.t 12)
            .skip
            (.exit 0)))
          (.seq
           (.block 1
            (.region [
              ⟨some 15, none, .mv false (.t 4)⟩,
              ⟨some 16, none, .bin .mul (.t 15) (.c (.int .u32 16777619))⟩,
              ⟨some 17, none, .mv false (.t 0)⟩,
              ⟨some 18, none, .mv false (.t 5)⟩,
              ⟨some 19, none, .iad 1 (.t 17) (.t 18)⟩,
              ⟨some 20, none, .ld 1 false false (.t 19)⟩,
              ⟨some 21, none, .cvI .u32 (.t 20)⟩,
              ⟨some 22, none, .bin .add (.t 16) (.t 21)⟩,
              ⟨some 4, none, .mv true (.t 22)⟩]))
           (.region [
             ⟨some 13, none, .mv false (.t 5)⟩,
             ⟨some 14, none, .bin .add (.t 13) (.c (.int .i64 1))⟩,
             ⟨some 5, none, .mv true (.t 14)⟩]))))))
      (.seq
       (.region [
         ⟨some 6, none, .mv true (.c (.int .u32 1))⟩,
         ⟨some 7, none, .mv true (.c (.int .u32 16777619))⟩])
       (.seq
        (.seq
         (.region [
           ⟨some 23, none, .mv false (.t 0)⟩,
           ⟨some 24, none, .len false (.t 23)⟩,
           ⟨some 8, none, .mv true (.t 24)⟩])
         (.block 2
          (.loop
           (.seq
            (.seq
             (.region [
               ⟨some 25, none, .mv false (.t 8)⟩,
               ⟨some 26, none, .bin .gtr (.t 25) (.c (.int .i64 0))⟩])
             (.cond (.t 26)
              .skip
              (.exit 2)))
            (.seq
             (.block 3
              (.seq
               (.seq
                (.region [
                  ⟨some 29, none, .mv false (.t 8)⟩,
                  ⟨some 30, none, .bin .and (.t 29) (.c (.int .i64 1))⟩,
                  ⟨some 31, none, .bin .neq (.t 30) (.c (.int .i64 0))⟩])
                (.cond (.t 31)
                 (.region [
                   ⟨some 32, none, .mv false (.t 6)⟩,
                   ⟨some 33, none, .mv false (.t 7)⟩,
                   ⟨some 34, none, .bin .mul (.t 32) (.t 33)⟩,
                   ⟨some 6, none, .mv true (.t 34)⟩])
                 .skip))
               (.region [
                 ⟨some 35, none, .mv false (.t 7)⟩,
                 ⟨some 36, none, .mv false (.t 7)⟩,
                 ⟨some 37, none, .bin .mul (.t 35) (.t 36)⟩,
                 ⟨some 7, none, .mv true (.t 37)⟩])))
             (.region [
               ⟨some 27, none, .mv false (.t 8)⟩,
               ⟨some 28, none, .bin .shr (.t 27) (.c (.int .u64 1))⟩,
               ⟨some 8, none, .mv true (.t 28)⟩]))))))
        (.seq
         (.region [
           ⟨some 38, none, .mv true (.t 4)⟩,
           ⟨some 39, none, .mv true (.t 6)⟩,
           ⟨some 2, none, .mv true (.t 38)⟩,
           ⟨some 3, none, .mv true (.t 39)⟩])
         .ret)))))⟩
theorem t71 : compF Tryd.prog {} 71 = some p71 := by kernel_rfl
def p72 : PFn :=
  ⟨8, [.t 4], .seq
    (.region [
      ⟨some 4, none, .mv true (.c (.int .i64 0))⟩])
    (.seq
     (.region [
       ⟨some 5, none, .mv false (.t 0)⟩,
       ⟨some 6, none, .mv false (.t 1)⟩,
       ⟨some 7, none, .callF 77 [.t 5, .t 6] []⟩,
       ⟨some 4, none, .mv true (.t 7)⟩])
     .ret)⟩
theorem t72 : compF Tryd.prog {} 72 = some p72 := by kernel_rfl
def p75 : PFn :=
  ⟨81, [.t 4], .seq
    (.region [
      ⟨some 4, none, .mv true (.c (.int .i64 0))⟩])
    (.seq
     (.region [
       ⟨some 12, none, .mv false (.t 1)⟩,
       ⟨some 13, none, .callF 78 [.t 12] []⟩,
       ⟨some 11, none, .mv true (.t 13)⟩,
       ⟨some 14, none, .ext false (.t 11) 0⟩,
       ⟨some 15, none, .ext false (.t 11) 1⟩,
       ⟨some 5, none, .mv true (.t 14)⟩,
       ⟨some 6, none, .mv true (.t 15)⟩])
     (.seq
      (.region [
        ⟨some 16, none, .mv false (.t 1)⟩,
        ⟨some 17, none, .len true (.t 16)⟩,
        ⟨some 7, none, .mv true (.t 17)⟩])
      (.seq
       (.region [
         ⟨some 8, none, .mv true (.c (.int .u32 0))⟩])
       (.seq
        (.seq
         (.region [
           ⟨some 9, none, .mv true (.c (.int .i64 0))⟩])
         (.block 0
          (.loop
           (.seq
            (.seq
             (.region [
               ⟨some 18, none, .mv false (.t 9)⟩,
               ⟨some 19, none, .mv false (.t 7)⟩,
               ⟨some 20, none, .bin .lss (.t 18) (.t 19)⟩])
             (.cond (.t 20)
              .skip
              (.exit 0)))
            (.seq
             (.block 1
              (.region [
                ⟨some 23, none, .mv false (.t 8)⟩,
                ⟨some 24, none, .bin .mul (.t 23) (.c (.int .u32 16777619))⟩,
                ⟨some 25, none, .mv false (.t 0)⟩,
                ⟨some 26, none, .mv false (.t 9)⟩,
                ⟨some 27, none, .idx (.t 25) (.t 26)⟩,
                ⟨some 28, none, .cvI .u32 (.t 27)⟩,
                ⟨some 29, none, .bin .add (.t 24) (.t 28)⟩,
                ⟨some 8, none, .mv true (.t 29)⟩]))
             (.region [
               ⟨some 21, none, .mv false (.t 9)⟩,
               ⟨some 22, none, .bin .add (.t 21) (.c (.int .i64 1))⟩,
               ⟨some 9, none, .mv true (.t 22)⟩]))))))
        (.seq
         (.seq
          (.region [
            ⟨some 30, none, .mv false (.t 8)⟩,
            ⟨some 31, none, .mv false (.t 5)⟩,
            ⟨some 32, none, .bin .eql (.t 30) (.t 31)⟩,
            ⟨some 33, none, .mv false (.t 32)⟩,
            ⟨some 34, some (33, true), .mv false (.t 0)⟩,
            ⟨some 35, some (33, true), .mv false (.t 7)⟩,
            ⟨some 36, some (33, true), .sls (.t 34) none (some (.t 35))⟩,
            ⟨some 37, some (33, true), .mv false (.t 1)⟩,
            ⟨some 38, some (33, true), .bin .eql (.t 36) (.t 37)⟩,
            ⟨some 39, none, .pick (.t 33) (.t 38) (.c (.bool false))⟩])
          (.cond (.t 39)
           (.seq
            (.region [
              ⟨some 4, none, .mv true (.c (.int .i64 0))⟩])
            .ret)
           .skip))
         (.seq
          (.seq
           (.region [
             ⟨some 40, none, .mv true (.t 7)⟩,
             ⟨some 10, none, .mv true (.t 40)⟩])
           (.block 2
            (.loop
             (.seq
              (.seq
               (.region [
                 ⟨some 41, none, .mv false (.t 10)⟩,
                 ⟨some 42, none, .mv false (.t 0)⟩,
                 ⟨some 43, none, .len true (.t 42)⟩,
                 ⟨some 44, none, .bin .lss (.t 41) (.t 43)⟩])
               (.cond (.t 44)
                .skip
                (.exit 2)))
              (.block 3
               (.seq
                (.region [
                  ⟨some 45, none, .mv false (.t 8)⟩,
                  ⟨some 46, none, .bin .mul (.t 45) (.c (.int .u32 16777619))⟩,
                  ⟨some 8, none, .mv true (.t 46)⟩])
                (.seq
                 (.region [
                   ⟨some 47, none, .mv false (.t 8)⟩,
                   ⟨some 48, none, .mv false (.t 0)⟩,
                   ⟨some 49, none, .mv false (.t 10)⟩,
                   ⟨some 50, none, .idx (.t 48) (.t 49)⟩,
                   ⟨some 51, none, .cvI .u32 (.t 50)⟩,
                   ⟨some 52, none, .bin .add (.t 47) (.t 51)⟩,
                   ⟨some 8, none, .mv true (.t 52)⟩])
                 (.seq
                  (.region [
                    ⟨some 53, none, .mv false (.t 8)⟩,
                    ⟨some 54, none, .mv false (.t 6)⟩,
                    ⟨some 55, none, .mv false (.t 0)⟩,
                    ⟨some 56, none, .mv false (.t 10)⟩,
                    ⟨some 57, none, .mv false (.t 7)⟩,
                    ⟨some 58, none, .bin .sub (.t 56) (.t 57)⟩,
                    ⟨some 59, none, .idx (.t 55) (.t 58)⟩,
                    ⟨some 60, none, .cvI .u32 (.t 59)⟩,
                    ⟨some 61, none, .bin .mul (.t 54) (.t 60)⟩,
                    ⟨some 62, none, .bin .sub (.t 53) (.t 61)⟩,
                    ⟨some 8, none, .mv true (.t 62)⟩])
                  (.seq
                   (.region [
                     ⟨some 63, none, .mv false (.t 10)⟩,
                     ⟨some 64, none, .bin .add (.t 63) (.c (.int .i64 1))⟩,
                     ⟨some 10, none, .mv true (.t 64)⟩])
                   (.seq
                    (.region [
                      ⟨some 65, none, .mv false (.t 8)⟩,
                      ⟨some 66, none, .mv false (.t 5)⟩,
                      ⟨some 67, none, .bin .eql (.t 65) (.t 66)⟩,
                      ⟨some 68, none, .mv false (.t 67)⟩,
                      ⟨some 69, some (68, true), .mv false (.t 0)⟩,
                      ⟨some 70, some (68, true), .mv false (.t 10)⟩,
                      ⟨some 71, some (68, true), .mv false (.t 7)⟩,
                      ⟨some 72, some (68, true), .bin .sub (.t 70) (.t 71)⟩,
                      ⟨some 73, some (68, true), .mv false (.t 10)⟩,
                      ⟨some 74, some (68, true), .sls (.t 69) (some (.t 72)) (some (.t 73))⟩,
                      ⟨some 75, some (68, true), .mv false (.t 1)⟩,
                      ⟨some 76, some (68, true), .bin .eql (.t 74) (.t 75)⟩,
                      ⟨some 77, none, .pick (.t 68) (.t 76) (.c (.bool false))⟩])
                    (.cond (.t 77)
                     (.seq
                      (.region [
                        ⟨some 78, none, .mv false (.t 10)⟩,
                        ⟨some 79, none, .mv false (.t 7)⟩,
                        ⟨some 80, none, .bin .sub (.t 78) (.t 79)⟩,
                        ⟨some 4, none, .mv true (.t 80)⟩])
                      .ret)
                     .skip)))))))))))
          (.seq
           (.region [
             ⟨some 4, none, .mv true (.c (.int .i64 (-1)))⟩])
           .ret)))))))⟩
theorem t75 : compF Tryd.prog {} 75 = some p75 := by kernel_rfl
def p76 : PFn :=
  ⟨13, [.t 4], .seq
    (.region [
      ⟨some 4, none, .mv true (.c .nilf)⟩])
    (.seq
     (.seq
      (.region [
        ⟨some 5, none, .mv false (.t 1)⟩,
        ⟨some 6, none, .bin .neq (.t 5) (.c (.int .u8 10))⟩])
      (.cond (.t 6)
       (.seq
        (.region [
          ⟨some 7, none, .mv false (.t 0)⟩,
          ⟨some 8, none, .mv false (.t 1)⟩,
          ⟨some 9, none, .callF 69 [.t 7, .t 8] []⟩,
          ⟨some 4, none, .mv true (.t 9)⟩])
        .ret)
       .skip))
     (.seq
      (.region [
        ⟨some 10, none, .mv false (.t 0)⟩,
        ⟨some 11, none, .mv false (.t 1)⟩,
        ⟨some 12, none, .callF 68 [.t 10, .t 11] []⟩,
        ⟨some 4, none, .mv true (.t 12)⟩])
      .ret))⟩
theorem t76 : compF Tryd.prog {} 76 = some p76 := by kernel_rfl
def p78 : PFn :=
  ⟨39, [.t 2, .t 3], .seq
    (.region [
      ⟨some 2, none, .mv true (.c (.int .u32 0))⟩,
      ⟨some 3, none, .mv true (.c (.int .u32 0))⟩])
    (.seq
     (.region [
       ⟨some 4, none, .mv true (.c (.int .u32 0))⟩])
     (.seq
      (.seq
       (.region [
         ⟨some 5, none, .mv true (.c (.int .i64 0))⟩])
       (.block 0
        (.loop
         (.seq
          (.seq
           (.region [
             ⟨some 9, none, .mv false (.t 5)⟩,
             ⟨some 10, none, .mv false (.t 0)⟩,
             ⟨some 11, none, .len true (.t 10)⟩,
             ⟨some 12, none, .bin .lss (.t 9) (.t 11)⟩])
           (.cond (.t 12)
            .skip
            (.exit 0)))
          (.seq
           (.block 1
            (.region [
              ⟨some 15, none, .mv false (.t 4)⟩,
              ⟨some 16, none, .bin .mul (.t 15) (.c (.int .u32 16777619))⟩,
              ⟨some 17, none, .mv false (.t 0)⟩,
              ⟨some 18, none, .mv false (.t 5)⟩,
              ⟨some 19, none, .idx (.t 17) (.t 18)⟩,
              ⟨some 20, none, .cvI .u32 (.t 19)⟩,
              ⟨some 21, none, .bin .add (.t 16) (.t 20)⟩,
              ⟨some 4, none, .mv true (.t 21)⟩]))
           (.region [
             ⟨some 13, none, .mv false (.t 5)⟩,
             ⟨some 14, none, .bin .add (.t 13) (.c (.int .i64 1))⟩,
             ⟨some 5, none, .mv true (.t 14)⟩]))))))
      (.seq
       (.region [
         ⟨some 6, none, .mv true (.c (.int .u32 1))⟩,
         ⟨some 7, none, .mv true (.c (.int .u32 16777619))⟩])
       (.seq
        (.seq
         (.region [
           ⟨some 22, none, .mv false (.t 0)⟩,
           ⟨some 23, none, .len true (.t 22)⟩,
           ⟨some 8, none, .mv true (.t 23)⟩])
         (.block 2
          (.loop
           (.seq
            (.seq
             (.region [
               ⟨some 24, none, .mv false (.t 8)⟩,
               ⟨some 25, none, .bin .gtr (.t 24) (.c (.int .i64 0))⟩])
             (.cond (.t 25)
              .skip
              (.exit 2)))
            (.seq
             (.block 3
              (.seq
               (.seq
                (.region [
                  ⟨some 28, none, .mv false (.t 8)⟩,
                  ⟨some 29, none, .bin .and (.t 28) (.c (.int .i64 1))⟩,
                  ⟨some 30, none, .bin .neq (.t 29) (.c (.int .i64 0))⟩])
                (.cond (.t 30)
                 (.region [
                   ⟨some 31, none, .mv false (.t 6)⟩,
                   ⟨some 32, none, .mv false (.t 7)⟩,
                   ⟨some 33, none, .bin .mul (.t 31) (.t 32)⟩,
                   ⟨some 6, none, .mv true (.t 33)⟩])
                 .skip))
               (.region [
                 ⟨some 34, none, .mv false (.t 7)⟩,
                 ⟨some 35, none, .mv false (.t 7)⟩,
                 ⟨some 36, none, .bin .mul (.t 34) (.t 35)⟩,
                 ⟨some 7, none, .mv true (.t 36)⟩])))
             (.region [
               ⟨some 26, none, .mv false (.t 8)⟩,
               ⟨some 27, none, .bin .shr (.t 26) (.c (.int .u64 1))⟩,
               ⟨some 8, none, .mv true (.t 27)⟩]))))))
        (.seq
         (.region [
           ⟨some 37, none, .mv true (.t 4)⟩,
           ⟨some 38, none, .mv true (.t 6)⟩,
           ⟨some 2, none, .mv true (.t 37)⟩,
           ⟨some 3, none, .mv true (.t 38)⟩])
         .ret)))))⟩
theorem t78 : compF Tryd.prog {} 78 = some p78 := by kernel_rfl
def p100 : PFn :=
  ⟨6, [], .region [
     ⟨some 0, none, .build [.int .u8 0, .int .u8 0] [(0, (1, .c (.int .u8 128))), (1, (1, .c (.int .u8 191)))]⟩,
     ⟨some 1, none, .build [.int .u8 0, .int .u8 0] [(0, (1, .c (.int .u8 160))), (1, (1, .c (.int .u8 191)))]⟩,
     ⟨some 2, none, .build [.int .u8 0, .int .u8 0] [(0, (1, .c (.int .u8 128))), (1, (1, .c (.int .u8 159)))]⟩,
     ⟨some 3, none, .build [.int .u8 0, .int .u8 0] [(0, (1, .c (.int .u8 144))), (1, (1, .c (.int .u8 191)))]⟩,
     ⟨some 4, none, .build [.int .u8 0, .int .u8 0] [(0, (1, .c (.int .u8 128))), (1, (1, .c (.int .u8 143)))]⟩,
     ⟨some 5, none, .bad⟩,
     ⟨none, none, .bad⟩]⟩
theorem t100 : compF Tryd.prog {} 100 = some p100 := by kernel_rfl
def p67l : PFn :=
  ⟨23, [], .seq
    (.region [
      ⟨some 4, none, .mv false (.t 0)⟩,
      ⟨some 5, none, .mv false (.t 0)⟩,
      ⟨some 6, none, .nck (.t 5)⟩,
      ⟨some 7, none, .fad 1 (.t 6)⟩,
      ⟨some 8, none, .ld 1 false true (.t 7)⟩,
      ⟨some 9, none, .mv false (.t 1)⟩,
      ⟨some 10, none, .bsl 1 1 false [.int .u8 0] [(0, .t 9)] false⟩,
      ⟨some 11, none, .app 1 1 (.t 8) (.t 10)⟩,
      ⟨some 12, none, .nck (.t 4)⟩,
      ⟨some 13, none, .fad 1 (.t 12)⟩,
      ⟨none, none, .sto 1 (.t 13) (.t 11)⟩])
    (.seq
     (.region [
       ⟨some 14, none, .mv false (.t 0)⟩,
       ⟨some 15, none, .nck (.t 14)⟩,
       ⟨some 16, none, .fad 1 (.t 15)⟩,
       ⟨some 17, none, .ld 1 false false (.t 16)⟩,
       ⟨some 18, none, .len false (.t 17)⟩,
       ⟨some 19, none, .bin .gtr (.t 18) (.c (.int .i64 1000))⟩])
     (.cond (.t 19)
      (.region [
        ⟨some 20, none, .mv false (.t 0)⟩,
        ⟨some 21, none, .nck (.t 20)⟩,
        ⟨some 22, none, .fad 3 (.t 21)⟩,
        ⟨none, none, .sto 1 (.t 22) (.c (.int .i64 5))⟩])
      .skip))⟩
theorem t67l : compF Tryd.prog { loads := [8] } 67 = some p67l := by kernel_rfl
def p34l : PFn :=
  ⟨19, [], .draw [
     ⟨some 2, none, .mv false (.t 0)⟩,
     ⟨some 3, none, .mv false (.t 0)⟩,
     ⟨some 4, none, .mv false (.t 0)⟩,
     ⟨some 5, none, .nck (.t 4)⟩,
     ⟨some 6, none, .fad 0 (.t 5)⟩,
     ⟨some 7, none, .ld 1 false true (.t 6)⟩,
     ⟨some 8, none, .mv false (.t 0)⟩,
     ⟨some 9, none, .nck (.t 8)⟩,
     ⟨some 10, none, .fad 1 (.t 9)⟩,
     ⟨some 11, none, .ld 1 false false (.t 10)⟩,
     ⟨some 12, none, .cvS (.t 11)⟩,
     ⟨some 13, none, .bsl 1 1 false [.str []] [(0, .t 12)] false⟩,
     ⟨some 14, none, .app 1 16 (.t 7) (.t 13)⟩,
     ⟨some 15, none, .nck (.t 2)⟩,
     ⟨some 16, none, .fad 0 (.t 15)⟩,
     ⟨none, none, .sto 1 (.t 16) (.t 14)⟩,
     ⟨some 17, none, .nck (.t 3)⟩,
     ⟨some 18, none, .fad 1 (.t 17)⟩,
     ⟨none, none, .sto 1 (.t 18) (.c (.lst 0 [] true))⟩] [(9, 5)]⟩
theorem t34l : compF Tryd.prog { loads := [7] } 34 = some p34l := by kernel_rfl
def tab : List (Nat × PFn) := [(2, p2), (3, p3), (4, p4), (5, p5), (6, p6), (7, p7), (8, p8), (9, p9), (10, p10), (11, p11), (12, p12), (13, p13), (14, p14), (15, p15), (16, p16), (17, p17), (18, p18), (19, p19), (20, p20), (21, p21), (22, p22), (23, p23), (24, p24), (25, p25), (26, p26), (27, p27), (28, p28), (29, p29), (30, p30), (31, p31), (32, p32), (33, p33), (34, p34), (35, p35), (36, p36), (37, p37), (38, p38), (40, p40), (42, p42), (43, p43), (44, p44), (45, p45), (46, p46), (47, p47), (48, p48), (49, p49), (50, p50), (51, p51), (52, p52), (53, p53), (54, p54), (56, p56), (57, p57), (58, p58), (59, p59), (63, p63), (64, p64), (65, p65), (66, p66), (67, p67), (68, p68), (69, p69), (71, p71), (72, p72), (75, p75), (76, p76), (78, p78), (100, p100)]
theorem tabOk : TabOk Tryd.prog tab := .cons t2 <| .cons t3 <| .cons t4 <| .cons t5 <| .cons t6 <| .cons t7 <| .cons t8 <| .cons t9 <| .cons t10 <| .cons t11 <| .cons t12 <| .cons t13 <| .cons t14 <| .cons t15 <| .cons t16 <| .cons t17 <| .cons t18 <| .cons t19 <| .cons t20 <| .cons t21 <| .cons t22 <| .cons t23 <| .cons t24 <| .cons t25 <| .cons t26 <| .cons t27 <| .cons t28 <| .cons t29 <| .cons t30 <| .cons t31 <| .cons t32 <| .cons t33 <| .cons t34 <| .cons t35 <| .cons t36 <| .cons t37 <| .cons t38 <| .cons t40 <| .cons t42 <| .cons t43 <| .cons t44 <| .cons t45 <| .cons t46 <| .cons t47 <| .cons t48 <| .cons t49 <| .cons t50 <| .cons t51 <| .cons t52 <| .cons t53 <| .cons t54 <| .cons t56 <| .cons t57 <| .cons t58 <| .cons t59 <| .cons t63 <| .cons t64 <| .cons t65 <| .cons t66 <| .cons t67 <| .cons t68 <| .cons t69 <| .cons t71 <| .cons t72 <| .cons t75 <| .cons t76 <| .cons t78 <| .cons t100 <| .nil
theorem hmix : Tryd.prog.follows .mixedOrders = true := by kernel_rfl
theorem good (n d : Nat) : Good Tryd.prog (evF (tabOf tab) noPrim n d) := evF_sound hmix tabOk noPrim_good d
end Go.Proofs.YtdphjapaoaokmaaDoor.E
/- What a call that makes a value comes to, over the model itself. -/
namespace Go.Proofs.YtdphjapaoaokmaaDoor.E
open Go Go.RowKit Go.Proofs
set_option linter.unusedVariables false
set_option linter.unusedSimpArgs false
/-- What a call that makes a value comes to. -/
theorem spec_step {P : Program} {f : Nat} {args : List PV} {r : PV} (hc : callable P f = true) (h : ∀ (out : List Nat) (w : World) (g : Ghost) (vals : Array Value), WRel out w g → VRl true w g args vals.toList →
    Calls P f vals w fun e w' => ∃ v g', e = .returned v ∧ Step [] w g w' g' r v) : PSpec P f args r := by
  refine fun H => ⟨trivial, fun out w g vals hw hH hV hun => .inl ⟨hc, (h out w g vals hw hV).mono ?_⟩⟩
  rintro e w' ⟨v, g', rfl, hs⟩
  have hlt : ∀ b f, g b = .tail f → b < w.heap.size := fun b f hf => hw.lt (by rw [hf]; simp)
  have hE : Evol (out ++ toksH w H) w g w' g' := hs.toStep0.evol (by simp) fun b hb => by
    refine ⟨?_, by simp⟩
    rcases List.mem_append.1 hb with hb | hb
    · obtain ⟨f, hf⟩ := hw.outT b hb; exact hlt b f hf
    · obtain ⟨f, hf⟩ := toksH_tail hH b hb; exact hlt b f hf
  have hm : ∀ b, g b = .mut → w'.heap[b]? = w.heap[b]? ∧ g' b = .mut := fun b hb => by
    obtain ⟨k1, k2⟩ := hs.old b (hw.lt (by rw [hb]; simp)) (by simp)
    exact ⟨k1, k2.trans hb⟩
  obtain ⟨hH', hT⟩ := HRel.keep hE hm hH (fun b hb => List.mem_append_right _ hb)
  refine ⟨v, r, H, g', rfl, ⟨rfl, rfl⟩, hs.toStep0.wrel hw (by simp), hH', hs.rv, fun b => ?_, hE.sub (fun b hb => List.mem_append_left _ hb)⟩
  rw [hT]
  have h1 := hun b
  have h2 := hs.rt b
  by_cases hb : b ∈ toks r v
  · rcases hs.rs b hb with hm | hm
    · cases hm
    · have z1 : (toksH w H).count b = 0 := count_mem_zero fun hh => by obtain ⟨f, hf⟩ := toksH_tail hH b hh; have := hlt b f hf; omega
      have z2 : out.count b = 0 := count_mem_zero fun hh => by obtain ⟨f, hf⟩ := hw.outT b hh; have := hlt b f hf; omega
      omega
  · have := count_mem_zero hb
    omega
end Go.Proofs.YtdphjapaoaokmaaDoor.E
/- Bytes as data: turned into strings, and cloned. -/
namespace Go.Proofs.YtdphjapaoaokmaaDoor.E
open Go Go.RowKit Go.Proofs
set_option linter.unusedVariables false
set_option linter.unusedSimpArgs false
theorem ci_u8 (l : List Nat) : (ci l).map (PV.int .u8) = l.map u8 := by simp [ci, Function.comp_def, u8]
theorem ci_len (l : List Nat) : (ci l).length = l.length := List.length_map ..
attribute [simp] ci_u8 ci_len
theorem toInts_u8 : ∀ l : List Nat, toInts (l.map u8) = some (ci l)
  | [] => rfl
  | x :: l => by simp [toInts, toInts_u8 l, ci]
theorem norm_ci {l : List Nat} (hw : ∀ x ∈ l, x < 256) : (ci l).map norm8 = ci l := by
  simp only [ci, List.map_map]
  refine List.map_congr_left fun x hx => ?_
  have := hw x hx
  simp only [Function.comp_apply]
  exact norm8_of (by omega)
theorem cvS_u8 {s : Nat} {xs : List PV} {o : Bool} {l : List Nat} (hx : xs = l.map u8) (hs : s = 1 ∨ l.length = 0) (hw : ∀ x ∈ l, x < 256) : cvSP (.lst s xs o) = some (.str (ci l)) := by
  subst hx
  have h1 : s = 1 ∨ (l.map u8).isEmpty = true := hs.imp id fun h => by rw [List.length_eq_zero_iff.1 h]; rfl
  simp only [cvSP, if_pos h1, toInts_u8, Option.map_some, norm_ci hw]
theorem ci_iff {a b : List Nat} : ci a = ci b ↔ a = b := ⟨ci_inj, fun h => by rw [h]⟩
attribute [simp] ci_iff ci_nil
end Go.Proofs.YtdphjapaoaokmaaDoor.E
/- The same texts, the same records. -/
namespace Go.Proofs.YtdphjapaoaokmaaDoor.E
open Go Go.RowKit Go.Proofs
set_option linter.unusedVariables false
set_option linter.unusedSimpArgs false
theorem mixS : Tryd.prog.follows .mixedOrders = true := by kernel_rfl
def sV (t : List Nat) : PV := .str (ci t)
def rowsC (l : List (List (List Nat))) : List PV := l.map fun r => .lst 1 (r.map sV) false
theorem strsSame_ok {r : List (List Nat)} (hl : r.length ≤ 1000000) {o q : Bool} : PSpec Tryd.prog 25 [.lst 1 (r.map sV) o, .lst 1 (r.map sV) q] (.bool true) := by
  intro H
  have hmix := mixS
  refine spec_of t25 (by simp [p25]) ?_
  simp only [p25]
  first | refine pwp_sr ?_ | refine pwp_regionM ?_
  intro K hK
  simp (disch := first | (refine Ok.mk ?_; (try simp only [Lm, La, Lc, Ln, Lt, Ld, Lr, Li, true_or, or_true, true_and, and_true]); omega) | (simp <;> fail) | skip) [runM_nil]
  refine hK _ _ ?_
  clear hK K
  refine pwp_seq ?_
  first | refine pwp_sr ?_ | refine pwp_regionM ?_
  intro K hK
  simp (disch := first | (refine Ok.mk ?_; (try simp only [Lm, La, Lc, Ln, Lt, Ld, Lr, Li, true_or, or_true, true_and, and_true]); omega) | (simp <;> fail) | skip) [runM_nil]
  refine hK _ _ ?_
  clear hK K
  refine pwp_cF (by simp) (pwp_skip ?_)
  refine pwp_seq (pwp_seq ?_)
  first | refine pwp_sr ?_ | refine pwp_regionM ?_
  intro K hK
  simp (disch := first | (refine Ok.mk ?_; (try simp only [Lm, La, Lc, Ln, Lt, Ld, Lr, Li, true_or, or_true, true_and, and_true]); omega) | (simp <;> fail) | skip) [runM_nil]
  refine hK _ _ ?_
  clear hK K
  refine pwp_block ?_
  refine pwp_loopK [0, 1, 5] (fun m st H' => ∃ i, i ≤ r.length ∧ m = r.length - i ∧ H' = H ∧ st = MS 26 [(0, .lst 1 (r.map sV) o), (1, .lst 1 (r.map sV) q), (5, .int .i64 i)]) (n := r.length)
    ⟨_, .refl _, 0, Nat.zero_le _, rfl, rfl, by simp [keepL_MS, keepA, getS]⟩ ?_
  rintro m st H1 ⟨i, hi, rfl, rfl, rfl⟩
  by_cases hlt : i < r.length
  · have g1 : r[i]? = some r[i] := List.getElem?_eq_getElem hlt
    generalize r[i] = e at *
    refine pwp_seq ?_
    first | refine pwp_sr ?_ | refine pwp_regionM ?_
    intro K hK
    simp (disch := first | (refine Ok.mk ?_; (try simp only [Lm, La, Lc, Ln, Lt, Ld, Lr, Li, true_or, or_true, true_and, and_true]); omega) | (simp <;> fail) | skip) [runM_nil]
    refine hK _ _ ?_
    clear hK K
    refine pwp_cT (by simp) (pwp_skip ?_)
    refine pwp_seq (pwp_block ?_)
    first | refine pwp_sd hmix ?_ | refine pwp_drawM hmix ?_
    intro K hK
    simp (disch := first | (refine Ok.mk ?_; (try simp only [Lm, La, Lc, Ln, Lt, Ld, Lr, Li, true_or, or_true, true_and, and_true]); omega) | (simp <;> fail) | skip) [runM_nil, g1, sV, strP]
    refine hK _ _ ?_
    clear hK K
    refine pwp_cF (by simp) (pwp_skip ?_)
    first | refine pwp_sr ?_ | refine pwp_regionM ?_
    intro K hK
    simp (disch := first | (refine Ok.mk ?_; (try simp only [Lm, La, Lc, Ln, Lt, Ld, Lr, Li, true_or, or_true, true_and, and_true]); omega) | (simp <;> fail) | skip) [runM_nil]
    refine hK _ _ ?_
    clear hK K
    exact ⟨r.length - (i + 1), by omega, _, .refl _, i + 1, by omega, rfl, rfl, by simp [keepL_MS, keepA, getS]⟩
  · obtain rfl : i = r.length := by omega
    refine pwp_seq ?_
    first | refine pwp_sr ?_ | refine pwp_regionM ?_
    intro K hK
    simp (disch := first | (refine Ok.mk ?_; (try simp only [Lm, La, Lc, Ln, Lt, Ld, Lr, Li, true_or, or_true, true_and, and_true]); omega) | (simp <;> fail) | skip) [runM_nil]
    refine hK _ _ ?_
    clear hK K
    refine pwp_cF (by simp) (pwp_exit ?_)
    first | refine pwp_sr ?_ | refine pwp_regionM ?_
    intro K hK
    simp (disch := first | (refine Ok.mk ?_; (try simp only [Lm, La, Lc, Ln, Lt, Ld, Lr, Li, true_or, or_true, true_and, and_true]); omega) | (simp <;> fail) | skip) [runM_nil]
    refine hK _ _ ?_
    clear hK K
    refine pwp_ret ⟨.inr rfl, _, _, (by simp (disch := first | (refine Ok.mk ?_; (try simp only [Lm, La, Lc, Ln, Lt, Ld, Lr, Li, true_or, or_true, true_and, and_true]); omega) | (simp <;> fail) | skip) [runM_nil, resL]; rfl), .refl _, by simp (disch := first | (refine Ok.mk ?_; (try simp only [Lm, La, Lc, Ln, Lt, Ld, Lr, Li, true_or, or_true, true_and, and_true]); omega) | (simp <;> fail) | skip) [resV], rfl⟩
theorem recsSame_ok {l : List (List (List Nat))} (hl : l.length ≤ 1000000) (hr : ∀ r ∈ l, r.length ≤ 1000000) {o q : Bool} : PSpec Tryd.prog 10 [.lst 1 (rowsC l) o, .lst 1 (rowsC l) q] (.bool true) := by
  intro H
  have hmix := mixS
  have hrl : (rowsC l).length = l.length := by simp [rowsC]
  have hge : ∀ i (h : i < l.length), (rowsC l)[i]? = some (.lst 1 (l[i].map sV) false) := fun i h => by rw [rowsC, List.getElem?_map, List.getElem?_eq_getElem h]; rfl
  refine spec_of t10 (by simp [p10]) ?_
  simp only [p10]
  generalize rowsC l = es at *
  first | refine pwp_sr ?_ | refine pwp_regionM ?_
  intro K hK
  simp (disch := first | (refine Ok.mk ?_; (try simp only [Lm, La, Lc, Ln, Lt, Ld, Lr, Li, true_or, or_true, true_and, and_true]); omega) | (simp <;> fail) | skip) [runM_nil]
  refine hK _ _ ?_
  clear hK K
  refine pwp_seq ?_
  first | refine pwp_sr ?_ | refine pwp_regionM ?_
  intro K hK
  simp (disch := first | (refine Ok.mk ?_; (try simp only [Lm, La, Lc, Ln, Lt, Ld, Lr, Li, true_or, or_true, true_and, and_true]); omega) | (simp <;> fail) | skip) [runM_nil, hrl]
  refine hK _ _ ?_
  clear hK K
  refine pwp_cF (by simp) (pwp_skip ?_)
  refine pwp_seq (pwp_seq ?_)
  first | refine pwp_sr ?_ | refine pwp_regionM ?_
  intro K hK
  simp (disch := first | (refine Ok.mk ?_; (try simp only [Lm, La, Lc, Ln, Lt, Ld, Lr, Li, true_or, or_true, true_and, and_true]); omega) | (simp <;> fail) | skip) [runM_nil]
  refine hK _ _ ?_
  clear hK K
  refine pwp_block ?_
  refine pwp_loopK [0, 1, 5] (fun m st H' => ∃ i, i ≤ l.length ∧ m = l.length - i ∧ H' = H ∧ st = MS 27 [(0, .lst 1 es o), (1, .lst 1 es q), (5, .int .i64 i)]) (n := l.length)
    ⟨_, .refl _, 0, Nat.zero_le _, rfl, rfl, by simp [keepL_MS, keepA, getS]⟩ ?_
  rintro m st H1 ⟨i, hi, rfl, rfl, rfl⟩
  by_cases hlt : i < l.length
  · have g1 := hge i hlt
    have c := strsSame_ok (hr _ (List.getElem_mem hlt)) (o := false) (q := false)
    generalize l[i] = e at *
    refine pwp_seq ?_
    first | refine pwp_sr ?_ | refine pwp_regionM ?_
    intro K hK
    simp (disch := first | (refine Ok.mk ?_; (try simp only [Lm, La, Lc, Ln, Lt, Ld, Lr, Li, true_or, or_true, true_and, and_true]); omega) | (simp <;> fail) | skip) [runM_nil, hrl]
    refine hK _ _ ?_
    clear hK K
    refine pwp_cT (by simp) (pwp_skip ?_)
    refine pwp_seq (pwp_block ?_)
    first | refine pwp_sd hmix ?_ | refine pwp_drawM hmix ?_
    intro K hK
    simp (disch := first | (refine Ok.mk ?_; (try simp only [Lm, La, Lc, Ln, Lt, Ld, Lr, Li, true_or, or_true, true_and, and_true]); omega) | (simp <;> fail) | skip) [runM_nil, g1, hrl]
    refine useD (c) ?_
    simp (disch := first | (refine Ok.mk ?_; (try simp only [Lm, La, Lc, Ln, Lt, Ld, Lr, Li, true_or, or_true, true_and, and_true]); omega) | (simp <;> fail) | skip) [runM_nil, g1, hrl]
    refine hK _ _ ?_
    clear hK K
    refine pwp_cF (by simp) (pwp_skip ?_)
    first | refine pwp_sr ?_ | refine pwp_regionM ?_
    intro K hK
    simp (disch := first | (refine Ok.mk ?_; (try simp only [Lm, La, Lc, Ln, Lt, Ld, Lr, Li, true_or, or_true, true_and, and_true]); omega) | (simp <;> fail) | skip) [runM_nil]
    refine hK _ _ ?_
    clear hK K
    exact ⟨l.length - (i + 1), by omega, _, .refl _, i + 1, by omega, rfl, rfl, by simp [keepL_MS, keepA, getS]⟩
  · obtain rfl : i = l.length := by omega
    refine pwp_seq ?_
    first | refine pwp_sr ?_ | refine pwp_regionM ?_
    intro K hK
    simp (disch := first | (refine Ok.mk ?_; (try simp only [Lm, La, Lc, Ln, Lt, Ld, Lr, Li, true_or, or_true, true_and, and_true]); omega) | (simp <;> fail) | skip) [runM_nil, hrl]
    refine hK _ _ ?_
    clear hK K
    refine pwp_cF (by simp) (pwp_exit ?_)
    first | refine pwp_sr ?_ | refine pwp_regionM ?_
    intro K hK
    simp (disch := first | (refine Ok.mk ?_; (try simp only [Lm, La, Lc, Ln, Lt, Ld, Lr, Li, true_or, or_true, true_and, and_true]); omega) | (simp <;> fail) | skip) [runM_nil]
    refine hK _ _ ?_
    clear hK K
    refine pwp_ret ⟨.inr rfl, _, _, (by simp (disch := first | (refine Ok.mk ?_; (try simp only [Lm, La, Lc, Ln, Lt, Ld, Lr, Li, true_or, or_true, true_and, and_true]); omega) | (simp <;> fail) | skip) [runM_nil, resL]; rfl), .refl _, by simp (disch := first | (refine Ok.mk ?_; (try simp only [Lm, La, Lc, Ln, Lt, Ld, Lr, Li, true_or, or_true, true_and, and_true]); omega) | (simp <;> fail) | skip) [resV], rfl⟩
end Go.Proofs.YtdphjapaoaokmaaDoor.E
/- The shelf's contracts on texts as contracts on data. -/
namespace Go.Proofs.YtdphjapaoaokmaaDoor.E
open Go Go.RowKit Go.Proofs
set_option linter.unusedVariables false
set_option linter.unusedSimpArgs false
-- (as spec_step of CT, the library's numbers known)
theorem spec_stepG {P : Program} {f : Nat} {args : List PV} {r : PV} (hc : callable P f = true) (h : ∀ (out : List Nat) (w : World) (g : Ghost) (vals : Array Value), WRel out w g → GL w g → VRl true w g args vals.toList →
    Calls P f vals w fun e w' => ∃ v g', e = .returned v ∧ Step [] w g w' g' r v) : PSpec P f args r := by
  refine fun H => ⟨trivial, fun out w g vals hw hH hV hun => .inl ⟨hc, (h out w g vals hw hH.gl hV).mono ?_⟩⟩
  rintro e w' ⟨v, g', rfl, hs⟩
  have hlt : ∀ b f, g b = .tail f → b < w.heap.size := fun b f hf => hw.lt (by rw [hf]; simp)
  have hE : Evol (out ++ toksH w H) w g w' g' := hs.toStep0.evol (by simp) fun b hb => by
    refine ⟨?_, by simp⟩
    rcases List.mem_append.1 hb with hb | hb
    · obtain ⟨f, hf⟩ := hw.outT b hb; exact hlt b f hf
    · obtain ⟨f, hf⟩ := toksH_tail hH b hb; exact hlt b f hf
  have hm : ∀ b, g b = .mut → w'.heap[b]? = w.heap[b]? ∧ g' b = .mut := fun b hb => by
    obtain ⟨k1, k2⟩ := hs.old b (hw.lt (by rw [hb]; simp)) (by simp)
    exact ⟨k1, k2.trans hb⟩
  obtain ⟨hH', hT⟩ := HRel.keep hE hm hH (fun b hb => List.mem_append_right _ hb)
  refine ⟨v, r, H, g', rfl, ⟨rfl, rfl⟩, hs.toStep0.wrel hw (by simp), hH', hs.rv, fun b => ?_, hE.sub (fun b hb => List.mem_append_left _ hb)⟩
  rw [hT]
  have h1 := hun b
  have h2 := hs.rt b
  by_cases hb : b ∈ toks r v
  · rcases hs.rs b hb with hm | hm
    · cases hm
    · have z1 : (toksH w H).count b = 0 := count_mem_zero fun hh => by obtain ⟨f, hf⟩ := toksH_tail hH b hh; have := hlt b f hf; omega
      have z2 : out.count b = 0 := count_mem_zero fun hh => by obtain ⟨f, hf⟩ := hw.outT b hh; have := hlt b f hf; omega
      omega
  · have := count_mem_zero hb
    omega
/-- A call that leaves what lay below, and answers something plain. -/
theorem spec_below {P : Program} {f : Nat} {args : List PV} {r : PV} (hc : callable P f = true) (ht : ∀ v, toks r v = []) (h : ∀ (w : World) (g : Ghost) (vals : Array Value), GL w g → VRl true w g args vals.toList →
    Calls P f vals w fun e w' => ∃ v, e = .returned v ∧ Below w.heap.size w w' ∧ VR true w' g r v) : PSpec P f args r := by
  refine spec_stepG hc fun out w g vals hw hG hV => (h w g vals hG hV).mono ?_
  rintro e w' ⟨v, rfl, hB, hv⟩
  exact ⟨v, g, rfl, ⟨hB.os, hB.tape, hB.output, hB.size, fun b hb _ => ⟨hB.block b hb, rfl⟩, fun b hb => absurd hb (by simp), fun b hb => hw.fresh b (Nat.le_trans hB.size hb), fun b f hf h => by
    rcases h with h | h
    · cases h
    · rw [hw.fresh b h] at hf
      cases hf⟩, hv, by simp [ht], by simp [ht]⟩
theorem bytes_str {w : World} {g : Ghost} {o : Bool} {s : List Nat} {v : Value} (h : VR o w g (.str (ci s)) v) : ∃ t : ByteArray, v = .string t ∧ t.data.toList.map (fun c => c.toNat) = s ∧ t.size = s.length := by
  obtain ⟨t, rfl, ht⟩ := h
  have h1 : t.data.toList.map (fun c => c.toNat) = s := by
    have : (t.data.toList.map fun c => c.toNat).map (fun (n : Nat) => (n : Int)) = s.map (fun (n : Nat) => (n : Int)) := by rw [List.map_map]; exact ht
    exact ci_inj this
  refine ⟨t, rfl, h1, ?_⟩
  rw [← h1, List.length_map]
  exact Lib.size_eq t
theorem containsAny_any (l c : List UInt8) : Lib.containsAny l c = (l.map fun x => x.toNat).any ((c.map fun x => x.toNat).contains ·) := by
  have hc : ∀ x : UInt8, (c.map fun x => x.toNat).contains x.toNat = c.contains x := fun x => by
    rw [Bool.eq_iff_iff]
    simp only [List.contains_iff_mem, List.mem_map]
    exact ⟨fun ⟨y, h1, h2⟩ => by rwa [UInt8.toNat_inj.1 h2] at h1, fun h => ⟨x, h, rfl⟩⟩
  induction l with
  | nil => rfl
  | cons x l ih =>
    have hg := Lib.indexAny_ge c l
    simp only [List.map_cons, List.any_cons, hc, ← ih]
    unfold Lib.containsAny
    rw [Lib.indexAny]
    cases hx : c.contains x with
    | true => simp
    | false =>
      simp only [Bool.false_eq_true, if_false, Bool.false_or]
      split
      · rename_i h; rw [beq_iff_eq.1 h]
      · rename_i h
        have : ¬ Lib.indexAny l c = -1 := fun e => h (by rw [e]; rfl)
        rw [decide_eq_true (by omega), decide_eq_true (by omega)]
theorem containsAny_ok {s c : List Nat} (hs : s.length ≤ 1000000) (hc : 2 ≤ c.length) (hc2 : c.length ≤ 1000) (hc3 : ∀ x ∈ c, x < 128) : PSpec Tryd.prog 22 [.str (ci s), .str (ci c)] (.bool (s.any (c.contains ·))) := by
  refine spec_below (by kernel_rfl) (fun v => by simp [toks]) fun w g vals hG hV => ?_
  obtain ⟨v0, vs0, e0, h0, v1, vs1, rfl, h1, rfl⟩ := hV
  obtain ⟨t, rfl, ht, htl⟩ := bytes_str h0
  obtain ⟨u, rfl, hu, hul⟩ := bytes_str h1
  have hvals : vals = #[.string t, .string u] := Array.toList_inj.1 (by simpa using e0)
  subst hvals
  refine (Any.strings_ContainsAny8 Tryd.lays150 (by kernel_rfl) t u w (by omega) (by omega) (by omega) fun j b hb => ?_).mono ?_
  · have : b.toNat ∈ c := by rw [← hu]; exact List.mem_map_of_mem (List.mem_of_getElem? hb)
    exact hc3 _ this
  · rintro e w' ⟨rfl, hB⟩
    exact ⟨_, rfl, hB, by rw [containsAny_any, ht, hu]; rfl⟩
/-- Each byte that is one is written as others. -/
def repB (c : Nat) (n : List Nat) (s : List Nat) : List Nat := s.flatMap fun x => if x = c then n else [x]
theorem replaceK_one (c : UInt8) (new : List UInt8) : ∀ s : List UInt8, Lib.replaceK [c] new (Lib.count s [c]) s = s.flatMap fun x => if x = c then new else [x]
  | [] => rfl
  | x :: l => by
    have ih := replaceK_one c new l
    by_cases hx : x = c
    · subst hx
      have h0 : Lib.index (x :: l) [x] = (0 : Nat) := by rw [Lib.index_one]; simp [Lib.indexByte]
      rw [Lib.count_hit (by simp) h0, Nat.add_comm 1, Lib.replaceK_hit _ _ _ _ _ h0]
      simp only [List.take_zero, List.nil_append, List.length_singleton, Nat.zero_add, List.drop_succ_cons, List.drop_zero, ih]
      simp
    · by_cases hm : Lib.indexByte l c = -1
      · have h0 : Lib.index (x :: l) [c] = -1 := by rw [Lib.index_one]; unfold Lib.indexByte; simp [hx, hm]
        have h1 : Lib.index l [c] = -1 := by rw [Lib.index_one]; exact hm
        rw [Lib.count_miss h1] at ih
        rw [Lib.count_miss h0]
        have e0 : ∀ s : List UInt8, Lib.replaceK [c] new 0 s = s := fun s => rfl
        rw [e0] at ih ⊢
        simp only [List.flatMap_cons, if_neg hx, ← ih]
        rfl
      · obtain ⟨i, hi⟩ : ∃ i : Nat, Lib.indexByte l c = i := ⟨(Lib.indexByte l c).toNat, by have := Lib.indexByte_ge l c; omega⟩
        have h1 : Lib.index l [c] = i := by rw [Lib.index_one]; exact hi
        have h0 : Lib.index (x :: l) [c] = (i + 1 : Nat) := by rw [Lib.index_one]; unfold Lib.indexByte; simp [hx, hm, hi]
        rw [Lib.count_hit (by simp) h1, Nat.add_comm 1, Lib.replaceK_hit _ _ _ _ _ h1] at ih
        rw [Lib.count_hit (by simp) h0, Nat.add_comm 1, Lib.replaceK_hit _ _ _ _ _ h0]
        simp only [List.length_singleton, List.flatMap_cons, if_neg hx, ← ih]
        rfl
theorem replaceAll_map {s : List UInt8} {c : UInt8} {new : List UInt8} (hne : ¬ [c] = new) : (Lib.replaceAll s [c] new).map (fun x => x.toNat) = repB c.toNat (new.map fun x => x.toNat) (s.map fun x => x.toNat) := by
  have h1 : Lib.replaceAll s [c] new = Lib.replaceK [c] new (Lib.count s [c]) s := by
    unfold Lib.replaceAll Lib.replace
    rw [if_neg (by simpa using hne)]
    rfl
  rw [h1, replaceK_one]
  clear h1
  unfold repB
  induction s with
  | nil => rfl
  | cons x s ih =>
    rw [List.flatMap_cons, List.map_append, List.map_cons, List.flatMap_cons, ih]
    congr 1
    by_cases hx : x = c
    · subst hx; simp
    · have : ¬ x.toNat = c.toNat := fun e => hx (UInt8.toNat_inj.1 e)
      simp [hx, this]
theorem repB_len (c : Nat) (n s : List Nat) : (repB c n s).length ≤ s.length * (n.length + 1) := by
  unfold repB
  induction s with
  | nil => simp
  | cons x s ih =>
    simp only [List.flatMap_cons, List.length_append, List.length_cons, Nat.add_mul, Nat.one_mul]
    split
    · omega
    · simp only [List.length_singleton]; omega
theorem replaceAll_ok {s n : List Nat} {c : Nat} (hs : s.length ≤ 1000000) (hn : n.length ≤ 1000) (hne : ¬ [c] = n) : PSpec Tryd.prog 23 [.str (ci s), .str (ci [c]), .str (ci n)] (.str (ci (repB c n s))) := by
  refine spec_below (by kernel_rfl) (fun v => by simp [toks]) fun w g vals hG hV => ?_
  obtain ⟨v0, vs0, e0, h0, v1, vs1, rfl, h1, v2, vs2, rfl, h2, rfl⟩ := hV
  obtain ⟨t, rfl, ht, htl⟩ := bytes_str h0
  obtain ⟨u, rfl, hu, hul⟩ := bytes_str h1
  obtain ⟨x, rfl, hx, hxl⟩ := bytes_str h2
  have hvals : vals = #[.string t, .string u, .string x] := Array.toList_inj.1 (by simpa using e0)
  subst hvals
  obtain ⟨_, m, e, fz, hm⟩ := hG 0 (by simp [globTab])
  have hu1 : u.size = 1 := by rw [hul]; rfl
  obtain ⟨d, hd⟩ : ∃ d, u.data.toList = [d] := by
    cases h : u.data.toList with
    | nil => rw [h] at hu; simp at hu
    | cons d l =>
      rw [h] at hu
      simp only [List.map_cons, List.cons.injEq, List.map_eq_nil_iff] at hu
      exact ⟨d, by rw [hu.2]⟩
  have hdc : d.toNat = c := by rw [hd] at hu; simpa using hu
  have hcnt : Lib.countB t u ≤ t.size := by have := Lib.countB_mul_le u (by omega) t.size t (Nat.le_refl _); rw [hu1] at this; omega
  have hmul : Lib.countB t u * x.size ≤ 1000000 * 1000 := Nat.mul_le_mul (by omega) (by omega)
  refine (Tryd.strings_ReplaceAll t u x m w (by omega) (by simp [World.cell?, hm]) (by omega) (by omega)).mono ?_
  rintro e w' ⟨rfl, hB⟩
  refine ⟨_, rfl, hB, _, rfl, ?_⟩
  have h3 := replaceAll_map (s := t.data.toList) (c := d) (new := x.data.toList) (fun e => hne (by rw [← hx, ← e, ← hdc]; rfl))
  rw [ht, hx, hdc] at h3
  show (Lib.replaceAll t.data.toList u.data.toList x.data.toList).map (fun c => (c.toNat : Int)) = ci _
  rw [hd, ← h3]
  simp [ci]
end Go.Proofs.YtdphjapaoaokmaaDoor.E
/- A reader of fields between commas, byte by byte. -/
namespace Go.Proofs.YtdphjapaoaokmaaDoor.E
open Go Go.RowKit Go.Proofs
set_option linter.unusedVariables false
set_option linter.unusedSimpArgs false
theorem mix06 : Tryd.prog.follows .mixedOrders = true := by kernel_rfl
inductive Md where
  | begin | plain | quoted | closed | ended | wrong | none
  deriving DecidableEq
structure Rs where
  m : Md
  out : List (List Nat)
  cur : List Nat
  done : Bool
  e : Nat
def behindM (out : List (List Nat)) (cur : List Nat) (c : Nat) : Rs :=
  if c = 44 then ⟨.begin, out ++ [cur], [], false, if out.length + 1 = 50 then 5 else 0⟩
  else if c = 10 then ⟨.none, out ++ [cur], [], true, 0⟩
  else if c = 13 then ⟨.ended, out, cur, false, 0⟩
  else ⟨.wrong, out, cur, false, 3⟩
def addM (m : Md) (out : List (List Nat)) (cur : List Nat) (c : Nat) : Rs := ⟨m, out, cur ++ [c], false, if 1000 < cur.length + 1 then 5 else 0⟩
def plainM (out : List (List Nat)) (cur : List Nat) (c : Nat) : Rs :=
  if c = 44 ∨ c = 10 ∨ c = 13 then behindM out cur c else if c = 34 then ⟨.wrong, out, cur, false, 3⟩ else addM .plain out cur c
def stpM (m : Md) (out : List (List Nat)) (cur : List Nat) (c : Nat) : Rs :=
  match m with
  | .begin => if c = 34 then ⟨.quoted, out, cur, false, 0⟩ else plainM out cur c
  | .plain => plainM out cur c
  | .quoted => if c = 34 then ⟨.closed, out, cur, false, 0⟩ else addM .quoted out cur c
  | .closed => if c = 34 then addM .quoted out cur c else behindM out cur c
  | .ended => if c = 10 then behindM out cur c else ⟨.wrong, out, cur, false, 3⟩
  | _ => ⟨.wrong, out, cur, false, 3⟩
def mdV (r : Nat) : Md → PV
  | .begin => .fn (.func 32) [.ptr (some (r, 0))] []
  | .plain => .fn (.func 52) [.ptr (some (r, 0))] []
  | .quoted => .fn (.func 51) [.ptr (some (r, 0))] []
  | .closed => .fn (.func 66) [.ptr (some (r, 0))] []
  | .ended => .fn (.func 76) [.ptr (some (r, 0))] []
  | .wrong => .fn (.func 69) [.ptr (some (r, 0))] []
  | .none => .nilf
def rdV (so sc : Nat) (out : List (List Nat)) (cur : List Nat) (done : Bool) (e : Nat) : List PV := [.lst so (out.map sV) true, .lst sc (cur.map u8) true, .bool done, .int .i64 e]
/-- What a step answers. -/
def AnsM (r : Nat) (H : Heap) (x : Rs) (v : PV) (H' : Heap) : Prop :=
  v = mdV r x.m ∧ ∃ so sc, (so = 1 ∨ so = 0 ∧ x.out.length = 0) ∧ (sc = 1 ∨ sc = 0 ∧ x.cur.length = 0) ∧ H' = (r, rdV so sc x.out x.cur x.done x.e) :: H
section
variable {r so sc : Nat} {out : List (List Nat)} {cur : List Nat} {c : Nat} {H : Heap}
theorem field_ok (ho : so = 1 ∨ so = 0 ∧ out.length = 0) (hc : sc = 1 ∨ sc = 0 ∧ cur.length = 0) (hw : ∀ x ∈ cur, x < 256) (hol : out.length ≤ 1000) (hcl : cur.length ≤ 2000) {d : Bool} {e : Nat} :
    SpecH Tryd.prog 34 ((r, rdV so sc out cur d e) :: H) [.ptr (some (r, 0))] (fun v H' => v = .tup [] ∧ H' = (r, rdV 1 0 (out ++ [cur]) [] d e) :: H) := by
  have hmix := mix06
  have v1 : ∀ o, cvSP (.lst sc (cur.map u8) o) = some (.str (ci cur)) := fun o => cvS_u8 rfl (hc.imp id (·.2)) hw
  refine spec_of t34l (by simp [p34l]) ?_
  simp only [p34l, rdV]
  first | refine pwp_ss hmix ?_ | refine pwp_drawS hmix ?_
  intro K hK
  simp (disch := first | (refine Ok.mk ?_; (try simp only [Lm, La, Lc, Ln, Lt, Ld, Lr, Li, true_or, or_true, true_and, and_true]); omega) | (simp <;> fail) | skip) [runM_nil, planS_nil, v1]
  refine hK _ _ ?_
  clear hK K
  exact ⟨.inl rfl, _, _, rfl, .refl _, by simp [rdV, sV, resV]⟩
theorem add_ok (ho : so = 1 ∨ so = 0 ∧ out.length = 0) (hc : sc = 1 ∨ sc = 0 ∧ cur.length = 0) (hcl : cur.length ≤ 1000) :
    SpecH Tryd.prog 67 ((r, rdV so sc out cur false 0) :: H) [.ptr (some (r, 0)), .int .u8 c] (fun v H' => v = .tup [] ∧ H' = (r, rdV so 1 out (cur ++ [c]) false (if 1000 < cur.length + 1 then 5 else 0)) :: H) := by
  refine spec_of t67l (by simp [p67l]) ?_
  simp only [p67l, rdV]
  first | refine pwp_sr ?_ | refine pwp_regionM ?_
  intro K hK
  simp (disch := first | (refine Ok.mk ?_; (try simp only [Lm, La, Lc, Ln, Lt, Ld, Lr, Li, true_or, or_true, true_and, and_true]); omega) | (simp <;> fail) | skip) [runM_nil]
  refine hK _ _ ?_
  clear hK K
  by_cases h : 1000 < cur.length + 1
  · have h2 : (1000 : Int) < cur.length + 1 := by omega
    first | refine pwp_rif ?_ | refine pwp_rifE ?_
    intro K hK
    simp (disch := first | (refine Ok.mk ?_; (try simp only [Lm, La, Lc, Ln, Lt, Ld, Lr, Li, true_or, or_true, true_and, and_true]); omega) | (simp <;> fail) | skip) [runM_nil, h2]
    refine hK _ _ ?_
    clear hK K
    refine ifT (by simp (disch := first | (refine Ok.mk ?_; (try simp only [Lm, La, Lc, Ln, Lt, Ld, Lr, Li, true_or, or_true, true_and, and_true]); omega) | (simp <;> fail) | skip) [runM_nil]) ?_
    first | refine pwp_sr ?_ | refine pwp_regionM ?_
    intro K hK
    simp (disch := first | (refine Ok.mk ?_; (try simp only [Lm, La, Lc, Ln, Lt, Ld, Lr, Li, true_or, or_true, true_and, and_true]); omega) | (simp <;> fail) | skip) [runM_nil]
    refine hK _ _ ?_
    clear hK K
    exact ⟨.inl rfl, _, _, rfl, .refl _, by simp [rdV, h, resV]⟩
  · have h2 : ¬ (1000 : Int) < cur.length + 1 := by omega
    first | refine pwp_rif ?_ | refine pwp_rifE ?_
    intro K hK
    simp (disch := first | (refine Ok.mk ?_; (try simp only [Lm, La, Lc, Ln, Lt, Ld, Lr, Li, true_or, or_true, true_and, and_true]); omega) | (simp <;> fail) | skip) [runM_nil, h2]
    refine hK _ _ ?_
    clear hK K
    refine ifF (by simp [runM_nil, h2]) (pwp_skip ?_)
    exact ⟨.inl rfl, _, _, rfl, .refl _, by simp [rdV, h, resV]⟩
theorem wrong_ok : SpecH Tryd.prog 69 ((r, rdV so sc out cur false 0) :: H) [.ptr (some (r, 0)), .int .u8 c] (fun v H' => v = mdV r .wrong ∧ H' = (r, rdV so sc out cur false 3) :: H) := by
  refine spec_of t69 (by simp [p69]) ?_
  simp only [p69, rdV]
  first | refine pwp_sr ?_ | refine pwp_regionM ?_
  intro K hK
  simp (disch := first | (refine Ok.mk ?_; (try simp only [Lm, La, Lc, Ln, Lt, Ld, Lr, Li, true_or, or_true, true_and, and_true]); omega) | (simp <;> fail) | skip) [runM_nil]
  refine hK _ _ ?_
  clear hK K
  first | refine pwp_sr ?_ | refine pwp_regionM ?_
  intro K hK
  simp (disch := first | (refine Ok.mk ?_; (try simp only [Lm, La, Lc, Ln, Lt, Ld, Lr, Li, true_or, or_true, true_and, and_true]); omega) | (simp <;> fail) | skip) [runM_nil]
  refine hK _ _ ?_
  clear hK K
  first | refine pwp_sr ?_ | refine pwp_regionM ?_
  intro K hK
  simp (disch := first | (refine Ok.mk ?_; (try simp only [Lm, La, Lc, Ln, Lt, Ld, Lr, Li, true_or, or_true, true_and, and_true]); omega) | (simp <;> fail) | skip) [runM_nil]
  refine hK _ _ ?_
  clear hK K
  refine pwp_ret ⟨.inr rfl, _, _, (by simp [runM_nil, resL]; rfl), .refl _, by simp [resV, mdV], by simp [rdV]⟩
theorem behind_ok (ho : so = 1 ∨ so = 0 ∧ out.length = 0) (hc : sc = 1 ∨ sc = 0 ∧ cur.length = 0) (hw : ∀ x ∈ cur, x < 256) (hol : out.length ≤ 60) (hcl : cur.length ≤ 1000) :
    SpecH Tryd.prog 68 ((r, rdV so sc out cur false 0) :: H) [.ptr (some (r, 0)), .int .u8 c] (AnsM r H (behindM out cur c)) := by
  have cf := field_ok (r := r) (H := H) (d := false) (e := 0) ho hc hw (by omega) (by omega)
  have cw := wrong_ok (r := r) (H := H) (so := so) (sc := sc) (out := out) (cur := cur) (c := c)
  unfold behindM
  refine spec_of t68 (by simp [p68]) ?_
  simp only [p68]
  simp only [rdV] at cf cw ⊢
  first | refine pwp_sr ?_ | refine pwp_regionM ?_
  intro K hK
  simp (disch := first | (refine Ok.mk ?_; (try simp only [Lm, La, Lc, Ln, Lt, Ld, Lr, Li, true_or, or_true, true_and, and_true]); omega) | (simp <;> fail) | skip) [runM_nil]
  refine hK _ _ ?_
  clear hK K
  refine pwp_seq ?_
  first | refine pwp_sr ?_ | refine pwp_regionM ?_
  intro K hK
  simp (disch := first | (refine Ok.mk ?_; (try simp only [Lm, La, Lc, Ln, Lt, Ld, Lr, Li, true_or, or_true, true_and, and_true]); omega) | (simp <;> fail) | skip) [runM_nil]
  refine hK _ _ ?_
  clear hK K
  refine pwp_block ?_
  by_cases h1 : c = 44
  · subst h1
    first | refine pwp_rif ?_ | refine pwp_rifE ?_
    intro K hK
    simp (disch := first | (refine Ok.mk ?_; (try simp only [Lm, La, Lc, Ln, Lt, Ld, Lr, Li, true_or, or_true, true_and, and_true]); omega) | (simp <;> fail) | skip) [runM_nil]
    refine hK _ _ ?_
    clear hK K
    refine ifT (by simp (disch := first | (refine Ok.mk ?_; (try simp only [Lm, La, Lc, Ln, Lt, Ld, Lr, Li, true_or, or_true, true_and, and_true]); omega) | (simp <;> fail) | skip) [runM_nil]) ?_
    first | refine pwp_sr ?_ | refine pwp_regionM ?_
    intro K hK
    simp (disch := first | (refine Ok.mk ?_; (try simp only [Lm, La, Lc, Ln, Lt, Ld, Lr, Li, true_or, or_true, true_and, and_true]); omega) | (simp <;> fail) | skip) [runM_nil]
    refine useH cf ?_
    try simp (disch := first | (refine Ok.mk ?_; (try simp only [Lm, La, Lc, Ln, Lt, Ld, Lr, Li, true_or, or_true, true_and, and_true]); omega) | (simp <;> fail) | skip) [runM_nil]
    refine hK _ _ ?_
    clear hK K
    refine pwp_seq ?_
    by_cases h5 : out.length + 1 = 50
    · have h6 : (out.length : Int) + 1 = 50 := by omega
      first | refine pwp_sr ?_ | refine pwp_regionM ?_
      intro K hK
      simp (disch := first | (refine Ok.mk ?_; (try simp only [Lm, La, Lc, Ln, Lt, Ld, Lr, Li, true_or, or_true, true_and, and_true]); omega) | (simp <;> fail) | skip) [runM_nil, h6]
      refine hK _ _ ?_
      clear hK K
      refine pwp_cT (by simp) ?_
      first | refine pwp_sr ?_ | refine pwp_regionM ?_
      intro K hK
      simp (disch := first | (refine Ok.mk ?_; (try simp only [Lm, La, Lc, Ln, Lt, Ld, Lr, Li, true_or, or_true, true_and, and_true]); omega) | (simp <;> fail) | skip) [runM_nil]
      refine hK _ _ ?_
      clear hK K
      first | refine pwp_sr ?_ | refine pwp_regionM ?_
      intro K hK
      simp (disch := first | (refine Ok.mk ?_; (try simp only [Lm, La, Lc, Ln, Lt, Ld, Lr, Li, true_or, or_true, true_and, and_true]); omega) | (simp <;> fail) | skip) [runM_nil]
      refine hK _ _ ?_
      clear hK K
      refine pwp_ret ⟨.inr rfl, _, _, (by simp [runM_nil, resL]; rfl), .refl _, by simp [resV, mdV], 1, 0, .inl rfl, .inr ⟨rfl, rfl⟩, by simp [rdV, h5]⟩
    · have h6 : ¬ (out.length : Int) + 1 = 50 := by omega
      first | refine pwp_sr ?_ | refine pwp_regionM ?_
      intro K hK
      simp (disch := first | (refine Ok.mk ?_; (try simp only [Lm, La, Lc, Ln, Lt, Ld, Lr, Li, true_or, or_true, true_and, and_true]); omega) | (simp <;> fail) | skip) [runM_nil, h6]
      refine hK _ _ ?_
      clear hK K
      refine pwp_cF (by simp) (pwp_skip ?_)
      first | refine pwp_sr ?_ | refine pwp_regionM ?_
      intro K hK
      simp (disch := first | (refine Ok.mk ?_; (try simp only [Lm, La, Lc, Ln, Lt, Ld, Lr, Li, true_or, or_true, true_and, and_true]); omega) | (simp <;> fail) | skip) [runM_nil]
      refine hK _ _ ?_
      clear hK K
      refine pwp_ret ⟨.inr rfl, _, _, (by simp [runM_nil, resL]; rfl), .refl _, by simp [resV, mdV], 1, 0, .inl rfl, .inr ⟨rfl, rfl⟩, by simp [rdV, h5]⟩
  · have g1 : ¬ (c : Int) = 44 := by omega
    first | refine pwp_rif ?_ | refine pwp_rifE ?_
    intro K hK
    simp (disch := first | (refine Ok.mk ?_; (try simp only [Lm, La, Lc, Ln, Lt, Ld, Lr, Li, true_or, or_true, true_and, and_true]); omega) | (simp <;> fail) | skip) [runM_nil, g1]
    refine hK _ _ ?_
    clear hK K
    refine ifF (by simp [runM_nil, g1]) ?_
    by_cases h2 : c = 10
    · subst h2
      first | refine pwp_rif ?_ | refine pwp_rifE ?_
      intro K hK
      simp (disch := first | (refine Ok.mk ?_; (try simp only [Lm, La, Lc, Ln, Lt, Ld, Lr, Li, true_or, or_true, true_and, and_true]); omega) | (simp <;> fail) | skip) [runM_nil]
      refine hK _ _ ?_
      clear hK K
      refine ifT (by simp (disch := first | (refine Ok.mk ?_; (try simp only [Lm, La, Lc, Ln, Lt, Ld, Lr, Li, true_or, or_true, true_and, and_true]); omega) | (simp <;> fail) | skip) [runM_nil]) ?_
      first | refine pwp_sr ?_ | refine pwp_regionM ?_
      intro K hK
      simp (disch := first | (refine Ok.mk ?_; (try simp only [Lm, La, Lc, Ln, Lt, Ld, Lr, Li, true_or, or_true, true_and, and_true]); omega) | (simp <;> fail) | skip) [runM_nil]
      refine useH cf ?_
      try simp (disch := first | (refine Ok.mk ?_; (try simp only [Lm, La, Lc, Ln, Lt, Ld, Lr, Li, true_or, or_true, true_and, and_true]); omega) | (simp <;> fail) | skip) [runM_nil]
      refine hK _ _ ?_
      clear hK K
      first | refine pwp_sr ?_ | refine pwp_regionM ?_
      intro K hK
      simp (disch := first | (refine Ok.mk ?_; (try simp only [Lm, La, Lc, Ln, Lt, Ld, Lr, Li, true_or, or_true, true_and, and_true]); omega) | (simp <;> fail) | skip) [runM_nil]
      refine hK _ _ ?_
      clear hK K
      first | refine pwp_sr ?_ | refine pwp_regionM ?_
      intro K hK
      simp (disch := first | (refine Ok.mk ?_; (try simp only [Lm, La, Lc, Ln, Lt, Ld, Lr, Li, true_or, or_true, true_and, and_true]); omega) | (simp <;> fail) | skip) [runM_nil]
      refine hK _ _ ?_
      clear hK K
      refine pwp_ret ⟨.inr rfl, _, _, (by simp [runM_nil, resL]; rfl), .refl _, by simp [resV, mdV], 1, 0, .inl rfl, .inr ⟨rfl, rfl⟩, by simp [rdV]⟩
    · have g2 : ¬ (c : Int) = 10 := by omega
      first | refine pwp_rif ?_ | refine pwp_rifE ?_
      intro K hK
      simp (disch := first | (refine Ok.mk ?_; (try simp only [Lm, La, Lc, Ln, Lt, Ld, Lr, Li, true_or, or_true, true_and, and_true]); omega) | (simp <;> fail) | skip) [runM_nil, g2]
      refine hK _ _ ?_
      clear hK K
      refine ifF (by simp [runM_nil, g2]) ?_
      by_cases h3 : c = 13
      · subst h3
        first | refine pwp_rif ?_ | refine pwp_rifE ?_
        intro K hK
        simp (disch := first | (refine Ok.mk ?_; (try simp only [Lm, La, Lc, Ln, Lt, Ld, Lr, Li, true_or, or_true, true_and, and_true]); omega) | (simp <;> fail) | skip) [runM_nil]
        refine hK _ _ ?_
        clear hK K
        refine ifT (by simp (disch := first | (refine Ok.mk ?_; (try simp only [Lm, La, Lc, Ln, Lt, Ld, Lr, Li, true_or, or_true, true_and, and_true]); omega) | (simp <;> fail) | skip) [runM_nil]) ?_
        first | refine pwp_sr ?_ | refine pwp_regionM ?_
        intro K hK
        simp (disch := first | (refine Ok.mk ?_; (try simp only [Lm, La, Lc, Ln, Lt, Ld, Lr, Li, true_or, or_true, true_and, and_true]); omega) | (simp <;> fail) | skip) [runM_nil]
        refine hK _ _ ?_
        clear hK K
        refine pwp_ret ⟨.inr rfl, _, _, (by simp [runM_nil, resL]; rfl), .refl _, by simp [resV, mdV], so, sc, ho, hc, by simp [rdV]⟩
      · have g3 : ¬ (c : Int) = 13 := by omega
        first | refine pwp_rif ?_ | refine pwp_rifE ?_
        intro K hK
        simp (disch := first | (refine Ok.mk ?_; (try simp only [Lm, La, Lc, Ln, Lt, Ld, Lr, Li, true_or, or_true, true_and, and_true]); omega) | (simp <;> fail) | skip) [runM_nil, g3]
        refine hK _ _ ?_
        clear hK K
        refine ifF (by simp [runM_nil, g3]) (pwp_skip ?_)
        rw [if_neg h1, if_neg h2, if_neg h3]
        first | refine pwp_sr ?_ | refine pwp_regionM ?_
        intro K hK
        simp (disch := first | (refine Ok.mk ?_; (try simp only [Lm, La, Lc, Ln, Lt, Ld, Lr, Li, true_or, or_true, true_and, and_true]); omega) | (simp <;> fail) | skip) [runM_nil]
        refine useH cw ?_
        try simp (disch := first | (refine Ok.mk ?_; (try simp only [Lm, La, Lc, Ln, Lt, Ld, Lr, Li, true_or, or_true, true_and, and_true]); omega) | (simp <;> fail) | skip) [runM_nil]
        refine hK _ _ ?_
        clear hK K
        refine pwp_ret ⟨.inr rfl, _, _, (by simp [runM_nil, resL]; rfl), .refl _, by simp [resV, mdV], so, sc, ho, hc, by simp [rdV]⟩
end
end Go.Proofs.YtdphjapaoaokmaaDoor.E
