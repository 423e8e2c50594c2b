/- Part 2 of the proof of SeqMarkers: what the program's functions come to. -/
import Derived.KernelRfl
import Derived.Laws.Externs
import Derived.ProofKit
import Derived.Shelf.Bytes.IndexByte
import Derived.Shelf.Bytes.SlCountOne
import Derived.Shelf.Bytes.SlIndexAt
import Derived.Shelf.Bytes.SlIndexSmall
import Derived.Shelf.Bytes.SlIndexWhole
import Derived.Shelf.Bytes.SlSearch0
import Derived.Shelf.Bytes.SlSearch1
import Derived.Shelf.Bytes.SlSearch2
import Derived.Shelf.Bytes.Small
import Derived.Shelf.LaysM
import Derived.Shelf.Strconv.Itoa0
import Derived.Shelf.Strings.Search1
import Derived.WalkKit
import Derived.Test.YtjcjbpbkakfjdaaDoorJSeqMarkers1
import Derived.Test.YtjcjbpbkakfjdaaDoorProg
/- The functions of this claim as operations on plain values. -/
namespace Go.Proofs.YtjcjbpbkakfjdaaDoor.E
open Go Go.RowKit Go.Proofs
set_option linter.unusedVariables false
set_option maxRecDepth 100000
def p2 : PFn :=
  ⟨1, [], .region [
     ⟨some 0, none, .callF 1 [] []⟩]⟩
theorem t2 : compF Tryd.prog {} 2 = some p2 := by kernel_rfl
def p3 : PFn :=
  ⟨76, [.t 4], .seq
    (.region [
      ⟨some 4, none, .mv true (.c (.bool false))⟩])
    (.seq
     (.seq
      (.region [
        ⟨some 13, none, .mv false (.t 0)⟩,
        ⟨some 14, none, .callF 9 [.t 13, .c (.int .i64 120), .c (.int .i64 3000)] []⟩,
        ⟨some 15, none, .un .not (.t 14)⟩,
        ⟨some 16, none, .mv false (.t 15)⟩,
        ⟨some 17, some (16, false), .mv false (.t 1)⟩,
        ⟨some 18, some (16, false), .len false (.t 17)⟩,
        ⟨some 19, some (16, false), .bin .gtr (.t 18) (.c (.int .i64 3000))⟩,
        ⟨some 20, none, .pick (.t 16) (.c (.bool true)) (.t 19)⟩])
      (.cond (.t 20)
       (.seq
        (.region [
          ⟨some 21, none, .callF 10 [] []⟩,
          ⟨some 4, none, .mv true (.t 21)⟩])
        .ret)
       .skip))
     (.seq
      (.region [
        ⟨some 23, none, .mv false (.t 0)⟩,
        ⟨some 24, none, .callF 11 [.t 23] []⟩,
        ⟨some 22, none, .mv true (.t 24)⟩,
        ⟨some 25, none, .ext true (.t 22) 0⟩,
        ⟨some 26, none, .ext false (.t 22) 1⟩,
        ⟨some 5, none, .mv true (.t 25)⟩,
        ⟨some 6, none, .mv true (.t 26)⟩])
      (.seq
       (.region [
         ⟨some 28, none, .mv false (.t 0)⟩,
         ⟨some 29, none, .callF 12 [.t 28] []⟩,
         ⟨some 27, none, .mv true (.t 29)⟩,
         ⟨some 30, none, .ext true (.t 27) 0⟩,
         ⟨some 31, none, .ext false (.t 27) 1⟩,
         ⟨some 7, none, .mv true (.t 30)⟩,
         ⟨some 8, none, .mv true (.t 31)⟩])
       (.seq
        (.region [
          ⟨some 33, none, .mv false (.t 1)⟩,
          ⟨some 34, none, .callF 13 [.t 33] []⟩,
          ⟨some 32, none, .mv true (.t 34)⟩,
          ⟨some 35, none, .ext true (.t 32) 0⟩,
          ⟨some 36, none, .ext false (.t 32) 1⟩,
          ⟨some 9, none, .mv true (.t 35)⟩,
          ⟨some 10, none, .mv true (.t 36)⟩])
        (.seq
         (.region [
           ⟨some 38, none, .mv false (.t 1)⟩,
           ⟨some 39, none, .callF 14 [.t 38] []⟩,
           ⟨some 37, none, .mv true (.t 39)⟩,
           ⟨some 40, none, .ext true (.t 37) 0⟩,
           ⟨some 41, none, .ext false (.t 37) 1⟩,
           ⟨some 11, none, .mv true (.t 40)⟩,
           ⟨some 12, none, .mv true (.t 41)⟩])
         (.seq
          (.draw [
            ⟨some 42, none, .callF 10 [] []⟩,
            ⟨some 43, none, .mv false (.t 42)⟩,
            ⟨some 44, some (43, true), .mv false (.t 5)⟩,
            ⟨some 45, some (43, true), .cvS (.t 44)⟩,
            ⟨some 46, some (43, true), .mv false (.t 7)⟩,
            ⟨some 47, some (43, true), .cvS (.t 46)⟩,
            ⟨some 48, some (43, true), .bin .eql (.t 45) (.t 47)⟩,
            ⟨some 49, none, .pick (.t 43) (.t 48) (.c (.bool false))⟩,
            ⟨some 50, none, .mv false (.t 49)⟩,
            ⟨some 51, some (50, true), .mv false (.t 6)⟩,
            ⟨some 52, some (50, true), .mv false (.t 8)⟩,
            ⟨some 53, some (50, true), .bin .eql (.t 51) (.t 52)⟩,
            ⟨some 54, none, .pick (.t 50) (.t 53) (.c (.bool false))⟩,
            ⟨some 55, none, .mv false (.t 54)⟩,
            ⟨some 56, some (55, true), .mv false (.t 1)⟩,
            ⟨some 57, some (55, true), .callF 15 [.t 56] []⟩,
            ⟨some 58, some (55, true), .cvS (.t 57)⟩,
            ⟨some 59, some (55, true), .mv false (.t 1)⟩,
            ⟨some 60, some (55, true), .callF 16 [.t 59] []⟩,
            ⟨some 61, some (55, true), .cvS (.t 60)⟩,
            ⟨some 62, some (55, true), .bin .eql (.t 58) (.t 61)⟩,
            ⟨some 63, none, .pick (.t 55) (.t 62) (.c (.bool false))⟩,
            ⟨some 64, none, .mv false (.t 63)⟩,
            ⟨some 65, some (64, true), .mv false (.t 9)⟩,
            ⟨some 66, some (64, true), .cvS (.t 65)⟩,
            ⟨some 67, some (64, true), .mv false (.t 11)⟩,
            ⟨some 68, some (64, true), .cvS (.t 67)⟩,
            ⟨some 69, some (64, true), .bin .eql (.t 66) (.t 68)⟩,
            ⟨some 70, none, .pick (.t 64) (.t 69) (.c (.bool false))⟩,
            ⟨some 71, none, .mv false (.t 70)⟩,
            ⟨some 72, some (71, true), .mv false (.t 10)⟩,
            ⟨some 73, some (71, true), .mv false (.t 12)⟩,
            ⟨some 74, some (71, true), .bin .eql (.t 72) (.t 73)⟩,
            ⟨some 75, none, .pick (.t 71) (.t 74) (.c (.bool false))⟩,
            ⟨some 4, none, .mv true (.t 75)⟩] [])
          .ret))))))⟩
theorem t3 : compF Tryd.prog {} 3 = some p3 := by kernel_rfl
def p4 : PFn :=
  ⟨95, [.t 6], .seq
    (.region [
      ⟨some 6, none, .mv true (.c (.bool false))⟩])
    (.seq
     (.seq
      (.region [
        ⟨some 13, none, .mv false (.t 0)⟩,
        ⟨some 14, none, .callF 9 [.t 13, .c (.int .i64 120), .c (.int .i64 3000)] []⟩,
        ⟨some 15, none, .un .not (.t 14)⟩,
        ⟨some 16, none, .mv false (.t 15)⟩,
        ⟨some 17, some (16, false), .mv false (.t 2)⟩,
        ⟨some 18, some (16, false), .bin .eql (.t 17) (.c (.int .u8 0))⟩,
        ⟨some 19, none, .pick (.t 16) (.c (.bool true)) (.t 18)⟩])
      (.cond (.t 19)
       (.seq
        (.region [
          ⟨some 20, none, .callF 10 [] []⟩,
          ⟨some 6, none, .mv true (.t 20)⟩])
        .ret)
       .skip))
     (.seq
      (.region [
        ⟨some 22, none, .mv false (.t 0)⟩,
        ⟨some 23, none, .callF 11 [.t 22] []⟩,
        ⟨some 21, none, .mv true (.t 23)⟩,
        ⟨some 24, none, .ext true (.t 21) 0⟩,
        ⟨some 25, none, .ext false (.t 21) 1⟩,
        ⟨some 7, none, .mv true (.t 24)⟩,
        ⟨some 8, none, .mv true (.t 25)⟩])
      (.seq
       (.seq
        (.region [
          ⟨some 26, none, .mv false (.t 8)⟩,
          ⟨some 27, none, .bin .neq (.t 26) (.c (.int .i64 0))⟩,
          ⟨some 28, none, .mv false (.t 27)⟩,
          ⟨some 29, some (28, false), .mv false (.t 1)⟩,
          ⟨some 30, some (28, false), .bin .lss (.t 29) (.c (.int .i64 0))⟩,
          ⟨some 31, none, .pick (.t 28) (.c (.bool true)) (.t 30)⟩,
          ⟨some 32, none, .mv false (.t 31)⟩,
          ⟨some 33, some (32, false), .mv false (.t 1)⟩,
          ⟨some 34, some (32, false), .mv false (.t 7)⟩,
          ⟨some 35, some (32, false), .len false (.t 34)⟩,
          ⟨some 36, some (32, false), .bin .geq (.t 33) (.t 35)⟩,
          ⟨some 37, none, .pick (.t 32) (.c (.bool true)) (.t 36)⟩])
        (.cond (.t 37)
         (.seq
          (.region [
            ⟨some 38, none, .callF 10 [] []⟩,
            ⟨some 6, none, .mv true (.t 38)⟩])
          .ret)
         .skip))
       (.seq
        (.seq
         (.region [
           ⟨some 39, none, .mv false (.t 7)⟩,
           ⟨some 40, none, .mv false (.t 1)⟩,
           ⟨some 41, none, .iad 1 (.t 39) (.t 40)⟩,
           ⟨some 42, none, .ld 1 false false (.t 41)⟩,
           ⟨some 43, none, .bin .eql (.t 42) (.c (.int .u8 255))⟩,
           ⟨some 44, none, .mv false (.t 43)⟩,
           ⟨some 45, some (44, false), .mv false (.t 7)⟩,
           ⟨some 46, some (44, false), .mv false (.t 1)⟩,
           ⟨some 47, some (44, false), .iad 1 (.t 45) (.t 46)⟩,
           ⟨some 48, some (44, false), .ld 1 false false (.t 47)⟩,
           ⟨some 49, some (44, false), .mv false (.t 2)⟩,
           ⟨some 50, some (44, false), .bin .xor (.t 48) (.t 49)⟩,
           ⟨some 51, some (44, false), .bin .eql (.t 50) (.c (.int .u8 255))⟩,
           ⟨some 52, none, .pick (.t 44) (.c (.bool true)) (.t 51)⟩])
         (.cond (.t 52)
          (.seq
           (.region [
             ⟨some 53, none, .callF 10 [] []⟩,
             ⟨some 6, none, .mv true (.t 53)⟩])
           .ret)
          .skip))
        (.seq
         (.region [
           ⟨some 54, none, .mv false (.t 7)⟩,
           ⟨some 55, none, .mv false (.t 1)⟩,
           ⟨some 56, none, .mv false (.t 7)⟩,
           ⟨some 57, none, .mv false (.t 1)⟩,
           ⟨some 58, none, .iad 1 (.t 56) (.t 57)⟩,
           ⟨some 59, none, .ld 1 false false (.t 58)⟩,
           ⟨some 60, none, .mv false (.t 2)⟩,
           ⟨some 61, none, .bin .xor (.t 59) (.t 60)⟩,
           ⟨some 62, none, .iad 1 (.t 54) (.t 55)⟩,
           ⟨none, none, .sto 1 (.t 62) (.t 61)⟩])
         (.seq
          (.region [
            ⟨some 64, none, .mv false (.t 7)⟩,
            ⟨some 65, none, .callF 17 [.t 64] []⟩,
            ⟨some 63, none, .mv true (.t 65)⟩,
            ⟨some 66, none, .ext true (.t 63) 0⟩,
            ⟨some 67, none, .ext false (.t 63) 1⟩,
            ⟨some 68, none, .ext false (.t 63) 2⟩,
            ⟨some 9, none, .mv true (.t 66)⟩,
            ⟨some 10, none, .mv true (.t 67)⟩,
            ⟨some 11, none, .mv true (.t 68)⟩])
          (.seq
           (.region [
             ⟨some 69, none, .mv false (.t 9)⟩,
             ⟨some 70, none, .callF 18 [.t 69] []⟩,
             ⟨some 12, none, .mv true (.t 70)⟩])
           (.seq
            (.seq
             (.region [
               ⟨some 71, none, .mv false (.t 12)⟩,
               ⟨some 72, none, .len false (.t 71)⟩,
               ⟨some 73, none, .mv false (.t 0)⟩,
               ⟨some 74, none, .len false (.t 73)⟩,
               ⟨some 75, none, .bin .gtr (.t 72) (.t 74)⟩,
               ⟨some 76, none, .mv false (.t 75)⟩,
               ⟨some 77, some (76, false), .mv false (.t 12)⟩,
               ⟨some 78, some (76, false), .mv false (.t 0)⟩,
               ⟨some 79, some (76, false), .mv false (.t 12)⟩,
               ⟨some 80, some (76, false), .len false (.t 79)⟩,
               ⟨some 81, some (76, false), .sli 1 (.t 78) none (some (.t 80)) none⟩,
               ⟨some 82, some (76, false), .callF 19 [.t 77, .t 81] []⟩,
               ⟨some 83, some (76, false), .un .not (.t 82)⟩,
               ⟨some 84, none, .pick (.t 76) (.c (.bool true)) (.t 83)⟩])
             (.cond (.t 84)
              (.seq
               (.region [
                 ⟨some 6, none, .mv true (.c (.bool false))⟩])
               .ret)
              .skip))
            (.seq
             (.region [
               ⟨some 85, none, .callF 10 [] []⟩,
               ⟨some 86, none, .mv false (.t 85)⟩,
               ⟨some 87, some (86, true), .mv false (.t 11)⟩,
               ⟨some 88, some (86, true), .bin .eql (.t 87) (.c (.int .i64 3))⟩,
               ⟨some 89, none, .pick (.t 86) (.t 88) (.c (.bool false))⟩,
               ⟨some 90, none, .mv false (.t 89)⟩,
               ⟨some 91, some (90, true), .mv false (.t 10)⟩,
               ⟨some 92, some (90, true), .mv false (.t 1)⟩,
               ⟨some 93, some (90, true), .bin .leq (.t 91) (.t 92)⟩,
               ⟨some 94, none, .pick (.t 90) (.t 93) (.c (.bool false))⟩,
               ⟨some 6, none, .mv true (.t 94)⟩])
             .ret)))))))))⟩
theorem t4 : compF Tryd.prog {} 4 = some p4 := by kernel_rfl
def p5 : PFn :=
  ⟨63, [.t 2], .seq
    (.region [
      ⟨some 2, none, .mv true (.c (.bool false))⟩])
    (.seq
     (.seq
      (.region [
        ⟨some 10, none, .mv false (.t 0)⟩,
        ⟨some 11, none, .callF 9 [.t 10, .c (.int .i64 120), .c (.int .i64 3000)] []⟩,
        ⟨some 12, none, .un .not (.t 11)⟩])
      (.cond (.t 12)
       (.seq
        (.region [
          ⟨some 13, none, .callF 10 [] []⟩,
          ⟨some 2, none, .mv true (.t 13)⟩])
        .ret)
       .skip))
     (.seq
      (.region [
        ⟨some 15, none, .mv false (.t 0)⟩,
        ⟨some 16, none, .callF 11 [.t 15] []⟩,
        ⟨some 14, none, .mv true (.t 16)⟩,
        ⟨some 17, none, .ext true (.t 14) 0⟩,
        ⟨some 18, none, .ext false (.t 14) 1⟩,
        ⟨some 3, none, .mv true (.t 17)⟩,
        ⟨some 4, none, .mv true (.t 18)⟩])
      (.seq
       (.seq
        (.region [
          ⟨some 19, none, .mv false (.t 4)⟩,
          ⟨some 20, none, .bin .neq (.t 19) (.c (.int .i64 0))⟩])
        (.cond (.t 20)
         (.seq
          (.region [
            ⟨some 21, none, .callF 10 [] []⟩,
            ⟨some 2, none, .mv true (.t 21)⟩])
          .ret)
         .skip))
       (.seq
        (.region [
          ⟨some 23, none, .mv false (.t 3)⟩,
          ⟨some 24, none, .callF 17 [.t 23] []⟩,
          ⟨some 22, none, .mv true (.t 24)⟩,
          ⟨some 25, none, .ext true (.t 22) 0⟩,
          ⟨some 26, none, .ext false (.t 22) 1⟩,
          ⟨some 27, none, .ext false (.t 22) 2⟩,
          ⟨some 5, none, .mv true (.t 25)⟩,
          ⟨some 6, none, .mv true (.t 26)⟩,
          ⟨some 7, none, .mv true (.t 27)⟩])
        (.seq
         (.region [
           ⟨some 28, none, .mv false (.t 3)⟩,
           ⟨some 29, none, .callF 20 [.t 28, .c (.int .i64 0)] []⟩,
           ⟨some 8, none, .mv true (.t 29)⟩])
         (.seq
          (.seq
           (.region [
             ⟨some 9, none, .mv true (.c (.int .i64 0))⟩])
           (.block 0
            (.loop
             (.seq
              (.seq
               (.region [
                 ⟨some 30, none, .mv false (.t 9)⟩,
                 ⟨some 31, none, .mv false (.t 5)⟩,
                 ⟨some 32, none, .len false (.t 31)⟩,
                 ⟨some 33, none, .bin .lss (.t 30) (.t 32)⟩])
               (.cond (.t 33)
                .skip
                (.exit 0)))
              (.seq
               (.block 1
                (.seq
                 (.seq
                  (.region [
                    ⟨some 36, none, .mv false (.t 5)⟩,
                    ⟨some 37, none, .mv false (.t 9)⟩,
                    ⟨some 38, none, .iad 2 (.t 36) (.t 37)⟩,
                    ⟨some 39, none, .fad 0 (.t 38)⟩,
                    ⟨some 40, none, .ld 1 false false (.t 39)⟩,
                    ⟨some 41, none, .mv false (.t 8)⟩,
                    ⟨some 42, none, .bin .neq (.t 40) (.t 41)⟩])
                  (.cond (.t 42)
                   (.seq
                    (.region [
                      ⟨some 2, none, .mv true (.c (.bool false))⟩])
                    .ret)
                   .skip))
                 (.region [
                   ⟨some 43, none, .mv false (.t 3)⟩,
                   ⟨some 44, none, .mv false (.t 8)⟩,
                   ⟨some 45, none, .bin .add (.t 44) (.c (.int .i64 1))⟩,
                   ⟨some 46, none, .callF 20 [.t 43, .t 45] []⟩,
                   ⟨some 8, none, .mv true (.t 46)⟩])))
               (.region [
                 ⟨some 34, none, .mv false (.t 9)⟩,
                 ⟨some 35, none, .bin .add (.t 34) (.c (.int .i64 1))⟩,
                 ⟨some 9, none, .mv true (.t 35)⟩]))))))
          (.seq
           (.region [
             ⟨some 47, none, .callF 10 [] []⟩,
             ⟨some 48, none, .mv false (.t 47)⟩,
             ⟨some 49, some (48, true), .mv false (.t 8)⟩,
             ⟨some 50, some (48, true), .mv false (.t 3)⟩,
             ⟨some 51, some (48, true), .len false (.t 50)⟩,
             ⟨some 52, some (48, true), .bin .eql (.t 49) (.t 51)⟩,
             ⟨some 53, none, .pick (.t 48) (.t 52) (.c (.bool false))⟩,
             ⟨some 54, none, .mv false (.t 53)⟩,
             ⟨some 55, some (54, true), .mv false (.t 5)⟩,
             ⟨some 56, some (54, true), .len false (.t 55)⟩,
             ⟨some 57, some (54, true), .mv false (.t 0)⟩,
             ⟨some 58, some (54, true), .len false (.t 57)⟩,
             ⟨some 59, some (54, true), .bin .add (.t 58) (.c (.int .i64 2))⟩,
             ⟨some 60, some (54, true), .bin .quo (.t 59) (.c (.int .i64 3))⟩,
             ⟨some 61, some (54, true), .bin .eql (.t 56) (.t 60)⟩,
             ⟨some 62, none, .pick (.t 54) (.t 61) (.c (.bool false))⟩,
             ⟨some 2, none, .mv true (.t 62)⟩])
           .ret)))))))⟩
theorem t5 : compF Tryd.prog {} 5 = some p5 := by kernel_rfl
def p6 : PFn :=
  ⟨81, [.t 4], .seq
    (.region [
      ⟨some 4, none, .mv true (.c (.bool false))⟩])
    (.seq
     (.seq
      (.region [
        ⟨some 13, none, .mv false (.t 0)⟩,
        ⟨some 14, none, .callF 9 [.t 13, .c (.int .i64 120), .c (.int .i64 3000)] []⟩,
        ⟨some 15, none, .un .not (.t 14)⟩,
        ⟨some 16, none, .mv false (.t 15)⟩,
        ⟨some 17, some (16, false), .mv false (.t 1)⟩,
        ⟨some 18, some (16, false), .len false (.t 17)⟩,
        ⟨some 19, some (16, false), .bin .gtr (.t 18) (.c (.int .i64 3000))⟩,
        ⟨some 20, none, .pick (.t 16) (.c (.bool true)) (.t 19)⟩])
      (.cond (.t 20)
       (.seq
        (.region [
          ⟨some 21, none, .callF 10 [] []⟩,
          ⟨some 4, none, .mv true (.t 21)⟩])
        .ret)
       .skip))
     (.seq
      (.region [
        ⟨some 23, none, .mv false (.t 0)⟩,
        ⟨some 24, none, .callF 11 [.t 23] []⟩,
        ⟨some 22, none, .mv true (.t 24)⟩,
        ⟨some 25, none, .ext true (.t 22) 0⟩,
        ⟨some 26, none, .ext false (.t 22) 1⟩,
        ⟨some 5, none, .mv true (.t 25)⟩,
        ⟨some 6, none, .mv true (.t 26)⟩])
      (.seq
       (.seq
        (.region [
          ⟨some 27, none, .mv false (.t 6)⟩,
          ⟨some 28, none, .bin .eql (.t 27) (.c (.int .i64 0))⟩])
        (.cond (.t 28)
         (.seq
          (.region [
            ⟨some 30, none, .mv false (.t 5)⟩,
            ⟨some 31, none, .callF 17 [.t 30] []⟩,
            ⟨some 29, none, .mv true (.t 31)⟩,
            ⟨some 32, none, .ext true (.t 29) 0⟩,
            ⟨some 33, none, .ext false (.t 29) 1⟩,
            ⟨some 34, none, .ext false (.t 29) 2⟩,
            ⟨some 7, none, .mv true (.t 32)⟩,
            ⟨some 8, none, .mv true (.t 33)⟩,
            ⟨some 9, none, .mv true (.t 34)⟩])
          (.seq
           (.region [
             ⟨some 35, none, .mv false (.t 9)⟩,
             ⟨some 36, none, .bin .neq (.t 35) (.c (.int .i64 0))⟩,
             ⟨some 37, none, .mv false (.t 36)⟩,
             ⟨some 38, some (37, false), .mv false (.t 8)⟩,
             ⟨some 39, some (37, false), .mv false (.t 5)⟩,
             ⟨some 40, some (37, false), .len false (.t 39)⟩,
             ⟨some 41, some (37, false), .bin .neq (.t 38) (.t 40)⟩,
             ⟨some 42, none, .pick (.t 37) (.c (.bool true)) (.t 41)⟩,
             ⟨some 43, none, .mv false (.t 42)⟩,
             ⟨some 44, some (43, false), .mv false (.t 5)⟩,
             ⟨some 45, some (43, false), .callF 21 [.t 44] []⟩,
             ⟨some 46, some (43, false), .un .not (.t 45)⟩,
             ⟨some 47, none, .pick (.t 43) (.c (.bool true)) (.t 46)⟩,
             ⟨some 48, none, .mv false (.t 47)⟩,
             ⟨some 49, some (48, false), .mv false (.t 7)⟩,
             ⟨some 50, some (48, false), .callF 18 [.t 49] []⟩,
             ⟨some 51, some (48, false), .mv false (.t 0)⟩,
             ⟨some 52, some (48, false), .callF 19 [.t 50, .t 51] []⟩,
             ⟨some 53, some (48, false), .un .not (.t 52)⟩,
             ⟨some 54, none, .pick (.t 48) (.c (.bool true)) (.t 53)⟩])
           (.cond (.t 54)
            (.seq
             (.region [
               ⟨some 4, none, .mv true (.c (.bool false))⟩])
             .ret)
            .skip)))
         .skip))
       (.seq
        (.region [
          ⟨some 55, none, .mv false (.t 1)⟩,
          ⟨some 56, none, .callF 15 [.t 55] []⟩,
          ⟨some 10, none, .mv true (.t 56)⟩])
        (.seq
         (.region [
           ⟨some 58, none, .mv false (.t 10)⟩,
           ⟨some 59, none, .callF 13 [.t 58] []⟩,
           ⟨some 57, none, .mv true (.t 59)⟩,
           ⟨some 60, none, .ext true (.t 57) 0⟩,
           ⟨some 61, none, .ext false (.t 57) 1⟩,
           ⟨some 11, none, .mv true (.t 60)⟩,
           ⟨some 12, none, .mv true (.t 61)⟩])
         (.seq
          (.region [
            ⟨some 62, none, .callF 10 [] []⟩,
            ⟨some 63, none, .mv false (.t 62)⟩,
            ⟨some 64, some (63, true), .mv false (.t 12)⟩,
            ⟨some 65, some (63, true), .bin .eql (.t 64) (.c (.int .i64 0))⟩,
            ⟨some 66, none, .pick (.t 63) (.t 65) (.c (.bool false))⟩,
            ⟨some 67, none, .mv false (.t 66)⟩,
            ⟨some 68, some (67, true), .mv false (.t 11)⟩,
            ⟨some 69, some (67, true), .cvS (.t 68)⟩,
            ⟨some 70, some (67, true), .mv false (.t 1)⟩,
            ⟨some 71, some (67, true), .cvS (.t 70)⟩,
            ⟨some 72, some (67, true), .bin .eql (.t 69) (.t 71)⟩,
            ⟨some 73, none, .pick (.t 67) (.t 72) (.c (.bool false))⟩,
            ⟨some 74, none, .mv false (.t 73)⟩,
            ⟨some 75, some (74, true), .mv false (.t 10)⟩,
            ⟨some 76, some (74, true), .callF 20 [.t 75, .c (.int .i64 0)] []⟩,
            ⟨some 77, some (74, true), .mv false (.t 10)⟩,
            ⟨some 78, some (74, true), .len false (.t 77)⟩,
            ⟨some 79, some (74, true), .bin .eql (.t 76) (.t 78)⟩,
            ⟨some 80, none, .pick (.t 74) (.t 79) (.c (.bool false))⟩,
            ⟨some 4, none, .mv true (.t 80)⟩])
          .ret))))))⟩
theorem t6 : compF Tryd.prog {} 6 = some p6 := by kernel_rfl
def p7 : PFn :=
  ⟨67, [.t 6], .seq
    (.region [
      ⟨some 6, none, .mv true (.c (.bool false))⟩])
    (.seq
     (.seq
      (.region [
        ⟨some 16, none, .mv false (.t 0)⟩,
        ⟨some 17, none, .len false (.t 16)⟩,
        ⟨some 18, none, .bin .gtr (.t 17) (.c (.int .i64 3000))⟩])
      (.cond (.t 18)
       (.seq
        (.region [
          ⟨some 19, none, .callF 10 [] []⟩,
          ⟨some 6, none, .mv true (.t 19)⟩])
        .ret)
       .skip))
     (.seq
      (.region [
        ⟨some 21, none, .mv false (.t 0)⟩,
        ⟨some 22, none, .callF 22 [.t 21] []⟩,
        ⟨some 20, none, .mv true (.t 22)⟩,
        ⟨some 23, none, .ext true (.t 20) 0⟩,
        ⟨some 24, none, .ext false (.t 20) 1⟩,
        ⟨some 25, none, .ext false (.t 20) 2⟩,
        ⟨some 7, none, .mv true (.t 23)⟩,
        ⟨some 8, none, .mv true (.t 24)⟩,
        ⟨some 9, none, .mv true (.t 25)⟩])
      (.seq
       (.region [
         ⟨some 27, none, .mv false (.t 0)⟩,
         ⟨some 28, none, .mv false (.t 1)⟩,
         ⟨some 29, none, .mv false (.t 2)⟩,
         ⟨some 30, none, .mv false (.t 8)⟩,
         ⟨some 31, none, .callF 23 [.t 27, .t 28, .t 29, .t 30] []⟩,
         ⟨some 26, none, .mv true (.t 31)⟩,
         ⟨some 32, none, .ext true (.t 26) 0⟩,
         ⟨some 33, none, .ext false (.t 26) 1⟩,
         ⟨some 10, none, .mv true (.t 32)⟩,
         ⟨some 11, none, .mv true (.t 33)⟩])
       (.seq
        (.region [
          ⟨some 35, none, .mv false (.t 0)⟩,
          ⟨some 36, none, .mv false (.t 1)⟩,
          ⟨some 37, none, .mv false (.t 2)⟩,
          ⟨some 38, none, .mv false (.t 8)⟩,
          ⟨some 39, none, .callF 24 [.t 35, .t 36, .t 37, .t 38] []⟩,
          ⟨some 34, none, .mv true (.t 39)⟩,
          ⟨some 40, none, .ext true (.t 34) 0⟩,
          ⟨some 41, none, .ext false (.t 34) 1⟩,
          ⟨some 12, none, .mv true (.t 40)⟩,
          ⟨some 13, none, .mv true (.t 41)⟩])
        (.seq
         (.region [
           ⟨some 43, none, .mv false (.t 0)⟩,
           ⟨some 44, none, .mv false (.t 1)⟩,
           ⟨some 45, none, .mv false (.t 2)⟩,
           ⟨some 46, none, .mv false (.t 0)⟩,
           ⟨some 47, none, .len false (.t 46)⟩,
           ⟨some 48, none, .bin .add (.t 47) (.c (.int .i64 1))⟩,
           ⟨some 49, none, .callF 23 [.t 43, .t 44, .t 45, .t 48] []⟩,
           ⟨some 42, none, .mv true (.t 49)⟩,
           ⟨some 50, none, .ext true (.t 42) 0⟩,
           ⟨some 51, none, .ext false (.t 42) 1⟩,
           ⟨some 14, none, .mv true (.t 50)⟩,
           ⟨some 15, none, .mv true (.t 51)⟩])
         (.seq
          (.region [
            ⟨some 52, none, .callF 10 [] []⟩,
            ⟨some 53, none, .mv false (.t 52)⟩,
            ⟨some 54, some (53, true), .mv false (.t 10)⟩,
            ⟨some 55, some (53, true), .mv false (.t 12)⟩,
            ⟨some 56, some (53, true), .callF 19 [.t 54, .t 55] []⟩,
            ⟨some 57, none, .pick (.t 53) (.t 56) (.c (.bool false))⟩,
            ⟨some 58, none, .mv false (.t 57)⟩,
            ⟨some 59, some (58, true), .mv false (.t 11)⟩,
            ⟨some 60, some (58, true), .mv false (.t 13)⟩,
            ⟨some 61, some (58, true), .bin .eql (.t 59) (.t 60)⟩,
            ⟨some 62, none, .pick (.t 58) (.t 61) (.c (.bool false))⟩,
            ⟨some 63, none, .mv false (.t 62)⟩,
            ⟨some 64, some (63, true), .mv false (.t 15)⟩,
            ⟨some 65, some (63, true), .bin .eql (.t 64) (.c (.int .i64 1))⟩,
            ⟨some 66, none, .pick (.t 63) (.t 65) (.c (.bool false))⟩,
            ⟨some 6, none, .mv true (.t 66)⟩])
          .ret))))))⟩
theorem t7 : compF Tryd.prog {} 7 = some p7 := by kernel_rfl
def p8 : PFn :=
  ⟨96, [.t 4], .seq
    (.region [
      ⟨some 4, none, .mv true (.c (.bool false))⟩])
    (.seq
     (.seq
      (.region [
        ⟨some 14, none, .mv false (.t 0)⟩,
        ⟨some 15, none, .len false (.t 14)⟩,
        ⟨some 16, none, .bin .gtr (.t 15) (.c (.int .i64 3000))⟩,
        ⟨some 17, none, .mv false (.t 16)⟩,
        ⟨some 18, some (17, false), .mv false (.t 1)⟩,
        ⟨some 19, some (17, false), .len false (.t 18)⟩,
        ⟨some 20, some (17, false), .bin .gtr (.t 19) (.c (.int .i64 100))⟩,
        ⟨some 21, none, .pick (.t 17) (.c (.bool true)) (.t 20)⟩,
        ⟨some 22, none, .mv false (.t 21)⟩,
        ⟨some 23, some (22, false), .mv false (.t 0)⟩,
        ⟨some 24, some (22, false), .len false (.t 23)⟩,
        ⟨some 25, some (22, false), .bin .eql (.t 24) (.c (.int .i64 0))⟩,
        ⟨some 26, none, .pick (.t 22) (.c (.bool true)) (.t 25)⟩])
      (.cond (.t 26)
       (.seq
        (.region [
          ⟨some 27, none, .callF 10 [] []⟩,
          ⟨some 4, none, .mv true (.t 27)⟩])
        .ret)
       .skip))
     (.seq
      (.region [
        ⟨some 29, none, .mv false (.t 0)⟩,
        ⟨some 30, none, .callF 17 [.t 29] []⟩,
        ⟨some 28, none, .mv true (.t 30)⟩,
        ⟨some 31, none, .ext true (.t 28) 0⟩,
        ⟨some 32, none, .ext false (.t 28) 1⟩,
        ⟨some 33, none, .ext false (.t 28) 2⟩,
        ⟨some 5, none, .mv true (.t 31)⟩,
        ⟨some 6, none, .mv true (.t 32)⟩,
        ⟨some 7, none, .mv true (.t 33)⟩])
      (.seq
       (.region [
         ⟨some 34, none, .mv false (.t 0)⟩,
         ⟨some 35, none, .len false (.t 34)⟩,
         ⟨some 36, none, .mv false (.t 1)⟩,
         ⟨some 37, none, .callF 25 [.t 35, .t 36] []⟩,
         ⟨some 8, none, .mv true (.t 37)⟩])
       (.seq
        (.region [
          ⟨some 38, none, .bsl 1 0 false [] [] false⟩,
          ⟨some 9, none, .mv true (.t 38)⟩])
        (.seq
         (.region [
           ⟨some 10, none, .mv true (.c (.bool false))⟩])
         (.seq
          (.seq
           (.region [
             ⟨some 11, none, .mv true (.c (.int .i64 1))⟩])
           (.block 0
            (.loop
             (.seq
              (.seq
               (.region [
                 ⟨some 39, none, .mv false (.t 11)⟩,
                 ⟨some 40, none, .mv false (.t 8)⟩,
                 ⟨some 41, none, .len false (.t 40)⟩,
                 ⟨some 42, none, .bin .lss (.t 39) (.t 41)⟩])
               (.cond (.t 42)
                .skip
                (.exit 0)))
              (.seq
               (.block 1
                (.seq
                 (.draw [
                   ⟨some 46, none, .mv false (.t 0)⟩,
                   ⟨some 47, none, .mv false (.t 8)⟩,
                   ⟨some 48, none, .mv false (.t 11)⟩,
                   ⟨some 49, none, .bin .sub (.t 48) (.c (.int .i64 1))⟩,
                   ⟨some 50, none, .iad 1 (.t 47) (.t 49)⟩,
                   ⟨some 51, none, .ld 1 false false (.t 50)⟩,
                   ⟨some 52, none, .mv false (.t 8)⟩,
                   ⟨some 53, none, .mv false (.t 11)⟩,
                   ⟨some 54, none, .iad 1 (.t 52) (.t 53)⟩,
                   ⟨some 55, none, .ld 1 false false (.t 54)⟩,
                   ⟨some 56, none, .mv false (.t 6)⟩,
                   ⟨some 57, none, .callF 23 [.t 46, .t 51, .t 55, .t 56] []⟩,
                   ⟨some 45, none, .mv true (.t 57)⟩,
                   ⟨some 58, none, .ext true (.t 45) 0⟩,
                   ⟨some 59, none, .ext false (.t 45) 1⟩,
                   ⟨some 12, none, .mv true (.t 58)⟩,
                   ⟨some 13, none, .mv true (.t 59)⟩] [])
                 (.seq
                  (.seq
                   (.region [
                     ⟨some 60, none, .mv false (.t 13)⟩,
                     ⟨some 61, none, .bin .neq (.t 60) (.c (.int .i64 0))⟩,
                     ⟨some 62, none, .mv false (.t 61)⟩,
                     ⟨some 63, some (62, true), .mv false (.t 13)⟩,
                     ⟨some 64, some (62, true), .bin .neq (.t 63) (.c (.int .i64 3))⟩,
                     ⟨some 65, none, .pick (.t 62) (.t 64) (.c (.bool false))⟩])
                   (.cond (.t 65)
                    (.seq
                     (.region [
                       ⟨some 4, none, .mv true (.c (.bool false))⟩])
                     .ret)
                    .skip))
                  (.seq
                   (.region [
                     ⟨some 66, none, .mv false (.t 10)⟩,
                     ⟨some 67, none, .mv false (.t 66)⟩,
                     ⟨some 68, some (67, false), .mv false (.t 13)⟩,
                     ⟨some 69, some (67, false), .bin .neq (.t 68) (.c (.int .i64 0))⟩,
                     ⟨some 70, none, .pick (.t 67) (.c (.bool true)) (.t 69)⟩,
                     ⟨some 10, none, .mv true (.t 70)⟩])
                   (.region [
                     ⟨some 71, none, .mv true (.t 9)⟩,
                     ⟨some 72, none, .mv false (.t 12)⟩,
                     ⟨some 73, none, .app 1 24 (.t 71) (.t 72)⟩,
                     ⟨some 9, none, .mv true (.t 73)⟩])))))
               (.region [
                 ⟨some 43, none, .mv false (.t 11)⟩,
                 ⟨some 44, none, .bin .add (.t 43) (.c (.int .i64 1))⟩,
                 ⟨some 11, none, .mv true (.t 44)⟩]))))))
          (.seq
           (.region [
             ⟨some 74, none, .callF 10 [] []⟩,
             ⟨some 75, none, .mv false (.t 74)⟩,
             ⟨some 76, some (75, true), .mv false (.t 9)⟩,
             ⟨some 77, some (75, true), .mv false (.t 5)⟩,
             ⟨some 78, some (75, true), .callF 18 [.t 77] []⟩,
             ⟨some 79, some (75, true), .callF 19 [.t 76, .t 78] []⟩,
             ⟨some 80, none, .pick (.t 75) (.t 79) (.c (.bool false))⟩,
             ⟨some 81, none, .mv false (.t 80)⟩,
             ⟨some 82, some (81, true), .mv false (.t 10)⟩,
             ⟨some 83, some (81, true), .mv false (.t 7)⟩,
             ⟨some 84, some (81, true), .bin .neq (.t 83) (.c (.int .i64 0))⟩,
             ⟨some 85, some (81, true), .binB false (.t 82) (.t 84)⟩,
             ⟨some 86, none, .pick (.t 81) (.t 85) (.c (.bool false))⟩,
             ⟨some 87, none, .mv false (.t 86)⟩,
             ⟨some 88, some (87, true), .mv false (.t 7)⟩,
             ⟨some 89, some (87, true), .bin .eql (.t 88) (.c (.int .i64 0))⟩,
             ⟨some 90, some (87, true), .mv false (.t 6)⟩,
             ⟨some 91, some (87, true), .mv false (.t 0)⟩,
             ⟨some 92, some (87, true), .len false (.t 91)⟩,
             ⟨some 93, some (87, true), .bin .eql (.t 90) (.t 92)⟩,
             ⟨some 94, some (87, true), .binB false (.t 89) (.t 93)⟩,
             ⟨some 95, none, .pick (.t 87) (.t 94) (.c (.bool false))⟩,
             ⟨some 4, none, .mv true (.t 95)⟩])
           .ret)))))))⟩
theorem t8 : compF Tryd.prog {} 8 = some p8 := by kernel_rfl
def p9 : PFn :=
  ⟨43, [.t 6], .seq
    (.region [
      ⟨some 6, none, .mv true (.c (.bool false))⟩])
    (.seq
     (.region [
       ⟨some 7, none, .mv true (.c (.int .i64 0))⟩])
     (.seq
      (.seq
       (.region [
         ⟨some 8, none, .mv true (.c (.int .i64 0))⟩])
       (.block 0
        (.loop
         (.seq
          (.seq
           (.region [
             ⟨some 10, none, .mv false (.t 8)⟩,
             ⟨some 11, none, .mv false (.t 0)⟩,
             ⟨some 12, none, .len false (.t 11)⟩,
             ⟨some 13, none, .bin .lss (.t 10) (.t 12)⟩])
           (.cond (.t 13)
            .skip
            (.exit 0)))
          (.seq
           (.block 1
            (.seq
             (.region [
               ⟨some 9, none, .mv true (.c (.int .i64 0))⟩])
             (.block 2
              (.loop
               (.seq
                (.seq
                 (.region [
                   ⟨some 16, none, .mv false (.t 9)⟩,
                   ⟨some 17, none, .mv false (.t 0)⟩,
                   ⟨some 18, none, .mv false (.t 8)⟩,
                   ⟨some 19, none, .iad 1 (.t 17) (.t 18)⟩,
                   ⟨some 20, none, .ld 1 false false (.t 19)⟩,
                   ⟨some 21, none, .len false (.t 20)⟩,
                   ⟨some 22, none, .bin .lss (.t 16) (.t 21)⟩])
                 (.cond (.t 22)
                  .skip
                  (.exit 2)))
                (.seq
                 (.block 3
                  (.seq
                   (.region [
                     ⟨some 25, none, .mv false (.t 7)⟩,
                     ⟨some 26, none, .bin .add (.t 25) (.c (.int .i64 1))⟩,
                     ⟨some 27, none, .mv false (.t 0)⟩,
                     ⟨some 28, none, .mv false (.t 8)⟩,
                     ⟨some 29, none, .iad 1 (.t 27) (.t 28)⟩,
                     ⟨some 30, none, .ld 1 false false (.t 29)⟩,
                     ⟨some 31, none, .mv false (.t 9)⟩,
                     ⟨some 32, none, .iad 1 (.t 30) (.t 31)⟩,
                     ⟨some 33, none, .ld 1 false false (.t 32)⟩,
                     ⟨some 34, none, .len true (.t 33)⟩,
                     ⟨some 35, none, .bin .add (.t 26) (.t 34)⟩,
                     ⟨some 7, none, .mv true (.t 35)⟩])
                   (.seq
                    (.region [
                      ⟨some 36, none, .mv false (.t 7)⟩,
                      ⟨some 37, none, .mv false (.t 2)⟩,
                      ⟨some 38, none, .bin .gtr (.t 36) (.t 37)⟩])
                    (.cond (.t 38)
                     (.seq
                      (.region [
                        ⟨some 6, none, .mv true (.c (.bool false))⟩])
                      .ret)
                     .skip))))
                 (.region [
                   ⟨some 23, none, .mv false (.t 9)⟩,
                   ⟨some 24, none, .bin .add (.t 23) (.c (.int .i64 1))⟩,
                   ⟨some 9, none, .mv true (.t 24)⟩])))))))
           (.region [
             ⟨some 14, none, .mv false (.t 8)⟩,
             ⟨some 15, none, .bin .add (.t 14) (.c (.int .i64 1))⟩,
             ⟨some 8, none, .mv true (.t 15)⟩]))))))
      (.seq
       (.region [
         ⟨some 39, none, .mv false (.t 0)⟩,
         ⟨some 40, none, .len false (.t 39)⟩,
         ⟨some 41, none, .mv false (.t 1)⟩,
         ⟨some 42, none, .bin .leq (.t 40) (.t 41)⟩,
         ⟨some 6, none, .mv true (.t 42)⟩])
       .ret)))⟩
theorem t9 : compF Tryd.prog {} 9 = some p9 := by kernel_rfl
def p10 : PFn :=
  ⟨57, [.t 0], .seq
    (.region [
      ⟨some 0, none, .mv true (.c (.bool false))⟩])
    (.seq
     (.region [
       ⟨some 9, none, .callF 11 [.c (.lst 0 [] true)] []⟩,
       ⟨some 8, none, .mv true (.t 9)⟩,
       ⟨some 10, none, .ext true (.t 8) 0⟩,
       ⟨some 11, none, .ext false (.t 8) 1⟩,
       ⟨some 1, none, .mv true (.t 10)⟩,
       ⟨some 2, none, .mv true (.t 11)⟩])
     (.seq
      (.region [
        ⟨some 13, none, .bsl 1 2 false [.str [], .str []] [(0, .c (.str [97])), (1, .c (.str [255, 83]))] false⟩,
        ⟨some 14, none, .bsl 1 1 false [.lst 0 [] true] [(0, .t 13)] false⟩,
        ⟨some 15, none, .callF 11 [.t 14] []⟩,
        ⟨some 12, none, .mv true (.t 15)⟩,
        ⟨some 16, none, .ext true (.t 12) 0⟩,
        ⟨some 17, none, .ext false (.t 12) 1⟩,
        ⟨some 3, none, .mv true (.t 16)⟩,
        ⟨some 4, none, .mv true (.t 17)⟩])
      (.seq
       (.region [
         ⟨some 19, none, .mv false (.t 3)⟩,
         ⟨some 20, none, .callF 17 [.t 19] []⟩,
         ⟨some 18, none, .mv true (.t 20)⟩,
         ⟨some 21, none, .ext true (.t 18) 0⟩,
         ⟨some 22, none, .ext false (.t 18) 1⟩,
         ⟨some 23, none, .ext false (.t 18) 2⟩,
         ⟨some 5, none, .mv true (.t 21)⟩,
         ⟨some 6, none, .mv true (.t 22)⟩,
         ⟨some 7, none, .mv true (.t 23)⟩])
       (.seq
        (.region [
          ⟨some 24, none, .mv false (.t 1)⟩,
          ⟨some 25, none, .cvS (.t 24)⟩,
          ⟨some 26, none, .bin .eql (.t 25) (.c (.str [84, 83, 81, 49]))⟩,
          ⟨some 27, none, .mv false (.t 26)⟩,
          ⟨some 28, some (27, true), .mv false (.t 2)⟩,
          ⟨some 29, some (27, true), .bin .eql (.t 28) (.c (.int .i64 0))⟩,
          ⟨some 30, none, .pick (.t 27) (.t 29) (.c (.bool false))⟩,
          ⟨some 31, none, .mv false (.t 30)⟩,
          ⟨some 32, some (31, true), .mv false (.t 4)⟩,
          ⟨some 33, some (31, true), .bin .eql (.t 32) (.c (.int .i64 0))⟩,
          ⟨some 34, none, .pick (.t 31) (.t 33) (.c (.bool false))⟩,
          ⟨some 35, none, .mv false (.t 34)⟩,
          ⟨some 36, some (35, true), .mv false (.t 5)⟩,
          ⟨some 37, some (35, true), .len false (.t 36)⟩,
          ⟨some 38, some (35, true), .bin .eql (.t 37) (.c (.int .i64 1))⟩,
          ⟨some 39, none, .pick (.t 35) (.t 38) (.c (.bool false))⟩,
          ⟨some 40, none, .mv false (.t 39)⟩,
          ⟨some 41, some (40, true), .mv false (.t 5)⟩,
          ⟨some 42, some (40, true), .iad 2 (.t 41) (.c (.int .i64 0))⟩,
          ⟨some 43, some (40, true), .fad 0 (.t 42)⟩,
          ⟨some 44, some (40, true), .ld 1 false false (.t 43)⟩,
          ⟨some 45, some (40, true), .bin .eql (.t 44) (.c (.int .i64 4))⟩,
          ⟨some 46, none, .pick (.t 40) (.t 45) (.c (.bool false))⟩,
          ⟨some 47, none, .mv false (.t 46)⟩,
          ⟨some 48, some (47, true), .mv false (.t 6)⟩,
          ⟨some 49, some (47, true), .mv false (.t 3)⟩,
          ⟨some 50, some (47, true), .len false (.t 49)⟩,
          ⟨some 51, some (47, true), .bin .eql (.t 48) (.t 50)⟩,
          ⟨some 52, none, .pick (.t 47) (.t 51) (.c (.bool false))⟩,
          ⟨some 53, none, .mv false (.t 52)⟩,
          ⟨some 54, some (53, true), .mv false (.t 7)⟩,
          ⟨some 55, some (53, true), .bin .eql (.t 54) (.c (.int .i64 0))⟩,
          ⟨some 56, none, .pick (.t 53) (.t 55) (.c (.bool false))⟩,
          ⟨some 0, none, .mv true (.t 56)⟩])
        .ret))))⟩
theorem t10 : compF Tryd.prog {} 10 = some p10 := by kernel_rfl
def p11 : PFn :=
  ⟨53, [.c 2 1 false, .c 3 1 false], .seq
    (.region [
      ⟨some 2, none, .al [.lst 0 [] true]⟩,
      ⟨some 3, none, .al [.int .i64 0]⟩])
    (.seq
     (.region [
       ⟨some 10, none, .nl 1 4 false [.int .u8 0, .int .u8 0, .int .u8 0, .int .u8 0] [(0, .c (.int .u8 84)), (1, .c (.int .u8 83)), (2, .c (.int .u8 81)), (3, .c (.int .u8 49))]⟩,
       ⟨some 11, none, .cvM (.t 10)⟩,
       ⟨some 12, none, .callF 26 [] []⟩,
       ⟨some 4, none, .al [.lst 0 [] true]⟩,
       ⟨some 5, none, .al [.lst 0 [] true]⟩,
       ⟨none, none, .sto 1 (.t 4) (.t 11)⟩,
       ⟨none, none, .sto 1 (.t 5) (.t 12)⟩])
     (.seq
      (.seq
       (.region [
         ⟨some 13, none, .mv false (.t 0)⟩,
         ⟨some 14, none, .callF 27 [.t 13, .c (.int .i64 3)] []⟩])
       (.block 0
        (.rangeF (.t 14) [15] (.region [
          ⟨some 6, none, .mv true (.t 15)⟩]) (.block 1
         (.seq
          (.region [
            ⟨some 16, none, .mv false (.t 6)⟩,
            ⟨some 17, none, .len false (.t 16)⟩,
            ⟨some 18, none, .cvI .u64 (.t 17)⟩,
            ⟨some 19, none, .callF 28 [.c (.lst 0 [] true), .t 18] []⟩,
            ⟨some 7, none, .mv true (.t 19)⟩])
          (.seq
           (.seq
            (.region [
              ⟨some 20, none, .mv false (.t 6)⟩,
              ⟨some 21, none, .len false (.t 20)⟩,
              ⟨some 22, none, .mv false (.c (.int .i64 0))⟩])
            (.block 2
             (.loop
              (.seq
               (.region [
                 ⟨some 23, none, .bin .lss (.t 22) (.t 21)⟩])
               (.seq
                (.cond (.t 23)
                 .skip
                 (.exit 2))
                (.seq
                 (.block 3
                  (.seq
                   (.region [
                     ⟨some 24, none, .iad 1 (.t 20) (.t 22)⟩,
                     ⟨some 25, none, .ld 1 false false (.t 24)⟩,
                     ⟨some 9, none, .mv true (.t 25)⟩])
                   (.seq
                    (.seq
                     (.region [
                       ⟨some 26, none, .mv false (.t 9)⟩,
                       ⟨some 27, none, .callF 29 [.t 26] []⟩,
                       ⟨some 28, none, .un .not (.t 27)⟩])
                     (.cond (.t 28)
                      (.seq
                       (.region [
                         ⟨none, none, .sto 1 (.t 2) (.c (.lst 0 [] true))⟩,
                         ⟨none, none, .sto 1 (.t 3) (.c (.int .i64 10))⟩])
                       .ret)
                      .skip))
                    (.draw [
                      ⟨some 29, none, .mv false (.t 7)⟩,
                      ⟨some 30, none, .mv false (.t 9)⟩,
                      ⟨some 31, none, .iad 1 (.t 30) (.c (.int .i64 0))⟩,
                      ⟨some 32, none, .ld 1 false false (.t 31)⟩,
                      ⟨some 33, none, .mv false (.t 9)⟩,
                      ⟨some 34, none, .iad 1 (.t 33) (.c (.int .i64 1))⟩,
                      ⟨some 35, none, .ld 1 false false (.t 34)⟩,
                      ⟨some 36, none, .build [.str [], .str []] [(0, (1, .t 32)), (1, (1, .t 35))]⟩,
                      ⟨some 37, none, .callF 30 [.t 29, .t 36] []⟩,
                      ⟨some 7, none, .mv true (.t 37)⟩] []))))
                 (.region [
                   ⟨some 38, none, .bin .add (.t 22) (.c (.int .i64 1))⟩,
                   ⟨some 22, none, .mv false (.t 38)⟩])))))))
           (.seq
            (.region [
              ⟨some 40, none, .ld 1 false false (.t 5)⟩,
              ⟨some 41, none, .mv false (.t 7)⟩,
              ⟨some 42, none, .callF 31 [.t 40, .t 41] []⟩,
              ⟨some 39, none, .mv true (.t 42)⟩,
              ⟨some 43, none, .ext true (.t 39) 0⟩,
              ⟨some 44, none, .ext false (.t 39) 1⟩,
              ⟨some 7, none, .mv true (.t 43)⟩])
            (.draw [
              ⟨some 45, none, .ld 1 false false (.t 4)⟩,
              ⟨some 46, none, .nl 1 2 false [.int .u8 0, .int .u8 0] [(0, .c (.int .u8 255)), (1, .c (.int .u8 83))]⟩,
              ⟨some 47, none, .cvM (.t 46)⟩,
              ⟨some 48, none, .mv false (.t 7)⟩,
              ⟨some 49, none, .callF 15 [.t 48] []⟩,
              ⟨some 50, none, .bsl 1 3 false [.lst 0 [] true, .lst 0 [] true, .lst 0 [] true] [(0, .t 45), (1, .t 47), (2, .t 49)] false⟩,
              ⟨some 51, none, .callF 32 [.t 50] []⟩,
              ⟨none, none, .sto 1 (.t 4) (.t 51)⟩] []))))))))
      (.seq
       (.region [
         ⟨some 52, none, .ld 1 false false (.t 4)⟩,
         ⟨none, none, .sto 1 (.t 2) (.t 52)⟩,
         ⟨none, none, .sto 1 (.t 3) (.c (.int .i64 0))⟩])
       .ret)))⟩
theorem t11 : compF Tryd.prog {} 11 = some p11 := by kernel_rfl
def p12 : PFn :=
  ⟨84, [.t 2, .t 3], .seq
    (.region [
      ⟨some 2, none, .mv true (.c (.lst 0 [] true))⟩,
      ⟨some 3, none, .mv true (.c (.int .i64 0))⟩])
    (.seq
     (.region [
       ⟨some 9, none, .nl 1 4 false [.int .u8 0, .int .u8 0, .int .u8 0, .int .u8 0] [(0, .c (.int .u8 84)), (1, .c (.int .u8 83)), (2, .c (.int .u8 81)), (3, .c (.int .u8 49))]⟩,
       ⟨some 10, none, .cvM (.t 9)⟩,
       ⟨some 4, none, .mv true (.t 10)⟩])
     (.seq
      (.seq
       (.region [
         ⟨some 5, none, .mv true (.c (.int .i64 0))⟩])
       (.block 0
        (.loop
         (.seq
          (.seq
           (.region [
             ⟨some 11, none, .mv false (.t 5)⟩,
             ⟨some 12, none, .mv false (.t 0)⟩,
             ⟨some 13, none, .len false (.t 12)⟩,
             ⟨some 14, none, .bin .lss (.t 11) (.t 13)⟩])
           (.cond (.t 14)
            .skip
            (.exit 0)))
          (.seq
           (.block 1
            (.seq
             (.region [
               ⟨some 17, none, .mv false (.t 0)⟩,
               ⟨some 18, none, .mv false (.t 5)⟩,
               ⟨some 19, none, .iad 1 (.t 17) (.t 18)⟩,
               ⟨some 20, none, .ld 1 false false (.t 19)⟩,
               ⟨some 21, none, .len false (.t 20)⟩,
               ⟨some 22, none, .bin .neq (.t 21) (.c (.int .i64 2))⟩,
               ⟨some 23, none, .mv false (.t 22)⟩,
               ⟨some 24, some (23, false), .mv false (.t 0)⟩,
               ⟨some 25, some (23, false), .mv false (.t 5)⟩,
               ⟨some 26, some (23, false), .iad 1 (.t 24) (.t 25)⟩,
               ⟨some 27, some (23, false), .ld 1 false false (.t 26)⟩,
               ⟨some 28, some (23, false), .iad 1 (.t 27) (.c (.int .i64 0))⟩,
               ⟨some 29, some (23, false), .ld 1 false false (.t 28)⟩,
               ⟨some 30, some (23, false), .len true (.t 29)⟩,
               ⟨some 31, some (23, false), .bin .gtr (.t 30) (.c (.int .i64 1000))⟩,
               ⟨some 32, none, .pick (.t 23) (.c (.bool true)) (.t 31)⟩,
               ⟨some 33, none, .mv false (.t 32)⟩,
               ⟨some 34, some (33, false), .mv false (.t 0)⟩,
               ⟨some 35, some (33, false), .mv false (.t 5)⟩,
               ⟨some 36, some (33, false), .iad 1 (.t 34) (.t 35)⟩,
               ⟨some 37, some (33, false), .ld 1 false false (.t 36)⟩,
               ⟨some 38, some (33, false), .iad 1 (.t 37) (.c (.int .i64 1))⟩,
               ⟨some 39, some (33, false), .ld 1 false false (.t 38)⟩,
               ⟨some 40, some (33, false), .len true (.t 39)⟩,
               ⟨some 41, some (33, false), .bin .gtr (.t 40) (.c (.int .i64 1000))⟩,
               ⟨some 42, none, .pick (.t 33) (.c (.bool true)) (.t 41)⟩])
             (.cond (.t 42)
              (.seq
               (.region [
                 ⟨some 2, none, .mv true (.c (.lst 0 [] true))⟩,
                 ⟨some 3, none, .mv true (.c (.int .i64 10))⟩])
               .ret)
              .skip)))
           (.region [
             ⟨some 15, none, .mv false (.t 5)⟩,
             ⟨some 16, none, .bin .add (.t 15) (.c (.int .i64 1))⟩,
             ⟨some 5, none, .mv true (.t 16)⟩]))))))
      (.seq
       (.block 2
        (.loop
         (.seq
          (.seq
           (.region [
             ⟨some 43, none, .mv false (.t 0)⟩,
             ⟨some 44, none, .len false (.t 43)⟩,
             ⟨some 45, none, .bin .gtr (.t 44) (.c (.int .i64 0))⟩])
           (.cond (.t 45)
            .skip
            (.exit 2)))
          (.block 3
           (.seq
            (.region [
              ⟨some 46, none, .mv false (.t 0)⟩,
              ⟨some 47, none, .len false (.t 46)⟩,
              ⟨some 48, none, .mm false (.c (.int .i64 3)) (.t 47)⟩,
              ⟨some 6, none, .mv true (.t 48)⟩])
            (.seq
             (.region [
               ⟨some 49, none, .mv false (.t 6)⟩,
               ⟨some 50, none, .cvI .u64 (.t 49)⟩,
               ⟨some 51, none, .callF 33 [.c (.lst 0 [] true), .t 50] []⟩,
               ⟨some 7, none, .mv true (.t 51)⟩])
             (.seq
              (.seq
               (.region [
                 ⟨some 8, none, .mv true (.c (.int .i64 0))⟩])
               (.block 4
                (.loop
                 (.seq
                  (.seq
                   (.region [
                     ⟨some 52, none, .mv false (.t 8)⟩,
                     ⟨some 53, none, .mv false (.t 6)⟩,
                     ⟨some 54, none, .bin .lss (.t 52) (.t 53)⟩])
                   (.cond (.t 54)
                    .skip
                    (.exit 4)))
                  (.seq
                   (.block 5
                    (.draw [
                      ⟨some 57, none, .mv false (.t 7)⟩,
                      ⟨some 58, none, .mv false (.t 0)⟩,
                      ⟨some 59, none, .mv false (.t 8)⟩,
                      ⟨some 60, none, .iad 1 (.t 58) (.t 59)⟩,
                      ⟨some 61, none, .ld 1 false false (.t 60)⟩,
                      ⟨some 62, none, .iad 1 (.t 61) (.c (.int .i64 0))⟩,
                      ⟨some 63, none, .ld 1 false false (.t 62)⟩,
                      ⟨some 64, none, .mv false (.t 0)⟩,
                      ⟨some 65, none, .mv false (.t 8)⟩,
                      ⟨some 66, none, .iad 1 (.t 64) (.t 65)⟩,
                      ⟨some 67, none, .ld 1 false false (.t 66)⟩,
                      ⟨some 68, none, .iad 1 (.t 67) (.c (.int .i64 1))⟩,
                      ⟨some 69, none, .ld 1 false false (.t 68)⟩,
                      ⟨some 70, none, .build [.str [], .str []] [(0, (1, .t 63)), (1, (1, .t 69))]⟩,
                      ⟨some 71, none, .callF 34 [.t 57, .t 70] []⟩,
                      ⟨some 7, none, .mv true (.t 71)⟩] []))
                   (.region [
                     ⟨some 55, none, .mv false (.t 8)⟩,
                     ⟨some 56, none, .bin .add (.t 55) (.c (.int .i64 1))⟩,
                     ⟨some 8, none, .mv true (.t 56)⟩]))))))
              (.seq
               (.region [
                 ⟨some 72, none, .mv true (.t 4)⟩,
                 ⟨some 73, none, .bsl 1 2 false [.int .u8 0, .int .u8 0] [(0, .c (.int .u8 255)), (1, .c (.int .u8 83))] false⟩,
                 ⟨some 74, none, .app 1 1 (.t 72) (.t 73)⟩,
                 ⟨some 4, none, .mv true (.t 74)⟩])
               (.seq
                (.region [
                  ⟨some 75, none, .mv true (.t 4)⟩,
                  ⟨some 76, none, .mv false (.t 7)⟩,
                  ⟨some 77, none, .callF 35 [.t 76] []⟩,
                  ⟨some 78, none, .callF 16 [.t 77] []⟩,
                  ⟨some 79, none, .app 1 1 (.t 75) (.t 78)⟩,
                  ⟨some 4, none, .mv true (.t 79)⟩])
                (.region [
                  ⟨some 80, none, .mv false (.t 0)⟩,
                  ⟨some 81, none, .mv false (.t 6)⟩,
                  ⟨some 82, none, .sli 1 (.t 80) (some (.t 81)) none none⟩,
                  ⟨some 0, none, .mv true (.t 82)⟩]))))))))))
       (.seq
        (.region [
          ⟨some 83, none, .mv true (.t 4)⟩,
          ⟨some 2, none, .mv true (.t 83)⟩,
          ⟨some 3, none, .mv true (.c (.int .i64 0))⟩])
        .ret))))⟩
theorem t12 : compF Tryd.prog {} 12 = some p12 := by kernel_rfl
def p13 : PFn :=
  ⟨19, [.t 2, .t 3], .seq
    (.region [
      ⟨some 2, none, .mv true (.c (.lst 0 [] true))⟩,
      ⟨some 3, none, .mv true (.c (.int .i64 0))⟩])
    (.seq
     (.region [
       ⟨some 5, none, .mv false (.t 0)⟩,
       ⟨some 6, none, .bsl 1 2 false [.int .u8 0, .int .u8 0] [(0, .c (.int .u8 255)), (1, .c (.int .u8 0))] false⟩,
       ⟨some 7, none, .bsl 1 1 false [.int .u8 0] [(0, .c (.int .u8 255))] false⟩,
       ⟨some 8, none, .callF 36 [.t 5, .t 6, .t 7] []⟩,
       ⟨some 4, none, .mv true (.t 8)⟩])
     (.seq
      (.seq
       (.region [
         ⟨some 9, none, .mv false (.t 0)⟩,
         ⟨some 10, none, .bsl 1 1 false [.int .u8 0] [(0, .c (.int .u8 255))] false⟩,
         ⟨some 11, none, .callF 37 [.t 9, .t 10] []⟩,
         ⟨some 12, none, .mv false (.t 0)⟩,
         ⟨some 13, none, .len false (.t 12)⟩,
         ⟨some 14, none, .mv false (.t 4)⟩,
         ⟨some 15, none, .len false (.t 14)⟩,
         ⟨some 16, none, .bin .sub (.t 13) (.t 15)⟩,
         ⟨some 17, none, .bin .neq (.t 11) (.t 16)⟩])
       (.cond (.t 17)
        (.seq
         (.region [
           ⟨some 2, none, .mv true (.c (.lst 0 [] true))⟩,
           ⟨some 3, none, .mv true (.c (.int .i64 3))⟩])
         .ret)
        .skip))
      (.seq
       (.region [
         ⟨some 18, none, .mv true (.t 4)⟩,
         ⟨some 2, none, .mv true (.t 18)⟩,
         ⟨some 3, none, .mv true (.c (.int .i64 0))⟩])
       .ret)))⟩
theorem t13 : compF Tryd.prog {} 13 = some p13 := by kernel_rfl
def p14 : PFn :=
  ⟨39, [.t 2, .t 3], .seq
    (.region [
      ⟨some 2, none, .mv true (.c (.lst 0 [] true))⟩,
      ⟨some 3, none, .mv true (.c (.int .i64 0))⟩])
    (.seq
     (.region [
       ⟨some 6, none, .bsl 1 0 false [] [] false⟩,
       ⟨some 4, none, .mv true (.t 6)⟩])
     (.seq
      (.seq
       (.region [
         ⟨some 5, none, .mv true (.c (.int .i64 0))⟩])
       (.block 0
        (.loop
         (.seq
          (.seq
           (.region [
             ⟨some 7, none, .mv false (.t 5)⟩,
             ⟨some 8, none, .mv false (.t 0)⟩,
             ⟨some 9, none, .len false (.t 8)⟩,
             ⟨some 10, none, .bin .lss (.t 7) (.t 9)⟩])
           (.cond (.t 10)
            .skip
            (.exit 0)))
          (.seq
           (.block 1
            (.seq
             (.region [
               ⟨some 13, none, .mv true (.t 4)⟩,
               ⟨some 14, none, .mv false (.t 0)⟩,
               ⟨some 15, none, .mv false (.t 5)⟩,
               ⟨some 16, none, .iad 1 (.t 14) (.t 15)⟩,
               ⟨some 17, none, .ld 1 false false (.t 16)⟩,
               ⟨some 18, none, .bsl 1 1 false [.int .u8 0] [(0, .t 17)] false⟩,
               ⟨some 19, none, .app 1 1 (.t 13) (.t 18)⟩,
               ⟨some 4, none, .mv true (.t 19)⟩])
             (.seq
              (.region [
                ⟨some 20, none, .mv false (.t 0)⟩,
                ⟨some 21, none, .mv false (.t 5)⟩,
                ⟨some 22, none, .iad 1 (.t 20) (.t 21)⟩,
                ⟨some 23, none, .ld 1 false false (.t 22)⟩,
                ⟨some 24, none, .bin .eql (.t 23) (.c (.int .u8 255))⟩])
              (.cond (.t 24)
               (.seq
                (.region [
                  ⟨some 25, none, .mv false (.t 5)⟩,
                  ⟨some 26, none, .bin .add (.t 25) (.c (.int .i64 1))⟩,
                  ⟨some 5, none, .mv true (.t 26)⟩])
                (.seq
                 (.region [
                   ⟨some 27, none, .mv false (.t 5)⟩,
                   ⟨some 28, none, .mv false (.t 0)⟩,
                   ⟨some 29, none, .len false (.t 28)⟩,
                   ⟨some 30, none, .bin .eql (.t 27) (.t 29)⟩,
                   ⟨some 31, none, .mv false (.t 30)⟩,
                   ⟨some 32, some (31, false), .mv false (.t 0)⟩,
                   ⟨some 33, some (31, false), .mv false (.t 5)⟩,
                   ⟨some 34, some (31, false), .iad 1 (.t 32) (.t 33)⟩,
                   ⟨some 35, some (31, false), .ld 1 false false (.t 34)⟩,
                   ⟨some 36, some (31, false), .bin .neq (.t 35) (.c (.int .u8 0))⟩,
                   ⟨some 37, none, .pick (.t 31) (.c (.bool true)) (.t 36)⟩])
                 (.cond (.t 37)
                  (.seq
                   (.region [
                     ⟨some 2, none, .mv true (.c (.lst 0 [] true))⟩,
                     ⟨some 3, none, .mv true (.c (.int .i64 3))⟩])
                   .ret)
                  .skip)))
               .skip))))
           (.region [
             ⟨some 11, none, .mv false (.t 5)⟩,
             ⟨some 12, none, .bin .add (.t 11) (.c (.int .i64 1))⟩,
             ⟨some 5, none, .mv true (.t 12)⟩]))))))
      (.seq
       (.region [
         ⟨some 38, none, .mv true (.t 4)⟩,
         ⟨some 2, none, .mv true (.t 38)⟩,
         ⟨some 3, none, .mv true (.c (.int .i64 0))⟩])
       .ret)))⟩
theorem t14 : compF Tryd.prog {} 14 = some p14 := by kernel_rfl
def p15 : PFn :=
  ⟨7, [.t 2], .seq
    (.region [
      ⟨some 2, none, .mv true (.c (.lst 0 [] true))⟩])
    (.seq
     (.region [
       ⟨some 3, none, .mv false (.t 0)⟩,
       ⟨some 4, none, .bsl 1 1 false [.int .u8 0] [(0, .c (.int .u8 255))] false⟩,
       ⟨some 5, none, .bsl 1 2 false [.int .u8 0, .int .u8 0] [(0, .c (.int .u8 255)), (1, .c (.int .u8 0))] false⟩,
       ⟨some 6, none, .callF 36 [.t 3, .t 4, .t 5] []⟩,
       ⟨some 2, none, .mv true (.t 6)⟩])
     .ret)⟩
theorem t15 : compF Tryd.prog {} 15 = some p15 := by kernel_rfl
def p16 : PFn :=
  ⟨28, [.t 2], .seq
    (.region [
      ⟨some 2, none, .mv true (.c (.lst 0 [] true))⟩])
    (.seq
     (.region [
       ⟨some 5, none, .bsl 1 0 false [] [] false⟩,
       ⟨some 3, none, .mv true (.t 5)⟩])
     (.seq
      (.seq
       (.region [
         ⟨some 4, none, .mv true (.c (.int .i64 0))⟩])
       (.block 0
        (.loop
         (.seq
          (.seq
           (.region [
             ⟨some 6, none, .mv false (.t 4)⟩,
             ⟨some 7, none, .mv false (.t 0)⟩,
             ⟨some 8, none, .len false (.t 7)⟩,
             ⟨some 9, none, .bin .lss (.t 6) (.t 8)⟩])
           (.cond (.t 9)
            .skip
            (.exit 0)))
          (.seq
           (.block 1
            (.seq
             (.region [
               ⟨some 12, none, .mv true (.t 3)⟩,
               ⟨some 13, none, .mv false (.t 0)⟩,
               ⟨some 14, none, .mv false (.t 4)⟩,
               ⟨some 15, none, .iad 1 (.t 13) (.t 14)⟩,
               ⟨some 16, none, .ld 1 false false (.t 15)⟩,
               ⟨some 17, none, .bsl 1 1 false [.int .u8 0] [(0, .t 16)] false⟩,
               ⟨some 18, none, .app 1 1 (.t 12) (.t 17)⟩,
               ⟨some 3, none, .mv true (.t 18)⟩])
             (.seq
              (.region [
                ⟨some 19, none, .mv false (.t 0)⟩,
                ⟨some 20, none, .mv false (.t 4)⟩,
                ⟨some 21, none, .iad 1 (.t 19) (.t 20)⟩,
                ⟨some 22, none, .ld 1 false false (.t 21)⟩,
                ⟨some 23, none, .bin .eql (.t 22) (.c (.int .u8 255))⟩])
              (.cond (.t 23)
               (.region [
                 ⟨some 24, none, .mv true (.t 3)⟩,
                 ⟨some 25, none, .bsl 1 1 false [.int .u8 0] [(0, .c (.int .u8 0))] false⟩,
                 ⟨some 26, none, .app 1 1 (.t 24) (.t 25)⟩,
                 ⟨some 3, none, .mv true (.t 26)⟩])
               .skip))))
           (.region [
             ⟨some 10, none, .mv false (.t 4)⟩,
             ⟨some 11, none, .bin .add (.t 10) (.c (.int .i64 1))⟩,
             ⟨some 4, none, .mv true (.t 11)⟩]))))))
      (.seq
       (.region [
         ⟨some 27, none, .mv true (.t 3)⟩,
         ⟨some 2, none, .mv true (.t 27)⟩])
       .ret)))⟩
theorem t16 : compF Tryd.prog {} 16 = some p16 := by kernel_rfl
def p17 : PFn :=
  ⟨32, [.t 2, .t 3, .t 4], .seq
    (.region [
      ⟨some 2, none, .mv true (.c (.lst 0 [] true))⟩,
      ⟨some 3, none, .mv true (.c (.int .i64 0))⟩,
      ⟨some 4, none, .mv true (.c (.int .i64 0))⟩])
    (.seq
     (.seq
      (.region [
        ⟨some 9, none, .mv false (.t 0)⟩,
        ⟨some 10, none, .nl 1 4 false [.int .u8 0, .int .u8 0, .int .u8 0, .int .u8 0] [(0, .c (.int .u8 84)), (1, .c (.int .u8 83)), (2, .c (.int .u8 81)), (3, .c (.int .u8 49))]⟩,
        ⟨some 11, none, .cvM (.t 10)⟩,
        ⟨some 12, none, .callF 38 [.t 9, .t 11] []⟩,
        ⟨some 13, none, .un .not (.t 12)⟩])
      (.cond (.t 13)
       (.seq
        (.region [
          ⟨some 2, none, .mv true (.c (.lst 0 [] true))⟩,
          ⟨some 3, none, .mv true (.c (.int .i64 0))⟩,
          ⟨some 4, none, .mv true (.c (.int .i64 3))⟩])
        .ret)
       .skip))
     (.seq
      (.region [
        ⟨some 5, none, .al [.lst 0 [] true]⟩])
      (.seq
       (.region [
         ⟨some 6, none, .al [.int .i64 0]⟩,
         ⟨none, none, .sto 1 (.t 6) (.c (.int .i64 4))⟩])
       (.seq
        (.seq
         (.region [
           ⟨some 14, none, .mv false (.t 0)⟩,
           ⟨some 15, none, .ld 1 false false (.t 6)⟩,
           ⟨some 16, none, .callF 39 [.t 14, .t 15] []⟩])
         (.block 0
          (.rangeF (.t 16) [17, 18] (.seq
           (.region [
             ⟨some 7, none, .mv true (.t 17)⟩])
           (.region [
             ⟨some 8, none, .al [.int .i64 0, .lst 0 [] true]⟩,
             ⟨none, none, .sto 2 (.t 8) (.t 18)⟩])) (.block 1
           (.region [
             ⟨some 19, none, .ld 1 false false (.t 5)⟩,
             ⟨some 20, none, .ld 2 true false (.t 8)⟩,
             ⟨some 21, none, .bsl 2 1 true [.int .i64 0, .lst 0 [] true] [(0, .t 20)] false⟩,
             ⟨some 22, none, .app 2 32 (.t 19) (.t 21)⟩,
             ⟨some 23, none, .mv true (.t 7)⟩,
             ⟨none, none, .sto 1 (.t 5) (.t 22)⟩,
             ⟨none, none, .sto 1 (.t 6) (.t 23)⟩])))))
        (.seq
         (.seq
          (.region [
            ⟨some 24, none, .ld 1 false false (.t 6)⟩,
            ⟨some 25, none, .mv false (.t 0)⟩,
            ⟨some 26, none, .len false (.t 25)⟩,
            ⟨some 27, none, .bin .lss (.t 24) (.t 26)⟩])
          (.cond (.t 27)
           (.seq
            (.draw [
              ⟨some 28, none, .ld 1 false false (.t 5)⟩,
              ⟨some 29, none, .ld 1 false false (.t 6)⟩,
              ⟨some 2, none, .mv true (.t 28)⟩,
              ⟨some 3, none, .mv true (.t 29)⟩,
              ⟨some 4, none, .mv true (.c (.int .i64 3))⟩] [])
            .ret)
           .skip))
         (.seq
          (.draw [
            ⟨some 30, none, .ld 1 false false (.t 5)⟩,
            ⟨some 31, none, .ld 1 false false (.t 6)⟩,
            ⟨some 2, none, .mv true (.t 30)⟩,
            ⟨some 3, none, .mv true (.t 31)⟩,
            ⟨some 4, none, .mv true (.c (.int .i64 0))⟩] [])
          .ret))))))⟩
theorem t17 : compF Tryd.prog {} 17 = some p17 := by kernel_rfl
def p18 : PFn :=
  ⟨20, [.t 2], .seq
    (.region [
      ⟨some 2, none, .mv true (.c (.lst 0 [] true))⟩])
    (.seq
     (.region [
       ⟨some 5, none, .bsl 1 0 false [] [] false⟩,
       ⟨some 3, none, .mv true (.t 5)⟩])
     (.seq
      (.seq
       (.region [
         ⟨some 4, none, .mv true (.c (.int .i64 0))⟩])
       (.block 0
        (.loop
         (.seq
          (.seq
           (.region [
             ⟨some 6, none, .mv false (.t 4)⟩,
             ⟨some 7, none, .mv false (.t 0)⟩,
             ⟨some 8, none, .len false (.t 7)⟩,
             ⟨some 9, none, .bin .lss (.t 6) (.t 8)⟩])
           (.cond (.t 9)
            .skip
            (.exit 0)))
          (.seq
           (.block 1
            (.region [
              ⟨some 12, none, .mv true (.t 3)⟩,
              ⟨some 13, none, .mv false (.t 0)⟩,
              ⟨some 14, none, .mv false (.t 4)⟩,
              ⟨some 15, none, .iad 2 (.t 13) (.t 14)⟩,
              ⟨some 16, none, .fad 1 (.t 15)⟩,
              ⟨some 17, none, .ld 1 false false (.t 16)⟩,
              ⟨some 18, none, .app 1 24 (.t 12) (.t 17)⟩,
              ⟨some 3, none, .mv true (.t 18)⟩]))
           (.region [
             ⟨some 10, none, .mv false (.t 4)⟩,
             ⟨some 11, none, .bin .add (.t 10) (.c (.int .i64 1))⟩,
             ⟨some 4, none, .mv true (.t 11)⟩]))))))
      (.seq
       (.region [
         ⟨some 19, none, .mv true (.t 3)⟩,
         ⟨some 2, none, .mv true (.t 19)⟩])
       .ret)))⟩
theorem t18 : compF Tryd.prog {} 18 = some p18 := by kernel_rfl
def p19 : PFn :=
  ⟨27, [.t 4], .seq
    (.region [
      ⟨some 4, none, .mv true (.c (.bool false))⟩])
    (.seq
     (.seq
      (.region [
        ⟨some 6, none, .mv false (.t 0)⟩,
        ⟨some 7, none, .len false (.t 6)⟩,
        ⟨some 8, none, .mv false (.t 1)⟩,
        ⟨some 9, none, .len false (.t 8)⟩,
        ⟨some 10, none, .bin .neq (.t 7) (.t 9)⟩])
      (.cond (.t 10)
       (.seq
        (.region [
          ⟨some 4, none, .mv true (.c (.bool false))⟩])
        .ret)
       .skip))
     (.seq
      (.seq
       (.region [
         ⟨some 5, none, .mv true (.c (.int .i64 0))⟩])
       (.block 0
        (.loop
         (.seq
          (.seq
           (.region [
             ⟨some 11, none, .mv false (.t 5)⟩,
             ⟨some 12, none, .mv false (.t 0)⟩,
             ⟨some 13, none, .len false (.t 12)⟩,
             ⟨some 14, none, .bin .lss (.t 11) (.t 13)⟩])
           (.cond (.t 14)
            .skip
            (.exit 0)))
          (.seq
           (.block 1
            (.seq
             (.draw [
               ⟨some 17, none, .mv false (.t 0)⟩,
               ⟨some 18, none, .mv false (.t 5)⟩,
               ⟨some 19, none, .iad 1 (.t 17) (.t 18)⟩,
               ⟨some 20, none, .ld 1 false false (.t 19)⟩,
               ⟨some 21, none, .mv false (.t 1)⟩,
               ⟨some 22, none, .mv false (.t 5)⟩,
               ⟨some 23, none, .iad 1 (.t 21) (.t 22)⟩,
               ⟨some 24, none, .ld 1 false false (.t 23)⟩,
               ⟨some 25, none, .callF 40 [.t 20, .t 24] []⟩,
               ⟨some 26, none, .un .not (.t 25)⟩] [])
             (.cond (.t 26)
              (.seq
               (.region [
                 ⟨some 4, none, .mv true (.c (.bool false))⟩])
               .ret)
              .skip)))
           (.region [
             ⟨some 15, none, .mv false (.t 5)⟩,
             ⟨some 16, none, .bin .add (.t 15) (.c (.int .i64 1))⟩,
             ⟨some 5, none, .mv true (.t 16)⟩]))))))
      (.seq
       (.region [
         ⟨some 4, none, .mv true (.c (.bool true))⟩])
       .ret)))⟩
theorem t19 : compF Tryd.prog {} 19 = some p19 := by kernel_rfl
def p20 : PFn :=
  ⟨24, [.t 4], .seq
    (.region [
      ⟨some 4, none, .mv true (.c (.int .i64 0))⟩])
    (.seq
     (.region [
       ⟨some 6, none, .mv false (.t 1)⟩,
       ⟨some 7, none, .mm true (.t 6) (.c (.int .i64 0))⟩,
       ⟨some 8, none, .mv false (.t 0)⟩,
       ⟨some 9, none, .len false (.t 8)⟩,
       ⟨some 10, none, .mm false (.t 7) (.t 9)⟩,
       ⟨some 1, none, .mv true (.t 10)⟩])
     (.seq
      (.region [
        ⟨some 11, none, .mv false (.t 0)⟩,
        ⟨some 12, none, .mv false (.t 1)⟩,
        ⟨some 13, none, .sli 1 (.t 11) (some (.t 12)) none none⟩,
        ⟨some 14, none, .nl 1 2 false [.int .u8 0, .int .u8 0] [(0, .c (.int .u8 255)), (1, .c (.int .u8 83))]⟩,
        ⟨some 15, none, .cvM (.t 14)⟩,
        ⟨some 16, none, .callF 41 [.t 13, .t 15] []⟩,
        ⟨some 5, none, .mv true (.t 16)⟩])
      (.seq
       (.seq
        (.region [
          ⟨some 17, none, .mv false (.t 5)⟩,
          ⟨some 18, none, .bin .lss (.t 17) (.c (.int .i64 0))⟩])
        (.cond (.t 18)
         (.seq
          (.region [
            ⟨some 19, none, .mv false (.t 0)⟩,
            ⟨some 20, none, .len false (.t 19)⟩,
            ⟨some 4, none, .mv true (.t 20)⟩])
          .ret)
         .skip))
       (.seq
        (.region [
          ⟨some 21, none, .mv false (.t 1)⟩,
          ⟨some 22, none, .mv false (.t 5)⟩,
          ⟨some 23, none, .bin .add (.t 21) (.t 22)⟩,
          ⟨some 4, none, .mv true (.t 23)⟩])
        .ret))))⟩
theorem t20 : compF Tryd.prog {} 20 = some p20 := by kernel_rfl
def p21 : PFn :=
  ⟨44, [.t 2], .seq
    (.region [
      ⟨some 2, none, .mv true (.c (.bool false))⟩])
    (.seq
     (.region [
       ⟨some 12, none, .mv false (.t 0)⟩,
       ⟨some 13, none, .callF 17 [.t 12] []⟩,
       ⟨some 11, none, .mv true (.t 13)⟩,
       ⟨some 14, none, .ext true (.t 11) 0⟩,
       ⟨some 15, none, .ext false (.t 11) 1⟩,
       ⟨some 16, none, .ext false (.t 11) 2⟩,
       ⟨some 3, none, .mv true (.t 14)⟩,
       ⟨some 4, none, .mv true (.t 15)⟩,
       ⟨some 5, none, .mv true (.t 16)⟩])
     (.seq
      (.region [
        ⟨some 6, none, .mv true (.c (.lst 0 [] true))⟩])
      (.seq
       (.seq
        (.region [
          ⟨some 17, none, .mv false (.t 3)⟩,
          ⟨some 18, none, .len false (.t 17)⟩,
          ⟨some 19, none, .mv false (.c (.int .i64 0))⟩])
        (.block 0
         (.loop
          (.seq
           (.region [
             ⟨some 20, none, .bin .lss (.t 19) (.t 18)⟩])
           (.seq
            (.cond (.t 20)
             .skip
             (.exit 0))
            (.seq
             (.block 1
              (.seq
               (.region [
                 ⟨some 21, none, .iad 2 (.t 17) (.t 19)⟩,
                 ⟨some 22, none, .ld 2 true false (.t 21)⟩,
                 ⟨some 8, none, .al [.int .i64 0, .lst 0 [] true]⟩,
                 ⟨none, none, .sto 2 (.t 8) (.t 22)⟩])
               (.region [
                 ⟨some 23, none, .mv true (.t 6)⟩,
                 ⟨some 24, none, .fad 1 (.t 8)⟩,
                 ⟨some 25, none, .ld 1 false false (.t 24)⟩,
                 ⟨some 26, none, .app 1 24 (.t 23) (.t 25)⟩,
                 ⟨some 6, none, .mv true (.t 26)⟩])))
             (.region [
               ⟨some 27, none, .bin .add (.t 19) (.c (.int .i64 1))⟩,
               ⟨some 19, none, .mv false (.t 27)⟩])))))))
       (.seq
        (.region [
          ⟨some 29, none, .mv false (.t 6)⟩,
          ⟨some 30, none, .callF 11 [.t 29] []⟩,
          ⟨some 28, none, .mv true (.t 30)⟩,
          ⟨some 31, none, .ext true (.t 28) 0⟩,
          ⟨some 32, none, .ext false (.t 28) 1⟩,
          ⟨some 9, none, .mv true (.t 31)⟩,
          ⟨some 10, none, .mv true (.t 32)⟩])
        (.seq
         (.region [
           ⟨some 33, none, .mv false (.t 5)⟩,
           ⟨some 34, none, .bin .eql (.t 33) (.c (.int .i64 0))⟩,
           ⟨some 35, none, .mv false (.t 34)⟩,
           ⟨some 36, some (35, true), .mv false (.t 10)⟩,
           ⟨some 37, some (35, true), .bin .eql (.t 36) (.c (.int .i64 0))⟩,
           ⟨some 38, none, .pick (.t 35) (.t 37) (.c (.bool false))⟩,
           ⟨some 39, none, .mv false (.t 38)⟩,
           ⟨some 40, some (39, true), .mv false (.t 9)⟩,
           ⟨some 41, some (39, true), .mv false (.t 0)⟩,
           ⟨some 42, some (39, true), .callF 42 [.t 40, .t 41] []⟩,
           ⟨some 43, none, .pick (.t 39) (.t 42) (.c (.bool false))⟩,
           ⟨some 2, none, .mv true (.t 43)⟩])
         .ret)))))⟩
theorem t21 : compF Tryd.prog {} 21 = some p21 := by kernel_rfl
def p22 : PFn :=
  ⟨45, [.t 2, .t 3, .t 4], .seq
    (.region [
      ⟨some 2, none, .mv true (.c (.lst 0 [] true))⟩,
      ⟨some 3, none, .mv true (.c (.int .i64 0))⟩,
      ⟨some 4, none, .mv true (.c (.int .i64 0))⟩])
    (.seq
     (.region [
       ⟨some 10, none, .bsl 2 0 true [] [] false⟩,
       ⟨some 5, none, .mv true (.t 10)⟩])
     (.seq
      (.seq
       (.region [
         ⟨some 11, none, .mv false (.t 0)⟩,
         ⟨some 12, none, .len false (.t 11)⟩,
         ⟨some 13, none, .bin .lss (.t 12) (.c (.int .i64 4))⟩,
         ⟨some 14, none, .mv false (.t 13)⟩,
         ⟨some 15, some (14, false), .mv false (.t 0)⟩,
         ⟨some 16, some (14, false), .sli 1 (.t 15) none (some (.c (.int .i64 4))) none⟩,
         ⟨some 17, some (14, false), .cvS (.t 16)⟩,
         ⟨some 18, some (14, false), .bin .neq (.t 17) (.c (.str [84, 83, 81, 49]))⟩,
         ⟨some 19, none, .pick (.t 14) (.c (.bool true)) (.t 18)⟩])
       (.cond (.t 19)
        (.seq
         (.region [
           ⟨some 20, none, .mv true (.t 5)⟩,
           ⟨some 2, none, .mv true (.t 20)⟩,
           ⟨some 3, none, .mv true (.c (.int .i64 0))⟩,
           ⟨some 4, none, .mv true (.c (.int .i64 3))⟩])
         .ret)
        .skip))
      (.seq
       (.region [
         ⟨some 6, none, .mv true (.c (.int .i64 4))⟩])
       (.seq
        (.block 0
         (.loop
          (.seq
           (.seq
            (.region [
              ⟨some 21, none, .mv false (.t 6)⟩,
              ⟨some 22, none, .mv false (.t 0)⟩,
              ⟨some 23, none, .len false (.t 22)⟩,
              ⟨some 24, none, .bin .lss (.t 21) (.t 23)⟩])
            (.cond (.t 24)
             .skip
             (.exit 0)))
           (.block 1
            (.seq
             (.region [
               ⟨some 26, none, .mv false (.t 0)⟩,
               ⟨some 27, none, .mv false (.t 6)⟩,
               ⟨some 28, none, .callF 43 [.t 26, .t 27] []⟩,
               ⟨some 25, none, .mv true (.t 28)⟩,
               ⟨some 29, none, .ext true (.t 25) 0⟩,
               ⟨some 30, none, .ext false (.t 25) 1⟩,
               ⟨some 31, none, .ext false (.t 25) 2⟩,
               ⟨some 7, none, .mv true (.t 29)⟩,
               ⟨some 8, none, .mv true (.t 30)⟩,
               ⟨some 9, none, .mv true (.t 31)⟩])
             (.seq
              (.seq
               (.region [
                 ⟨some 32, none, .mv false (.t 9)⟩,
                 ⟨some 33, none, .un .not (.t 32)⟩])
               (.cond (.t 33)
                (.seq
                 (.region [
                   ⟨some 34, none, .mv true (.t 5)⟩,
                   ⟨some 35, none, .mv true (.t 6)⟩,
                   ⟨some 2, none, .mv true (.t 34)⟩,
                   ⟨some 3, none, .mv true (.t 35)⟩,
                   ⟨some 4, none, .mv true (.c (.int .i64 3))⟩])
                 .ret)
                .skip))
              (.seq
               (.region [
                 ⟨some 36, none, .mv true (.t 5)⟩,
                 ⟨some 37, none, .mv false (.t 6)⟩,
                 ⟨some 38, none, .mv false (.t 7)⟩,
                 ⟨some 39, none, .build [.int .i64 0, .lst 0 [] true] [(0, (1, .t 37)), (1, (1, .t 38))]⟩,
                 ⟨some 40, none, .bsl 2 1 true [.int .i64 0, .lst 0 [] true] [(0, .t 39)] false⟩,
                 ⟨some 41, none, .app 2 32 (.t 36) (.t 40)⟩,
                 ⟨some 5, none, .mv true (.t 41)⟩])
               (.region [
                 ⟨some 42, none, .mv true (.t 8)⟩,
                 ⟨some 6, none, .mv true (.t 42)⟩]))))))))
        (.seq
         (.region [
           ⟨some 43, none, .mv true (.t 5)⟩,
           ⟨some 44, none, .mv true (.t 6)⟩,
           ⟨some 2, none, .mv true (.t 43)⟩,
           ⟨some 3, none, .mv true (.t 44)⟩,
           ⟨some 4, none, .mv true (.c (.int .i64 0))⟩])
         .ret)))))⟩
theorem t22 : compF Tryd.prog {} 22 = some p22 := by kernel_rfl
def p23 : PFn :=
  ⟨62, [.t 8, .t 9], .seq
    (.region [
      ⟨some 6, none, .bxI 1 (.t 2)⟩,
      ⟨some 7, none, .bxI 1 (.t 3)⟩,
      ⟨some 8, none, .mv true (.c (.lst 0 [] true))⟩,
      ⟨some 9, none, .mv true (.c (.int .i64 0))⟩])
    (.seq
     (.seq
      (.region [
        ⟨some 13, none, .mv false (.t 1)⟩,
        ⟨some 14, none, .bin .lss (.t 13) (.c (.int .i64 0))⟩,
        ⟨some 15, none, .mv false (.t 14)⟩,
        ⟨some 16, some (15, false), .mv false (.t 1)⟩,
        ⟨some 17, some (15, false), .ld 1 false false (.t 6)⟩,
        ⟨some 18, some (15, false), .bin .gtr (.t 16) (.t 17)⟩,
        ⟨some 19, none, .pick (.t 15) (.c (.bool true)) (.t 18)⟩,
        ⟨some 20, none, .mv false (.t 19)⟩,
        ⟨some 21, some (20, false), .ld 1 false false (.t 6)⟩,
        ⟨some 22, some (20, false), .mv false (.t 0)⟩,
        ⟨some 23, some (20, false), .len false (.t 22)⟩,
        ⟨some 24, some (20, false), .bin .gtr (.t 21) (.t 23)⟩,
        ⟨some 25, none, .pick (.t 20) (.c (.bool true)) (.t 24)⟩,
        ⟨some 26, none, .mv false (.t 25)⟩,
        ⟨some 27, some (26, false), .ld 1 false false (.t 7)⟩,
        ⟨some 28, some (26, false), .bin .lss (.t 27) (.c (.int .i64 0))⟩,
        ⟨some 29, none, .pick (.t 26) (.c (.bool true)) (.t 28)⟩,
        ⟨some 30, none, .mv false (.t 29)⟩,
        ⟨some 31, some (30, false), .ld 1 false false (.t 7)⟩,
        ⟨some 32, some (30, false), .mv false (.t 0)⟩,
        ⟨some 33, some (30, false), .len false (.t 32)⟩,
        ⟨some 34, some (30, false), .bin .gtr (.t 31) (.t 33)⟩,
        ⟨some 35, none, .pick (.t 30) (.c (.bool true)) (.t 34)⟩])
      (.cond (.t 35)
       (.seq
        (.region [
          ⟨some 8, none, .mv true (.c (.lst 0 [] true))⟩,
          ⟨some 9, none, .mv true (.c (.int .i64 1))⟩])
        .ret)
       .skip))
     (.seq
      (.region [
        ⟨some 10, none, .al [.lst 0 [] true]⟩])
      (.seq
       (.seq
        (.region [
          ⟨some 36, none, .mv false (.t 0)⟩,
          ⟨some 37, none, .mv false (.t 0)⟩,
          ⟨some 38, none, .mv false (.t 1)⟩,
          ⟨some 39, none, .callF 20 [.t 37, .t 38] []⟩,
          ⟨some 40, none, .callF 39 [.t 36, .t 39] []⟩])
        (.block 0
         (.rangeF (.t 40) [41, 42] (.region [
           ⟨some 12, none, .al [.int .i64 0, .lst 0 [] true]⟩,
           ⟨none, none, .sto 2 (.t 12) (.t 42)⟩]) (.block 1
          (.seq
           (.seq
            (.region [
              ⟨some 43, none, .fad 0 (.t 12)⟩,
              ⟨some 44, none, .ld 1 false false (.t 43)⟩,
              ⟨some 45, none, .ld 1 false false (.t 6)⟩,
              ⟨some 46, none, .bin .geq (.t 44) (.t 45)⟩,
              ⟨some 47, none, .mv false (.t 46)⟩,
              ⟨some 48, some (47, false), .fad 0 (.t 12)⟩,
              ⟨some 49, some (47, false), .ld 1 false false (.t 48)⟩,
              ⟨some 50, some (47, false), .ld 1 false false (.t 7)⟩,
              ⟨some 51, some (47, false), .bin .geq (.t 49) (.t 50)⟩,
              ⟨some 52, none, .pick (.t 47) (.c (.bool true)) (.t 51)⟩])
            (.cond (.t 52)
             (.exit 0)
             .skip))
           (.region [
             ⟨some 53, none, .ld 1 false false (.t 10)⟩,
             ⟨some 54, none, .fad 1 (.t 12)⟩,
             ⟨some 55, none, .ld 1 false false (.t 54)⟩,
             ⟨some 56, none, .app 1 24 (.t 53) (.t 55)⟩,
             ⟨none, none, .sto 1 (.t 10) (.t 56)⟩]))))))
       (.seq
        (.seq
         (.region [
           ⟨some 57, none, .ld 1 false false (.t 7)⟩,
           ⟨some 58, none, .ld 1 false false (.t 6)⟩,
           ⟨some 59, none, .bin .lss (.t 57) (.t 58)⟩])
         (.cond (.t 59)
          (.seq
           (.region [
             ⟨some 60, none, .ld 1 false false (.t 10)⟩,
             ⟨some 8, none, .mv true (.t 60)⟩,
             ⟨some 9, none, .mv true (.c (.int .i64 3))⟩])
           .ret)
          .skip))
        (.seq
         (.region [
           ⟨some 61, none, .ld 1 false false (.t 10)⟩,
           ⟨some 8, none, .mv true (.t 61)⟩,
           ⟨some 9, none, .mv true (.c (.int .i64 0))⟩])
         .ret)))))⟩
theorem t23 : compF Tryd.prog { ros := [6, 7] } 23 = some p23 := by kernel_rfl
def p24 : PFn :=
  ⟨53, [.t 8, .t 9], .seq
    (.region [
      ⟨some 8, none, .mv true (.c (.lst 0 [] true))⟩,
      ⟨some 9, none, .mv true (.c (.int .i64 0))⟩])
    (.seq
     (.seq
      (.region [
        ⟨some 13, none, .mv false (.t 1)⟩,
        ⟨some 14, none, .bin .lss (.t 13) (.c (.int .i64 0))⟩,
        ⟨some 15, none, .mv false (.t 14)⟩,
        ⟨some 16, some (15, false), .mv false (.t 1)⟩,
        ⟨some 17, some (15, false), .mv false (.t 2)⟩,
        ⟨some 18, some (15, false), .bin .gtr (.t 16) (.t 17)⟩,
        ⟨some 19, none, .pick (.t 15) (.c (.bool true)) (.t 18)⟩,
        ⟨some 20, none, .mv false (.t 19)⟩,
        ⟨some 21, some (20, false), .mv false (.t 2)⟩,
        ⟨some 22, some (20, false), .mv false (.t 0)⟩,
        ⟨some 23, some (20, false), .len false (.t 22)⟩,
        ⟨some 24, some (20, false), .bin .gtr (.t 21) (.t 23)⟩,
        ⟨some 25, none, .pick (.t 20) (.c (.bool true)) (.t 24)⟩,
        ⟨some 26, none, .mv false (.t 25)⟩,
        ⟨some 27, some (26, false), .mv false (.t 3)⟩,
        ⟨some 28, some (26, false), .bin .lss (.t 27) (.c (.int .i64 0))⟩,
        ⟨some 29, none, .pick (.t 26) (.c (.bool true)) (.t 28)⟩,
        ⟨some 30, none, .mv false (.t 29)⟩,
        ⟨some 31, some (30, false), .mv false (.t 3)⟩,
        ⟨some 32, some (30, false), .mv false (.t 0)⟩,
        ⟨some 33, some (30, false), .len false (.t 32)⟩,
        ⟨some 34, some (30, false), .bin .gtr (.t 31) (.t 33)⟩,
        ⟨some 35, none, .pick (.t 30) (.c (.bool true)) (.t 34)⟩])
      (.cond (.t 35)
       (.seq
        (.region [
          ⟨some 8, none, .mv true (.c (.lst 0 [] true))⟩,
          ⟨some 9, none, .mv true (.c (.int .i64 1))⟩])
        .ret)
       .skip))
     (.seq
      (.region [
        ⟨some 37, none, .mv false (.t 0)⟩,
        ⟨some 38, none, .callF 22 [.t 37] []⟩,
        ⟨some 36, none, .mv true (.t 38)⟩,
        ⟨some 39, none, .ext true (.t 36) 0⟩,
        ⟨some 40, none, .ext false (.t 36) 1⟩,
        ⟨some 41, none, .ext false (.t 36) 2⟩,
        ⟨some 10, none, .mv true (.t 39)⟩,
        ⟨some 11, none, .mv true (.t 40)⟩,
        ⟨some 12, none, .mv true (.t 41)⟩])
      (.seq
       (.seq
        (.region [
          ⟨some 42, none, .mv false (.t 3)⟩,
          ⟨some 43, none, .mv false (.t 2)⟩,
          ⟨some 44, none, .bin .lss (.t 42) (.t 43)⟩])
        (.cond (.t 44)
         (.seq
          (.region [
            ⟨some 45, none, .mv false (.t 10)⟩,
            ⟨some 46, none, .mv false (.t 1)⟩,
            ⟨some 47, none, .mv false (.t 2)⟩,
            ⟨some 48, none, .callF 44 [.t 45, .t 46, .t 47] []⟩,
            ⟨some 8, none, .mv true (.t 48)⟩,
            ⟨some 9, none, .mv true (.c (.int .i64 3))⟩])
          .ret)
         .skip))
       (.seq
        (.region [
          ⟨some 49, none, .mv false (.t 10)⟩,
          ⟨some 50, none, .mv false (.t 1)⟩,
          ⟨some 51, none, .mv false (.t 2)⟩,
          ⟨some 52, none, .callF 44 [.t 49, .t 50, .t 51] []⟩,
          ⟨some 8, none, .mv true (.t 52)⟩,
          ⟨some 9, none, .mv true (.c (.int .i64 0))⟩])
        .ret))))⟩
theorem t24 : compF Tryd.prog {} 24 = some p24 := by kernel_rfl
def p25 : PFn :=
  ⟨37, [.t 4], .seq
    (.region [
      ⟨some 4, none, .mv true (.c (.lst 0 [] true))⟩])
    (.seq
     (.region [
       ⟨some 8, none, .bsl 1 1 false [.int .i64 0] [(0, .c (.int .i64 0))] false⟩,
       ⟨some 5, none, .mv true (.t 8)⟩])
     (.seq
      (.seq
       (.region [
         ⟨some 6, none, .mv true (.c (.int .i64 1))⟩])
       (.block 0
        (.loop
         (.seq
          (.seq
           (.region [
             ⟨some 9, none, .mv false (.t 6)⟩,
             ⟨some 10, none, .mv false (.t 0)⟩,
             ⟨some 11, none, .bin .lss (.t 9) (.t 10)⟩])
           (.cond (.t 11)
            .skip
            (.exit 0)))
          (.seq
           (.block 1
            (.seq
             (.region [
               ⟨some 7, none, .mv true (.c (.int .i64 0))⟩])
             (.block 2
              (.loop
               (.seq
                (.seq
                 (.region [
                   ⟨some 14, none, .mv false (.t 7)⟩,
                   ⟨some 15, none, .mv false (.t 1)⟩,
                   ⟨some 16, none, .len false (.t 15)⟩,
                   ⟨some 17, none, .bin .lss (.t 14) (.t 16)⟩])
                 (.cond (.t 17)
                  .skip
                  (.exit 2)))
                (.seq
                 (.block 3
                  (.seq
                   (.region [
                     ⟨some 20, none, .mv false (.t 1)⟩,
                     ⟨some 21, none, .mv false (.t 7)⟩,
                     ⟨some 22, none, .iad 1 (.t 20) (.t 21)⟩,
                     ⟨some 23, none, .ld 1 false false (.t 22)⟩,
                     ⟨some 24, none, .mv false (.t 6)⟩,
                     ⟨some 25, none, .bin .eql (.t 23) (.t 24)⟩])
                   (.cond (.t 25)
                    (.seq
                     (.region [
                       ⟨some 26, none, .mv true (.t 5)⟩,
                       ⟨some 27, none, .mv false (.t 6)⟩,
                       ⟨some 28, none, .bsl 1 1 false [.int .i64 0] [(0, .t 27)] false⟩,
                       ⟨some 29, none, .app 1 8 (.t 26) (.t 28)⟩,
                       ⟨some 5, none, .mv true (.t 29)⟩])
                     (.exit 2))
                    .skip)))
                 (.region [
                   ⟨some 18, none, .mv false (.t 7)⟩,
                   ⟨some 19, none, .bin .add (.t 18) (.c (.int .i64 1))⟩,
                   ⟨some 7, none, .mv true (.t 19)⟩])))))))
           (.region [
             ⟨some 12, none, .mv false (.t 6)⟩,
             ⟨some 13, none, .bin .add (.t 12) (.c (.int .i64 1))⟩,
             ⟨some 6, none, .mv true (.t 13)⟩]))))))
      (.seq
       (.seq
        (.region [
          ⟨some 30, none, .mv false (.t 0)⟩,
          ⟨some 31, none, .bin .gtr (.t 30) (.c (.int .i64 0))⟩])
        (.cond (.t 31)
         (.region [
           ⟨some 32, none, .mv true (.t 5)⟩,
           ⟨some 33, none, .mv false (.t 0)⟩,
           ⟨some 34, none, .bsl 1 1 false [.int .i64 0] [(0, .t 33)] false⟩,
           ⟨some 35, none, .app 1 8 (.t 32) (.t 34)⟩,
           ⟨some 5, none, .mv true (.t 35)⟩])
         .skip))
       (.seq
        (.region [
          ⟨some 36, none, .mv true (.t 5)⟩,
          ⟨some 4, none, .mv true (.t 36)⟩])
        .ret))))⟩
theorem t25 : compF Tryd.prog {} 25 = some p25 := by kernel_rfl
def p26 : PFn :=
  ⟨23, [.t 0], .seq
    (.region [
      ⟨some 0, none, .mv true (.c (.lst 0 [] true))⟩])
    (.seq
     (.region [
       ⟨some 4, none, .mk 1 4 false [.int .u32 0] (.c (.int .i64 256)) (.c (.int .i64 256)) false⟩,
       ⟨some 1, none, .mv true (.t 4)⟩])
     (.seq
      (.seq
       (.region [
         ⟨some 5, none, .mv false (.t 1)⟩,
         ⟨some 6, none, .len false (.t 5)⟩,
         ⟨some 7, none, .mv false (.c (.int .i64 0))⟩])
       (.block 0
        (.loop
         (.seq
          (.region [
            ⟨some 8, none, .bin .lss (.t 7) (.t 6)⟩])
          (.seq
           (.cond (.t 8)
            .skip
            (.exit 0))
           (.seq
            (.block 1
             (.seq
              (.region [
                ⟨some 9, none, .mv true (.t 7)⟩,
                ⟨some 2, none, .mv true (.t 9)⟩])
              (.seq
               (.region [
                 ⟨some 10, none, .mv false (.t 2)⟩,
                 ⟨some 11, none, .cvI .u32 (.t 10)⟩,
                 ⟨some 3, none, .mv true (.t 11)⟩])
               (.seq
                (.seq
                 (.region [
                   ⟨some 12, none, .mv false (.c (.int .i64 0))⟩])
                 (.block 2
                  (.loop
                   (.seq
                    (.region [
                      ⟨some 13, none, .bin .lss (.t 12) (.c (.int .i64 8))⟩])
                    (.seq
                     (.cond (.t 13)
                      .skip
                      (.exit 2))
                     (.seq
                      (.block 3
                       (.region [
                         ⟨some 14, none, .mv false (.t 3)⟩,
                         ⟨some 15, none, .callF 45 [.t 14] []⟩,
                         ⟨some 3, none, .mv true (.t 15)⟩]))
                      (.region [
                        ⟨some 16, none, .bin .add (.t 12) (.c (.int .i64 1))⟩,
                        ⟨some 12, none, .mv false (.t 16)⟩])))))))
                (.region [
                  ⟨some 17, none, .mv false (.t 1)⟩,
                  ⟨some 18, none, .mv false (.t 2)⟩,
                  ⟨some 19, none, .mv true (.t 3)⟩,
                  ⟨some 20, none, .iad 1 (.t 17) (.t 18)⟩,
                  ⟨none, none, .sto 1 (.t 20) (.t 19)⟩])))))
            (.region [
              ⟨some 21, none, .bin .add (.t 7) (.c (.int .i64 1))⟩,
              ⟨some 7, none, .mv false (.t 21)⟩])))))))
      (.seq
       (.region [
         ⟨some 22, none, .mv true (.t 1)⟩,
         ⟨some 0, none, .mv true (.t 22)⟩])
       .ret)))⟩
theorem t26 : compF Tryd.prog {} 26 = some p26 := by kernel_rfl
def p27 : PFn :=
  ⟨9, [.t 4], .seq
    (.region [
      ⟨some 2, none, .bxI 1 (.t 0)⟩,
      ⟨some 3, none, .bxI 1 (.t 1)⟩,
      ⟨some 4, none, .mv true (.c .nilf)⟩])
    (.seq
     (.seq
      (.region [
        ⟨some 5, none, .ld 1 false false (.t 3)⟩,
        ⟨some 6, none, .bin .lss (.t 5) (.c (.int .i64 1))⟩])
      (.cond (.t 6)
       (.region [
         ⟨some 7, none, .bad⟩,
         ⟨none, none, .bad⟩])
       .skip))
     (.seq
      (.region [
        ⟨some 8, none, .mkf (.func 46) [] [.t 2, .t 3]⟩,
        ⟨some 4, none, .mv true (.t 8)⟩])
      .ret))⟩
theorem t27 : compF Tryd.prog { ros := [2, 3] } 27 = some p27 := by kernel_rfl
def p28 : PFn :=
  ⟨29, [.t 4], .seq
    (.region [
      ⟨some 4, none, .mv true (.c (.lst 0 [] true))⟩])
    (.seq
     (.region [
       ⟨some 6, none, .mv false (.t 0)⟩,
       ⟨some 7, none, .len false (.t 6)⟩,
       ⟨some 8, none, .mv false (.t 1)⟩,
       ⟨some 9, none, .callF 47 [.t 8] []⟩,
       ⟨some 10, none, .bin .add (.t 7) (.t 9)⟩,
       ⟨some 11, none, .mk 1 1 false [.int .u8 0] (.c (.int .i64 0)) (.t 10) false⟩,
       ⟨some 12, none, .mv false (.t 0)⟩,
       ⟨some 13, none, .app 1 1 (.t 11) (.t 12)⟩,
       ⟨some 5, none, .mv true (.t 13)⟩])
     (.seq
      (.block 0
       (.loop
        (.seq
         (.seq
          (.region [
            ⟨some 14, none, .mv false (.t 1)⟩,
            ⟨some 15, none, .bin .geq (.t 14) (.c (.int .u64 128))⟩])
          (.cond (.t 15)
           .skip
           (.exit 0)))
         (.seq
          (.block 1
           (.region [
             ⟨some 18, none, .mv true (.t 5)⟩,
             ⟨some 19, none, .mv false (.t 1)⟩,
             ⟨some 20, none, .cvI .u8 (.t 19)⟩,
             ⟨some 21, none, .bin .or (.t 20) (.c (.int .u8 128))⟩,
             ⟨some 22, none, .bsl 1 1 false [.int .u8 0] [(0, .t 21)] false⟩,
             ⟨some 23, none, .app 1 1 (.t 18) (.t 22)⟩,
             ⟨some 5, none, .mv true (.t 23)⟩]))
          (.region [
            ⟨some 16, none, .mv false (.t 1)⟩,
            ⟨some 17, none, .bin .shr (.t 16) (.c (.int .u64 7))⟩,
            ⟨some 1, none, .mv true (.t 17)⟩])))))
      (.seq
       (.region [
         ⟨some 24, none, .mv true (.t 5)⟩,
         ⟨some 25, none, .mv false (.t 1)⟩,
         ⟨some 26, none, .cvI .u8 (.t 25)⟩,
         ⟨some 27, none, .bsl 1 1 false [.int .u8 0] [(0, .t 26)] false⟩,
         ⟨some 28, none, .app 1 1 (.t 24) (.t 27)⟩,
         ⟨some 4, none, .mv true (.t 28)⟩])
       .ret)))⟩
theorem t28 : compF Tryd.prog {} 28 = some p28 := by kernel_rfl
def p29 : PFn :=
  ⟨20, [.t 2], .seq
    (.region [
      ⟨some 2, none, .mv true (.c (.bool false))⟩])
    (.seq
     (.region [
       ⟨some 3, none, .mv false (.t 0)⟩,
       ⟨some 4, none, .len false (.t 3)⟩,
       ⟨some 5, none, .bin .eql (.t 4) (.c (.int .i64 2))⟩,
       ⟨some 6, none, .mv false (.t 5)⟩,
       ⟨some 7, some (6, true), .mv false (.t 0)⟩,
       ⟨some 8, some (6, true), .iad 1 (.t 7) (.c (.int .i64 0))⟩,
       ⟨some 9, some (6, true), .ld 1 false false (.t 8)⟩,
       ⟨some 10, some (6, true), .len true (.t 9)⟩,
       ⟨some 11, some (6, true), .bin .leq (.t 10) (.c (.int .i64 1000))⟩,
       ⟨some 12, none, .pick (.t 6) (.t 11) (.c (.bool false))⟩,
       ⟨some 13, none, .mv false (.t 12)⟩,
       ⟨some 14, some (13, true), .mv false (.t 0)⟩,
       ⟨some 15, some (13, true), .iad 1 (.t 14) (.c (.int .i64 1))⟩,
       ⟨some 16, some (13, true), .ld 1 false false (.t 15)⟩,
       ⟨some 17, some (13, true), .len true (.t 16)⟩,
       ⟨some 18, some (13, true), .bin .leq (.t 17) (.c (.int .i64 1000))⟩,
       ⟨some 19, none, .pick (.t 13) (.t 18) (.c (.bool false))⟩,
       ⟨some 2, none, .mv true (.t 19)⟩])
     .ret)⟩
theorem t29 : compF Tryd.prog {} 29 = some p29 := by kernel_rfl
def p30 : PFn :=
  ⟨12, [.t 4], .seq
    (.region [
      ⟨some 3, none, .bxI 2 (.t 1)⟩,
      ⟨some 4, none, .mv true (.c (.lst 0 [] true))⟩])
    (.seq
     (.draw [
       ⟨some 5, none, .mv false (.t 0)⟩,
       ⟨some 6, none, .fad 0 (.t 3)⟩,
       ⟨some 7, none, .ld 1 false false (.t 6)⟩,
       ⟨some 8, none, .callF 48 [.t 5, .t 7] []⟩,
       ⟨some 9, none, .fad 1 (.t 3)⟩,
       ⟨some 10, none, .ld 1 false false (.t 9)⟩,
       ⟨some 11, none, .callF 48 [.t 8, .t 10] []⟩,
       ⟨some 4, none, .mv true (.t 11)⟩] [])
     .ret)⟩
theorem t30 : compF Tryd.prog { ros := [3] } 30 = some p30 := by kernel_rfl
def p31 : PFn :=
  ⟨22, [.t 4, .t 5], .seq
    (.region [
      ⟨some 4, none, .mv true (.c (.lst 0 [] true))⟩,
      ⟨some 5, none, .mv true (.c (.int .i64 0))⟩])
    (.seq
     (.region [
       ⟨some 9, none, .mv false (.t 0)⟩,
       ⟨some 10, none, .mv false (.t 1)⟩,
       ⟨some 11, none, .callF 49 [.t 9, .t 10] []⟩,
       ⟨some 8, none, .mv true (.t 11)⟩,
       ⟨some 12, none, .ext false (.t 8) 0⟩,
       ⟨some 13, none, .ext false (.t 8) 1⟩,
       ⟨some 6, none, .mv true (.t 12)⟩,
       ⟨some 7, none, .mv true (.t 13)⟩])
     (.seq
      (.seq
       (.region [
         ⟨some 14, none, .mv false (.t 7)⟩,
         ⟨some 15, none, .bin .neq (.t 14) (.c (.int .i64 0))⟩])
       (.cond (.t 15)
        (.seq
         (.region [
           ⟨some 16, none, .mv true (.t 7)⟩,
           ⟨some 4, none, .mv true (.c (.lst 0 [] true))⟩,
           ⟨some 5, none, .mv true (.t 16)⟩])
         .ret)
        .skip))
      (.seq
       (.region [
         ⟨some 17, none, .mv false (.t 1)⟩,
         ⟨some 18, none, .mv false (.t 6)⟩,
         ⟨some 19, none, .callF 50 [.t 18] []⟩,
         ⟨some 20, none, .bsl 1 2 false [.lst 0 [] true, .lst 0 [] true] [(0, .t 17), (1, .t 19)] false⟩,
         ⟨some 21, none, .callF 32 [.t 20] []⟩,
         ⟨some 4, none, .mv true (.t 21)⟩,
         ⟨some 5, none, .mv true (.c (.int .i64 0))⟩])
       .ret)))⟩
theorem t31 : compF Tryd.prog {} 31 = some p31 := by kernel_rfl
def p32 : PFn :=
  ⟨36, [.t 2], .seq
    (.region [
      ⟨some 2, none, .mv true (.c (.lst 0 [] true))⟩])
    (.seq
     (.region [
       ⟨some 3, none, .mv true (.c (.int .i64 0))⟩])
     (.seq
      (.seq
       (.region [
         ⟨some 9, none, .mv false (.t 0)⟩,
         ⟨some 10, none, .len false (.t 9)⟩,
         ⟨some 11, none, .mv false (.c (.int .i64 0))⟩])
       (.block 0
        (.loop
         (.seq
          (.region [
            ⟨some 12, none, .bin .lss (.t 11) (.t 10)⟩])
          (.seq
           (.cond (.t 12)
            .skip
            (.exit 0))
           (.seq
            (.block 1
             (.seq
              (.region [
                ⟨some 13, none, .iad 1 (.t 9) (.t 11)⟩,
                ⟨some 14, none, .ld 1 false false (.t 13)⟩,
                ⟨some 5, none, .mv true (.t 14)⟩])
              (.seq
               (.region [
                 ⟨some 15, none, .mv false (.t 3)⟩,
                 ⟨some 16, none, .mv false (.t 5)⟩,
                 ⟨some 17, none, .len false (.t 16)⟩,
                 ⟨some 18, none, .bin .add (.t 15) (.t 17)⟩,
                 ⟨some 3, none, .mv true (.t 18)⟩])
               (.seq
                (.region [
                  ⟨some 19, none, .mv false (.t 3)⟩,
                  ⟨some 20, none, .bin .lss (.t 19) (.c (.int .i64 0))⟩])
                (.cond (.t 20)
                 (.region [
                   ⟨some 21, none, .bad⟩,
                   ⟨none, none, .bad⟩])
                 .skip)))))
            (.region [
              ⟨some 22, none, .bin .add (.t 11) (.c (.int .i64 1))⟩,
              ⟨some 11, none, .mv false (.t 22)⟩])))))))
      (.seq
       (.region [
         ⟨some 23, none, .mv false (.t 3)⟩,
         ⟨some 24, none, .callF 51 [.c (.lst 0 [] true), .t 23] []⟩,
         ⟨some 6, none, .mv true (.t 24)⟩])
       (.seq
        (.seq
         (.region [
           ⟨some 25, none, .mv false (.t 0)⟩,
           ⟨some 26, none, .len false (.t 25)⟩,
           ⟨some 27, none, .mv false (.c (.int .i64 0))⟩])
         (.block 2
          (.loop
           (.seq
            (.region [
              ⟨some 28, none, .bin .lss (.t 27) (.t 26)⟩])
            (.seq
             (.cond (.t 28)
              .skip
              (.exit 2))
             (.seq
              (.block 3
               (.seq
                (.region [
                  ⟨some 29, none, .iad 1 (.t 25) (.t 27)⟩,
                  ⟨some 30, none, .ld 1 false false (.t 29)⟩,
                  ⟨some 8, none, .mv true (.t 30)⟩])
                (.region [
                  ⟨some 31, none, .mv true (.t 6)⟩,
                  ⟨some 32, none, .mv false (.t 8)⟩,
                  ⟨some 33, none, .app 1 1 (.t 31) (.t 32)⟩,
                  ⟨some 6, none, .mv true (.t 33)⟩])))
              (.region [
                ⟨some 34, none, .bin .add (.t 27) (.c (.int .i64 1))⟩,
                ⟨some 27, none, .mv false (.t 34)⟩])))))))
        (.seq
         (.region [
           ⟨some 35, none, .mv true (.t 6)⟩,
           ⟨some 2, none, .mv true (.t 35)⟩])
         .ret)))))⟩
theorem t32 : compF Tryd.prog {} 32 = some p32 := by kernel_rfl
def p33 : PFn :=
  ⟨13, [.t 4], .seq
    (.region [
      ⟨some 4, none, .mv true (.c (.lst 0 [] true))⟩])
    (.seq
     (.region [
       ⟨some 6, none, .bsl 1 0 false [] [] false⟩,
       ⟨some 7, none, .mv false (.t 0)⟩,
       ⟨some 8, none, .app 1 1 (.t 6) (.t 7)⟩,
       ⟨some 5, none, .mv true (.t 8)⟩])
     (.seq
      (.region [
        ⟨some 9, none, .mv true (.t 5)⟩,
        ⟨some 10, none, .mv false (.t 1)⟩,
        ⟨some 11, none, .callF 52 [.t 10] []⟩,
        ⟨some 12, none, .app 1 1 (.t 9) (.t 11)⟩,
        ⟨some 4, none, .mv true (.t 12)⟩])
      .ret))⟩
theorem t33 : compF Tryd.prog {} 33 = some p33 := by kernel_rfl
def p34 : PFn :=
  ⟨12, [.t 4], .seq
    (.region [
      ⟨some 3, none, .bxI 2 (.t 1)⟩,
      ⟨some 4, none, .mv true (.c (.lst 0 [] true))⟩])
    (.seq
     (.draw [
       ⟨some 5, none, .mv false (.t 0)⟩,
       ⟨some 6, none, .fad 0 (.t 3)⟩,
       ⟨some 7, none, .ld 1 false false (.t 6)⟩,
       ⟨some 8, none, .callF 53 [.t 5, .t 7] []⟩,
       ⟨some 9, none, .fad 1 (.t 3)⟩,
       ⟨some 10, none, .ld 1 false false (.t 9)⟩,
       ⟨some 11, none, .callF 53 [.t 8, .t 10] []⟩,
       ⟨some 4, none, .mv true (.t 11)⟩] [])
     .ret)⟩
theorem t34 : compF Tryd.prog { ros := [3] } 34 = some p34 := by kernel_rfl
def p35 : PFn :=
  ⟨12, [.t 2], .seq
    (.region [
      ⟨some 2, none, .mv true (.c (.lst 0 [] true))⟩])
    (.seq
     (.region [
       ⟨some 4, none, .bsl 1 0 false [] [] false⟩,
       ⟨some 5, none, .mv false (.t 0)⟩,
       ⟨some 6, none, .app 1 1 (.t 4) (.t 5)⟩,
       ⟨some 3, none, .mv true (.t 6)⟩])
     (.seq
      (.region [
        ⟨some 7, none, .mv true (.t 3)⟩,
        ⟨some 8, none, .mv false (.t 0)⟩,
        ⟨some 9, none, .callF 55 [.t 8] []⟩,
        ⟨some 10, none, .callF 54 [.t 9] []⟩,
        ⟨some 11, none, .app 1 1 (.t 7) (.t 10)⟩,
        ⟨some 2, none, .mv true (.t 11)⟩])
      .ret))⟩
theorem t35 : compF Tryd.prog {} 35 = some p35 := by kernel_rfl
def p36 : PFn :=
  ⟨11, [.t 6], .seq
    (.region [
      ⟨some 6, none, .mv true (.c (.lst 0 [] true))⟩])
    (.seq
     (.region [
       ⟨some 7, none, .mv false (.t 0)⟩,
       ⟨some 8, none, .mv false (.t 1)⟩,
       ⟨some 9, none, .mv false (.t 2)⟩,
       ⟨some 10, none, .callF 56 [.t 7, .t 8, .t 9, .c (.int .i64 (-1))] []⟩,
       ⟨some 6, none, .mv true (.t 10)⟩])
     .ret)⟩
theorem t36 : compF Tryd.prog {} 36 = some p36 := by kernel_rfl
def p37 : PFn :=
  ⟨35, [.t 4], .seq
    (.region [
      ⟨some 4, none, .mv true (.c (.int .i64 0))⟩])
    (.seq
     (.seq
      (.region [
        ⟨some 7, none, .mv false (.t 1)⟩,
        ⟨some 8, none, .len false (.t 7)⟩,
        ⟨some 9, none, .bin .eql (.t 8) (.c (.int .i64 0))⟩])
      (.cond (.t 9)
       (.seq
        (.region [
          ⟨some 10, none, .mv false (.t 0)⟩,
          ⟨some 11, none, .callF 57 [.t 10] []⟩,
          ⟨some 12, none, .bin .add (.t 11) (.c (.int .i64 1))⟩,
          ⟨some 4, none, .mv true (.t 12)⟩])
        .ret)
       .skip))
     (.seq
      (.seq
       (.region [
         ⟨some 13, none, .mv false (.t 1)⟩,
         ⟨some 14, none, .len false (.t 13)⟩,
         ⟨some 15, none, .bin .eql (.t 14) (.c (.int .i64 1))⟩])
       (.cond (.t 15)
        (.seq
         (.region [
           ⟨some 16, none, .mv false (.t 0)⟩,
           ⟨some 17, none, .mv false (.t 1)⟩,
           ⟨some 18, none, .iad 1 (.t 17) (.c (.int .i64 0))⟩,
           ⟨some 19, none, .ld 1 false false (.t 18)⟩,
           ⟨some 20, none, .callF 58 [.t 16, .t 19] []⟩,
           ⟨some 4, none, .mv true (.t 20)⟩])
         .ret)
        .skip))
      (.seq
       (.region [
         ⟨some 5, none, .mv true (.c (.int .i64 0))⟩])
       (.block 0
        (.loop
         (.block 1
          (.seq
           (.region [
             ⟨some 21, none, .mv false (.t 0)⟩,
             ⟨some 22, none, .mv false (.t 1)⟩,
             ⟨some 23, none, .callF 41 [.t 21, .t 22] []⟩,
             ⟨some 6, none, .mv true (.t 23)⟩])
           (.seq
            (.seq
             (.region [
               ⟨some 24, none, .mv false (.t 6)⟩,
               ⟨some 25, none, .bin .eql (.t 24) (.c (.int .i64 (-1)))⟩])
             (.cond (.t 25)
              (.seq
               (.region [
                 ⟨some 26, none, .mv true (.t 5)⟩,
                 ⟨some 4, none, .mv true (.t 26)⟩])
               .ret)
              .skip))
            (.seq
             (.region [
               ⟨some 27, none, .mv false (.t 5)⟩,
               ⟨some 28, none, .bin .add (.t 27) (.c (.int .i64 1))⟩,
               ⟨some 5, none, .mv true (.t 28)⟩])
             (.region [
               ⟨some 29, none, .mv false (.t 0)⟩,
               ⟨some 30, none, .mv false (.t 6)⟩,
               ⟨some 31, none, .mv false (.t 1)⟩,
               ⟨some 32, none, .len false (.t 31)⟩,
               ⟨some 33, none, .bin .add (.t 30) (.t 32)⟩,
               ⟨some 34, none, .sli 1 (.t 29) (some (.t 33)) none none⟩,
               ⟨some 0, none, .mv true (.t 34)⟩]))))))))))⟩
theorem t37 : compF Tryd.prog {} 37 = some p37 := by kernel_rfl
def p38 : PFn :=
  ⟨18, [.t 4], .seq
    (.region [
      ⟨some 4, none, .mv true (.c (.bool false))⟩])
    (.seq
     (.region [
       ⟨some 5, none, .mv false (.t 0)⟩,
       ⟨some 6, none, .len false (.t 5)⟩,
       ⟨some 7, none, .mv false (.t 1)⟩,
       ⟨some 8, none, .len false (.t 7)⟩,
       ⟨some 9, none, .bin .geq (.t 6) (.t 8)⟩,
       ⟨some 10, none, .mv false (.t 9)⟩,
       ⟨some 11, some (10, true), .mv false (.t 0)⟩,
       ⟨some 12, some (10, true), .mv false (.t 1)⟩,
       ⟨some 13, some (10, true), .len false (.t 12)⟩,
       ⟨some 14, some (10, true), .sli 1 (.t 11) none (some (.t 13)) none⟩,
       ⟨some 15, some (10, true), .mv false (.t 1)⟩,
       ⟨some 16, some (10, true), .callF 42 [.t 14, .t 15] []⟩,
       ⟨some 17, none, .pick (.t 10) (.t 16) (.c (.bool false))⟩,
       ⟨some 4, none, .mv true (.t 17)⟩])
     .ret)⟩
theorem t38 : compF Tryd.prog {} 38 = some p38 := by kernel_rfl
def p39 : PFn :=
  ⟨6, [.t 4], .seq
    (.region [
      ⟨some 2, none, .bxI 1 (.t 0)⟩,
      ⟨some 3, none, .bx 1 (.t 1)⟩,
      ⟨some 4, none, .mv true (.c .nilf)⟩])
    (.seq
     (.region [
       ⟨some 5, none, .mkf (.func 59) [] [.t 3, .t 2]⟩,
       ⟨some 4, none, .mv true (.t 5)⟩])
     .ret)⟩
theorem t39 : compF Tryd.prog { ros := [2] } 39 = some p39 := by kernel_rfl
def p40 : PFn :=
  ⟨26, [.t 4], .seq
    (.region [
      ⟨some 4, none, .mv true (.c (.bool false))⟩])
    (.seq
     (.seq
      (.region [
        ⟨some 6, none, .mv false (.t 0)⟩,
        ⟨some 7, none, .len false (.t 6)⟩,
        ⟨some 8, none, .mv false (.t 1)⟩,
        ⟨some 9, none, .len false (.t 8)⟩,
        ⟨some 10, none, .bin .neq (.t 7) (.t 9)⟩])
      (.cond (.t 10)
       (.seq
        (.region [
          ⟨some 4, none, .mv true (.c (.bool false))⟩])
        .ret)
       .skip))
     (.seq
      (.seq
       (.region [
         ⟨some 5, none, .mv true (.c (.int .i64 0))⟩])
       (.block 0
        (.loop
         (.seq
          (.seq
           (.region [
             ⟨some 11, none, .mv false (.t 5)⟩,
             ⟨some 12, none, .mv false (.t 0)⟩,
             ⟨some 13, none, .len false (.t 12)⟩,
             ⟨some 14, none, .bin .lss (.t 11) (.t 13)⟩])
           (.cond (.t 14)
            .skip
            (.exit 0)))
          (.seq
           (.block 1
            (.seq
             (.draw [
               ⟨some 17, none, .mv false (.t 0)⟩,
               ⟨some 18, none, .mv false (.t 5)⟩,
               ⟨some 19, none, .iad 1 (.t 17) (.t 18)⟩,
               ⟨some 20, none, .ld 1 false false (.t 19)⟩,
               ⟨some 21, none, .mv false (.t 1)⟩,
               ⟨some 22, none, .mv false (.t 5)⟩,
               ⟨some 23, none, .iad 1 (.t 21) (.t 22)⟩,
               ⟨some 24, none, .ld 1 false false (.t 23)⟩,
               ⟨some 25, none, .bin .neq (.t 20) (.t 24)⟩] [])
             (.cond (.t 25)
              (.seq
               (.region [
                 ⟨some 4, none, .mv true (.c (.bool false))⟩])
               .ret)
              .skip)))
           (.region [
             ⟨some 15, none, .mv false (.t 5)⟩,
             ⟨some 16, none, .bin .add (.t 15) (.c (.int .i64 1))⟩,
             ⟨some 5, none, .mv true (.t 16)⟩]))))))
      (.seq
       (.region [
         ⟨some 4, none, .mv true (.c (.bool true))⟩])
       .ret)))⟩
theorem t40 : compF Tryd.prog {} 40 = some p40 := by kernel_rfl
def p41 : PFn :=
  ⟨200, [.t 4], .seq
    (.region [
      ⟨some 4, none, .mv true (.c (.int .i64 0))⟩])
    (.seq
     (.region [
       ⟨some 20, none, .mv false (.t 1)⟩,
       ⟨some 21, none, .len false (.t 20)⟩,
       ⟨some 5, none, .mv true (.t 21)⟩])
     (.seq
      (.block 0
       (.seq
        (.region [
          ⟨some 23, none, .mv false (.t 5)⟩,
          ⟨some 24, none, .bin .eql (.t 23) (.c (.int .i64 0))⟩,
          ⟨some 22, none, .mv true (.t 24)⟩])
        (.cond (.t 22)
         (.seq
          (.region [
            ⟨some 4, none, .mv true (.c (.int .i64 0))⟩])
          .ret)
         (.seq
          (.region [
            ⟨some 26, none, .mv false (.t 5)⟩,
            ⟨some 27, none, .bin .eql (.t 26) (.c (.int .i64 1))⟩,
            ⟨some 25, none, .mv true (.t 27)⟩])
          (.cond (.t 25)
           (.seq
            (.region [
              ⟨some 28, none, .mv false (.t 0)⟩,
              ⟨some 29, none, .mv false (.t 1)⟩,
              ⟨some 30, none, .iad 1 (.t 29) (.c (.int .i64 0))⟩,
              ⟨some 31, none, .ld 1 false false (.t 30)⟩,
              ⟨some 32, none, .callF 61 [.t 28, .t 31] []⟩,
              ⟨some 4, none, .mv true (.t 32)⟩])
            .ret)
           (.seq
            (.region [
              ⟨some 34, none, .mv false (.t 5)⟩,
              ⟨some 35, none, .mv false (.t 0)⟩,
              ⟨some 36, none, .len false (.t 35)⟩,
              ⟨some 37, none, .bin .eql (.t 34) (.t 36)⟩,
              ⟨some 33, none, .mv true (.t 37)⟩])
            (.cond (.t 33)
             (.seq
              (.seq
               (.region [
                 ⟨some 38, none, .mv false (.t 1)⟩,
                 ⟨some 39, none, .mv false (.t 0)⟩,
                 ⟨some 40, none, .callF 42 [.t 38, .t 39] []⟩])
               (.cond (.t 40)
                (.seq
                 (.region [
                   ⟨some 4, none, .mv true (.c (.int .i64 0))⟩])
                 .ret)
                .skip))
              (.seq
               (.region [
                 ⟨some 4, none, .mv true (.c (.int .i64 (-1)))⟩])
               .ret))
             (.seq
              (.region [
                ⟨some 42, none, .mv false (.t 5)⟩,
                ⟨some 43, none, .mv false (.t 0)⟩,
                ⟨some 44, none, .len false (.t 43)⟩,
                ⟨some 45, none, .bin .gtr (.t 42) (.t 44)⟩,
                ⟨some 41, none, .mv true (.t 45)⟩])
              (.cond (.t 41)
               (.seq
                (.region [
                  ⟨some 4, none, .mv true (.c (.int .i64 (-1)))⟩])
                .ret)
               (.seq
                (.region [
                  ⟨some 47, none, .mv false (.t 5)⟩,
                  ⟨some 48, none, .bad⟩,
                  ⟨some 49, none, .bin .leq (.t 47) (.t 48)⟩,
                  ⟨some 46, none, .mv true (.t 49)⟩])
                (.cond (.t 46)
                 (.seq
                  (.seq
                   (.region [
                     ⟨some 50, none, .mv false (.t 0)⟩,
                     ⟨some 51, none, .len false (.t 50)⟩,
                     ⟨some 52, none, .bin .leq (.t 51) (.c (.int .i64 64))⟩])
                   (.cond (.t 52)
                    (.seq
                     (.region [
                       ⟨some 53, none, .mv false (.t 0)⟩,
                       ⟨some 54, none, .mv false (.t 1)⟩,
                       ⟨some 55, none, .callF 62 [.t 53, .t 54] []⟩,
                       ⟨some 4, none, .mv true (.t 55)⟩])
                     .ret)
                    .skip))
                  (.seq
                   (.region [
                     ⟨some 56, none, .mv false (.t 1)⟩,
                     ⟨some 57, none, .iad 1 (.t 56) (.c (.int .i64 0))⟩,
                     ⟨some 58, none, .ld 1 false false (.t 57)⟩,
                     ⟨some 6, none, .mv true (.t 58)⟩])
                   (.seq
                    (.region [
                      ⟨some 59, none, .mv false (.t 1)⟩,
                      ⟨some 60, none, .iad 1 (.t 59) (.c (.int .i64 1))⟩,
                      ⟨some 61, none, .ld 1 false false (.t 60)⟩,
                      ⟨some 7, none, .mv true (.t 61)⟩])
                    (.seq
                     (.region [
                       ⟨some 8, none, .mv true (.c (.int .i64 0))⟩])
                     (.seq
                      (.region [
                        ⟨some 62, none, .mv false (.t 0)⟩,
                        ⟨some 63, none, .len false (.t 62)⟩,
                        ⟨some 64, none, .mv false (.t 5)⟩,
                        ⟨some 65, none, .bin .sub (.t 63) (.t 64)⟩,
                        ⟨some 66, none, .bin .add (.t 65) (.c (.int .i64 1))⟩,
                        ⟨some 9, none, .mv true (.t 66)⟩])
                      (.seq
                       (.region [
                         ⟨some 10, none, .mv true (.c (.int .i64 0))⟩])
                       (.seq
                        (.block 1
                         (.loop
                          (.seq
                           (.seq
                            (.region [
                              ⟨some 67, none, .mv false (.t 8)⟩,
                              ⟨some 68, none, .mv false (.t 9)⟩,
                              ⟨some 69, none, .bin .lss (.t 67) (.t 68)⟩])
                            (.cond (.t 69)
                             .skip
                             (.exit 1)))
                           (.block 2
                            (.seq
                             (.seq
                              (.region [
                                ⟨some 70, none, .mv false (.t 0)⟩,
                                ⟨some 71, none, .mv false (.t 8)⟩,
                                ⟨some 72, none, .iad 1 (.t 70) (.t 71)⟩,
                                ⟨some 73, none, .ld 1 false false (.t 72)⟩,
                                ⟨some 74, none, .mv false (.t 6)⟩,
                                ⟨some 75, none, .bin .neq (.t 73) (.t 74)⟩])
                              (.cond (.t 75)
                               (.seq
                                (.region [
                                  ⟨some 76, none, .mv false (.t 0)⟩,
                                  ⟨some 77, none, .mv false (.t 8)⟩,
                                  ⟨some 78, none, .bin .add (.t 77) (.c (.int .i64 1))⟩,
                                  ⟨some 79, none, .mv false (.t 9)⟩,
                                  ⟨some 80, none, .sli 1 (.t 76) (some (.t 78)) (some (.t 79)) none⟩,
                                  ⟨some 81, none, .mv false (.t 6)⟩,
                                  ⟨some 82, none, .callF 61 [.t 80, .t 81] []⟩,
                                  ⟨some 11, none, .mv true (.t 82)⟩])
                                (.seq
                                 (.seq
                                  (.region [
                                    ⟨some 83, none, .mv false (.t 11)⟩,
                                    ⟨some 84, none, .bin .lss (.t 83) (.c (.int .i64 0))⟩])
                                  (.cond (.t 84)
                                   (.seq
                                    (.region [
                                      ⟨some 4, none, .mv true (.c (.int .i64 (-1)))⟩])
                                    .ret)
                                   .skip))
                                 (.region [
                                   ⟨some 85, none, .mv false (.t 8)⟩,
                                   ⟨some 86, none, .mv false (.t 11)⟩,
                                   ⟨some 87, none, .bin .add (.t 86) (.c (.int .i64 1))⟩,
                                   ⟨some 88, none, .bin .add (.t 85) (.t 87)⟩,
                                   ⟨some 8, none, .mv true (.t 88)⟩])))
                               .skip))
                             (.seq
                              (.seq
                               (.region [
                                 ⟨some 89, none, .mv false (.t 0)⟩,
                                 ⟨some 90, none, .mv false (.t 8)⟩,
                                 ⟨some 91, none, .bin .add (.t 90) (.c (.int .i64 1))⟩,
                                 ⟨some 92, none, .iad 1 (.t 89) (.t 91)⟩,
                                 ⟨some 93, none, .ld 1 false false (.t 92)⟩,
                                 ⟨some 94, none, .mv false (.t 7)⟩,
                                 ⟨some 95, none, .bin .eql (.t 93) (.t 94)⟩,
                                 ⟨some 96, none, .mv false (.t 95)⟩,
                                 ⟨some 97, some (96, true), .mv false (.t 0)⟩,
                                 ⟨some 98, some (96, true), .mv false (.t 8)⟩,
                                 ⟨some 99, some (96, true), .mv false (.t 8)⟩,
                                 ⟨some 100, some (96, true), .mv false (.t 5)⟩,
                                 ⟨some 101, some (96, true), .bin .add (.t 99) (.t 100)⟩,
                                 ⟨some 102, some (96, true), .sli 1 (.t 97) (some (.t 98)) (some (.t 101)) none⟩,
                                 ⟨some 103, some (96, true), .mv false (.t 1)⟩,
                                 ⟨some 104, some (96, true), .callF 42 [.t 102, .t 103] []⟩,
                                 ⟨some 105, none, .pick (.t 96) (.t 104) (.c (.bool false))⟩])
                               (.cond (.t 105)
                                (.seq
                                 (.region [
                                   ⟨some 106, none, .mv true (.t 8)⟩,
                                   ⟨some 4, none, .mv true (.t 106)⟩])
                                 .ret)
                                .skip))
                              (.seq
                               (.region [
                                 ⟨some 107, none, .mv false (.t 10)⟩,
                                 ⟨some 108, none, .bin .add (.t 107) (.c (.int .i64 1))⟩,
                                 ⟨some 10, none, .mv true (.t 108)⟩])
                               (.seq
                                (.region [
                                  ⟨some 109, none, .mv false (.t 8)⟩,
                                  ⟨some 110, none, .bin .add (.t 109) (.c (.int .i64 1))⟩,
                                  ⟨some 8, none, .mv true (.t 110)⟩])
                                (.seq
                                 (.region [
                                   ⟨some 111, none, .mv false (.t 10)⟩,
                                   ⟨some 112, none, .mv false (.t 8)⟩,
                                   ⟨some 113, none, .callF 63 [.t 112] []⟩,
                                   ⟨some 114, none, .bin .gtr (.t 111) (.t 113)⟩])
                                 (.cond (.t 114)
                                  (.seq
                                   (.region [
                                     ⟨some 115, none, .mv false (.t 0)⟩,
                                     ⟨some 116, none, .mv false (.t 8)⟩,
                                     ⟨some 117, none, .sli 1 (.t 115) (some (.t 116)) none none⟩,
                                     ⟨some 118, none, .mv false (.t 1)⟩,
                                     ⟨some 119, none, .callF 62 [.t 117, .t 118] []⟩,
                                     ⟨some 12, none, .mv true (.t 119)⟩])
                                   (.seq
                                    (.seq
                                     (.region [
                                       ⟨some 120, none, .mv false (.t 12)⟩,
                                       ⟨some 121, none, .bin .geq (.t 120) (.c (.int .i64 0))⟩])
                                     (.cond (.t 121)
                                      (.seq
                                       (.region [
                                         ⟨some 122, none, .mv false (.t 12)⟩,
                                         ⟨some 123, none, .mv false (.t 8)⟩,
                                         ⟨some 124, none, .bin .add (.t 122) (.t 123)⟩,
                                         ⟨some 4, none, .mv true (.t 124)⟩])
                                       .ret)
                                      .skip))
                                    (.seq
                                     (.region [
                                       ⟨some 4, none, .mv true (.c (.int .i64 (-1)))⟩])
                                     .ret)))
                                  .skip))))))))))
                        (.seq
                         (.region [
                           ⟨some 4, none, .mv true (.c (.int .i64 (-1)))⟩])
                         .ret))))))))
                 .skip)))))))))))
      (.seq
       (.region [
         ⟨some 125, none, .mv false (.t 1)⟩,
         ⟨some 126, none, .iad 1 (.t 125) (.c (.int .i64 0))⟩,
         ⟨some 127, none, .ld 1 false false (.t 126)⟩,
         ⟨some 13, none, .mv true (.t 127)⟩])
       (.seq
        (.region [
          ⟨some 128, none, .mv false (.t 1)⟩,
          ⟨some 129, none, .iad 1 (.t 128) (.c (.int .i64 1))⟩,
          ⟨some 130, none, .ld 1 false false (.t 129)⟩,
          ⟨some 14, none, .mv true (.t 130)⟩])
        (.seq
         (.region [
           ⟨some 15, none, .mv true (.c (.int .i64 0))⟩])
         (.seq
          (.region [
            ⟨some 16, none, .mv true (.c (.int .i64 0))⟩])
          (.seq
           (.region [
             ⟨some 131, none, .mv false (.t 0)⟩,
             ⟨some 132, none, .len false (.t 131)⟩,
             ⟨some 133, none, .mv false (.t 5)⟩,
             ⟨some 134, none, .bin .sub (.t 132) (.t 133)⟩,
             ⟨some 135, none, .bin .add (.t 134) (.c (.int .i64 1))⟩,
             ⟨some 17, none, .mv true (.t 135)⟩])
           (.seq
            (.block 3
             (.loop
              (.seq
               (.seq
                (.region [
                  ⟨some 136, none, .mv false (.t 15)⟩,
                  ⟨some 137, none, .mv false (.t 17)⟩,
                  ⟨some 138, none, .bin .lss (.t 136) (.t 137)⟩])
                (.cond (.t 138)
                 .skip
                 (.exit 3)))
               (.block 4
                (.seq
                 (.seq
                  (.region [
                    ⟨some 139, none, .mv false (.t 0)⟩,
                    ⟨some 140, none, .mv false (.t 15)⟩,
                    ⟨some 141, none, .iad 1 (.t 139) (.t 140)⟩,
                    ⟨some 142, none, .ld 1 false false (.t 141)⟩,
                    ⟨some 143, none, .mv false (.t 13)⟩,
                    ⟨some 144, none, .bin .neq (.t 142) (.t 143)⟩])
                  (.cond (.t 144)
                   (.seq
                    (.region [
                      ⟨some 145, none, .mv false (.t 0)⟩,
                      ⟨some 146, none, .mv false (.t 15)⟩,
                      ⟨some 147, none, .bin .add (.t 146) (.c (.int .i64 1))⟩,
                      ⟨some 148, none, .mv false (.t 17)⟩,
                      ⟨some 149, none, .sli 1 (.t 145) (some (.t 147)) (some (.t 148)) none⟩,
                      ⟨some 150, none, .mv false (.t 13)⟩,
                      ⟨some 151, none, .callF 61 [.t 149, .t 150] []⟩,
                      ⟨some 18, none, .mv true (.t 151)⟩])
                    (.seq
                     (.seq
                      (.region [
                        ⟨some 152, none, .mv false (.t 18)⟩,
                        ⟨some 153, none, .bin .lss (.t 152) (.c (.int .i64 0))⟩])
                      (.cond (.t 153)
                       (.exit 3)
                       .skip))
                     (.region [
                       ⟨some 154, none, .mv false (.t 15)⟩,
                       ⟨some 155, none, .mv false (.t 18)⟩,
                       ⟨some 156, none, .bin .add (.t 155) (.c (.int .i64 1))⟩,
                       ⟨some 157, none, .bin .add (.t 154) (.t 156)⟩,
                       ⟨some 15, none, .mv true (.t 157)⟩])))
                   .skip))
                 (.seq
                  (.seq
                   (.region [
                     ⟨some 158, none, .mv false (.t 0)⟩,
                     ⟨some 159, none, .mv false (.t 15)⟩,
                     ⟨some 160, none, .bin .add (.t 159) (.c (.int .i64 1))⟩,
                     ⟨some 161, none, .iad 1 (.t 158) (.t 160)⟩,
                     ⟨some 162, none, .ld 1 false false (.t 161)⟩,
                     ⟨some 163, none, .mv false (.t 14)⟩,
                     ⟨some 164, none, .bin .eql (.t 162) (.t 163)⟩,
                     ⟨some 165, none, .mv false (.t 164)⟩,
                     ⟨some 166, some (165, true), .mv false (.t 0)⟩,
                     ⟨some 167, some (165, true), .mv false (.t 15)⟩,
                     ⟨some 168, some (165, true), .mv false (.t 15)⟩,
                     ⟨some 169, some (165, true), .mv false (.t 5)⟩,
                     ⟨some 170, some (165, true), .bin .add (.t 168) (.t 169)⟩,
                     ⟨some 171, some (165, true), .sli 1 (.t 166) (some (.t 167)) (some (.t 170)) none⟩,
                     ⟨some 172, some (165, true), .mv false (.t 1)⟩,
                     ⟨some 173, some (165, true), .callF 42 [.t 171, .t 172] []⟩,
                     ⟨some 174, none, .pick (.t 165) (.t 173) (.c (.bool false))⟩])
                   (.cond (.t 174)
                    (.seq
                     (.region [
                       ⟨some 175, none, .mv true (.t 15)⟩,
                       ⟨some 4, none, .mv true (.t 175)⟩])
                     .ret)
                    .skip))
                  (.seq
                   (.region [
                     ⟨some 176, none, .mv false (.t 15)⟩,
                     ⟨some 177, none, .bin .add (.t 176) (.c (.int .i64 1))⟩,
                     ⟨some 15, none, .mv true (.t 177)⟩])
                   (.seq
                    (.region [
                      ⟨some 178, none, .mv false (.t 16)⟩,
                      ⟨some 179, none, .bin .add (.t 178) (.c (.int .i64 1))⟩,
                      ⟨some 16, none, .mv true (.t 179)⟩])
                    (.seq
                     (.region [
                       ⟨some 180, none, .mv false (.t 16)⟩,
                       ⟨some 181, none, .mv false (.t 15)⟩,
                       ⟨some 182, none, .bin .shr (.t 181) (.c (.int .u64 4))⟩,
                       ⟨some 183, none, .bin .add (.c (.int .i64 4)) (.t 182)⟩,
                       ⟨some 184, none, .bin .geq (.t 180) (.t 183)⟩,
                       ⟨some 185, none, .mv false (.t 184)⟩,
                       ⟨some 186, some (185, true), .mv false (.t 15)⟩,
                       ⟨some 187, some (185, true), .mv false (.t 17)⟩,
                       ⟨some 188, some (185, true), .bin .lss (.t 186) (.t 187)⟩,
                       ⟨some 189, none, .pick (.t 185) (.t 188) (.c (.bool false))⟩])
                     (.cond (.t 189)
                      (.seq
                       (.region [
                         ⟨some 190, none, .mv false (.t 0)⟩,
                         ⟨some 191, none, .mv false (.t 15)⟩,
                         ⟨some 192, none, .sli 1 (.t 190) (some (.t 191)) none none⟩,
                         ⟨some 193, none, .mv false (.t 1)⟩,
                         ⟨some 194, none, .callF 64 [.t 192, .t 193] []⟩,
                         ⟨some 19, none, .mv true (.t 194)⟩])
                       (.seq
                        (.seq
                         (.region [
                           ⟨some 195, none, .mv false (.t 19)⟩,
                           ⟨some 196, none, .bin .lss (.t 195) (.c (.int .i64 0))⟩])
                         (.cond (.t 196)
                          (.seq
                           (.region [
                             ⟨some 4, none, .mv true (.c (.int .i64 (-1)))⟩])
                           .ret)
                          .skip))
                        (.seq
                         (.region [
                           ⟨some 197, none, .mv false (.t 15)⟩,
                           ⟨some 198, none, .mv false (.t 19)⟩,
                           ⟨some 199, none, .bin .add (.t 197) (.t 198)⟩,
                           ⟨some 4, none, .mv true (.t 199)⟩])
                         .ret)))
                      .skip))))))))))
            (.seq
             (.region [
               ⟨some 4, none, .mv true (.c (.int .i64 (-1)))⟩])
             .ret)))))))))⟩
theorem t41 : compF Tryd.prog {} 41 = some p41 := by kernel_rfl
def p42 : PFn :=
  ⟨10, [.t 4], .seq
    (.region [
      ⟨some 4, none, .mv true (.c (.bool false))⟩])
    (.seq
     (.region [
       ⟨some 5, none, .mv false (.t 0)⟩,
       ⟨some 6, none, .cvS (.t 5)⟩,
       ⟨some 7, none, .mv false (.t 1)⟩,
       ⟨some 8, none, .cvS (.t 7)⟩,
       ⟨some 9, none, .bin .eql (.t 6) (.t 8)⟩,
       ⟨some 4, none, .mv true (.t 9)⟩])
     .ret)⟩
theorem t42 : compF Tryd.prog {} 42 = some p42 := by kernel_rfl
def p43 : PFn :=
  ⟨64, [.t 4, .t 5, .t 6], .seq
    (.region [
      ⟨some 4, none, .mv true (.c (.lst 0 [] true))⟩,
      ⟨some 5, none, .mv true (.c (.int .i64 0))⟩,
      ⟨some 6, none, .mv true (.c (.bool false))⟩])
    (.seq
     (.seq
      (.region [
        ⟨some 14, none, .mv false (.t 1)⟩,
        ⟨some 15, none, .bin .add (.t 14) (.c (.int .i64 1))⟩,
        ⟨some 16, none, .mv false (.t 0)⟩,
        ⟨some 17, none, .len false (.t 16)⟩,
        ⟨some 18, none, .bin .geq (.t 15) (.t 17)⟩,
        ⟨some 19, none, .mv false (.t 18)⟩,
        ⟨some 20, some (19, false), .mv false (.t 0)⟩,
        ⟨some 21, some (19, false), .mv false (.t 1)⟩,
        ⟨some 22, some (19, false), .iad 1 (.t 20) (.t 21)⟩,
        ⟨some 23, some (19, false), .ld 1 false false (.t 22)⟩,
        ⟨some 24, some (19, false), .bin .neq (.t 23) (.c (.int .u8 255))⟩,
        ⟨some 25, none, .pick (.t 19) (.c (.bool true)) (.t 24)⟩,
        ⟨some 26, none, .mv false (.t 25)⟩,
        ⟨some 27, some (26, false), .mv false (.t 0)⟩,
        ⟨some 28, some (26, false), .mv false (.t 1)⟩,
        ⟨some 29, some (26, false), .bin .add (.t 28) (.c (.int .i64 1))⟩,
        ⟨some 30, some (26, false), .iad 1 (.t 27) (.t 29)⟩,
        ⟨some 31, some (26, false), .ld 1 false false (.t 30)⟩,
        ⟨some 32, some (26, false), .bin .neq (.t 31) (.c (.int .u8 83))⟩,
        ⟨some 33, none, .pick (.t 26) (.c (.bool true)) (.t 32)⟩])
      (.cond (.t 33)
       (.seq
        (.region [
          ⟨some 4, none, .mv true (.c (.lst 0 [] true))⟩,
          ⟨some 5, none, .mv true (.c (.int .i64 0))⟩,
          ⟨some 6, none, .mv true (.c (.bool false))⟩])
        .ret)
       .skip))
     (.seq
      (.region [
        ⟨some 34, none, .mv false (.t 0)⟩,
        ⟨some 35, none, .mv false (.t 1)⟩,
        ⟨some 36, none, .bin .add (.t 35) (.c (.int .i64 2))⟩,
        ⟨some 37, none, .callF 65 [.t 34, .t 36] []⟩,
        ⟨some 7, none, .mv true (.t 37)⟩])
      (.seq
       (.region [
         ⟨some 39, none, .mv false (.t 0)⟩,
         ⟨some 40, none, .mv false (.t 1)⟩,
         ⟨some 41, none, .bin .add (.t 40) (.c (.int .i64 2))⟩,
         ⟨some 42, none, .mv false (.t 7)⟩,
         ⟨some 43, none, .sli 1 (.t 39) (some (.t 41)) (some (.t 42)) none⟩,
         ⟨some 44, none, .callF 14 [.t 43] []⟩,
         ⟨some 38, none, .mv true (.t 44)⟩,
         ⟨some 45, none, .ext true (.t 38) 0⟩,
         ⟨some 46, none, .ext false (.t 38) 1⟩,
         ⟨some 8, none, .mv true (.t 45)⟩,
         ⟨some 9, none, .mv true (.t 46)⟩])
       (.seq
        (.seq
         (.region [
           ⟨some 47, none, .mv false (.t 9)⟩,
           ⟨some 48, none, .bin .neq (.t 47) (.c (.int .i64 0))⟩])
         (.cond (.t 48)
          (.seq
           (.region [
             ⟨some 4, none, .mv true (.c (.lst 0 [] true))⟩,
             ⟨some 5, none, .mv true (.c (.int .i64 0))⟩,
             ⟨some 6, none, .mv true (.c (.bool false))⟩])
           .ret)
          .skip))
        (.seq
         (.region [
           ⟨some 50, none, .mv false (.t 8)⟩,
           ⟨some 51, none, .callF 66 [.t 50] []⟩,
           ⟨some 49, none, .mv true (.t 51)⟩,
           ⟨some 52, none, .ext true (.t 49) 0⟩,
           ⟨some 53, none, .ext false (.t 49) 1⟩,
           ⟨some 10, none, .mv true (.t 52)⟩,
           ⟨some 11, none, .mv true (.t 53)⟩])
         (.seq
          (.seq
           (.region [
             ⟨some 54, none, .mv false (.t 11)⟩,
             ⟨some 55, none, .bin .neq (.t 54) (.c (.int .i64 0))⟩])
           (.cond (.t 55)
            (.seq
             (.region [
               ⟨some 4, none, .mv true (.c (.lst 0 [] true))⟩,
               ⟨some 5, none, .mv true (.c (.int .i64 0))⟩,
               ⟨some 6, none, .mv true (.c (.bool false))⟩])
             .ret)
            .skip))
          (.seq
           (.region [
             ⟨some 57, none, .mv false (.t 10)⟩,
             ⟨some 58, none, .callF 67 [.t 57] []⟩,
             ⟨some 56, none, .mv true (.t 58)⟩,
             ⟨some 59, none, .ext true (.t 56) 0⟩,
             ⟨some 60, none, .ext false (.t 56) 1⟩,
             ⟨some 12, none, .mv true (.t 59)⟩,
             ⟨some 13, none, .mv true (.t 60)⟩])
           (.seq
            (.region [
              ⟨some 61, none, .mv true (.t 12)⟩,
              ⟨some 62, none, .mv true (.t 7)⟩,
              ⟨some 63, none, .mv true (.t 13)⟩,
              ⟨some 4, none, .mv true (.t 61)⟩,
              ⟨some 5, none, .mv true (.t 62)⟩,
              ⟨some 6, none, .mv true (.t 63)⟩])
            .ret))))))))⟩
theorem t43 : compF Tryd.prog {} 43 = some p43 := by kernel_rfl
def p44 : PFn :=
  ⟨40, [.t 6], .seq
    (.region [
      ⟨some 6, none, .mv true (.c (.lst 0 [] true))⟩])
    (.seq
     (.region [
       ⟨some 9, none, .bsl 1 0 false [] [] false⟩,
       ⟨some 7, none, .mv true (.t 9)⟩])
     (.seq
      (.seq
       (.region [
         ⟨some 8, none, .mv true (.c (.int .i64 0))⟩])
       (.block 0
        (.loop
         (.seq
          (.seq
           (.region [
             ⟨some 10, none, .mv false (.t 8)⟩,
             ⟨some 11, none, .mv false (.t 0)⟩,
             ⟨some 12, none, .len false (.t 11)⟩,
             ⟨some 13, none, .bin .lss (.t 10) (.t 12)⟩])
           (.cond (.t 13)
            .skip
            (.exit 0)))
          (.seq
           (.block 1
            (.seq
             (.region [
               ⟨some 16, none, .mv false (.t 0)⟩,
               ⟨some 17, none, .mv false (.t 8)⟩,
               ⟨some 18, none, .iad 2 (.t 16) (.t 17)⟩,
               ⟨some 19, none, .fad 0 (.t 18)⟩,
               ⟨some 20, none, .ld 1 false false (.t 19)⟩,
               ⟨some 21, none, .mv false (.t 1)⟩,
               ⟨some 22, none, .bin .geq (.t 20) (.t 21)⟩,
               ⟨some 23, none, .mv false (.t 22)⟩,
               ⟨some 24, some (23, true), .mv false (.t 0)⟩,
               ⟨some 25, some (23, true), .mv false (.t 8)⟩,
               ⟨some 26, some (23, true), .iad 2 (.t 24) (.t 25)⟩,
               ⟨some 27, some (23, true), .fad 0 (.t 26)⟩,
               ⟨some 28, some (23, true), .ld 1 false false (.t 27)⟩,
               ⟨some 29, some (23, true), .mv false (.t 2)⟩,
               ⟨some 30, some (23, true), .bin .lss (.t 28) (.t 29)⟩,
               ⟨some 31, none, .pick (.t 23) (.t 30) (.c (.bool false))⟩])
             (.cond (.t 31)
              (.region [
                ⟨some 32, none, .mv true (.t 7)⟩,
                ⟨some 33, none, .mv false (.t 0)⟩,
                ⟨some 34, none, .mv false (.t 8)⟩,
                ⟨some 35, none, .iad 2 (.t 33) (.t 34)⟩,
                ⟨some 36, none, .fad 1 (.t 35)⟩,
                ⟨some 37, none, .ld 1 false false (.t 36)⟩,
                ⟨some 38, none, .app 1 24 (.t 32) (.t 37)⟩,
                ⟨some 7, none, .mv true (.t 38)⟩])
              .skip)))
           (.region [
             ⟨some 14, none, .mv false (.t 8)⟩,
             ⟨some 15, none, .bin .add (.t 14) (.c (.int .i64 1))⟩,
             ⟨some 8, none, .mv true (.t 15)⟩]))))))
      (.seq
       (.region [
         ⟨some 39, none, .mv true (.t 7)⟩,
         ⟨some 6, none, .mv true (.t 39)⟩])
       .ret)))⟩
theorem t44 : compF Tryd.prog {} 44 = some p44 := by kernel_rfl
def p45 : PFn :=
  ⟨11, [.t 2], .seq
    (.region [
      ⟨some 2, none, .mv true (.c (.int .u32 0))⟩])
    (.seq
     (.seq
      (.region [
        ⟨some 3, none, .mv false (.t 0)⟩,
        ⟨some 4, none, .bin .and (.t 3) (.c (.int .u32 1))⟩,
        ⟨some 5, none, .bin .neq (.t 4) (.c (.int .u32 0))⟩])
      (.cond (.t 5)
       (.seq
        (.region [
          ⟨some 6, none, .mv false (.t 0)⟩,
          ⟨some 7, none, .bin .shr (.t 6) (.c (.int .u64 1))⟩,
          ⟨some 8, none, .bin .xor (.t 7) (.c (.int .u32 3988292384))⟩,
          ⟨some 2, none, .mv true (.t 8)⟩])
        .ret)
       .skip))
     (.seq
      (.region [
        ⟨some 9, none, .mv false (.t 0)⟩,
        ⟨some 10, none, .bin .shr (.t 9) (.c (.int .u64 1))⟩,
        ⟨some 2, none, .mv true (.t 10)⟩])
      .ret))⟩
theorem t45 : compF Tryd.prog {} 45 = some p45 := by kernel_rfl
def p46 : PFn :=
  ⟨31, [], .seq
    (.region [
      ⟨some 4, none, .mv true (.c (.int .i64 0))⟩])
    (.block 0
     (.loop
      (.seq
       (.seq
        (.region [
          ⟨some 6, none, .mv false (.t 4)⟩,
          ⟨some 7, none, .ld 1 false false (.t 1)⟩,
          ⟨some 8, none, .len false (.t 7)⟩,
          ⟨some 9, none, .bin .lss (.t 6) (.t 8)⟩])
        (.cond (.t 9)
         .skip
         (.exit 0)))
       (.seq
        (.block 1
         (.seq
          (.draw [
            ⟨some 13, none, .ld 1 false false (.t 2)⟩,
            ⟨some 14, none, .ld 1 false false (.t 1)⟩,
            ⟨some 15, none, .mv false (.t 4)⟩,
            ⟨some 16, none, .sli 1 (.t 14) (some (.t 15)) none none⟩,
            ⟨some 17, none, .len false (.t 16)⟩,
            ⟨some 18, none, .mm false (.t 13) (.t 17)⟩,
            ⟨some 5, none, .mv true (.t 18)⟩] [])
          (.seq
           (.region [
             ⟨some 19, none, .mv false (.t 0)⟩,
             ⟨some 20, none, .ld 1 false false (.t 1)⟩,
             ⟨some 21, none, .mv false (.t 4)⟩,
             ⟨some 22, none, .mv false (.t 4)⟩,
             ⟨some 23, none, .mv false (.t 5)⟩,
             ⟨some 24, none, .bin .add (.t 22) (.t 23)⟩,
             ⟨some 25, none, .mv false (.t 4)⟩,
             ⟨some 26, none, .mv false (.t 5)⟩,
             ⟨some 27, none, .bin .add (.t 25) (.t 26)⟩,
             ⟨some 28, none, .sli 1 (.t 20) (some (.t 21)) (some (.t 24)) (some (.t 27))⟩,
             ⟨some 29, none, .callV (.t 19) [.t 28]⟩,
             ⟨some 30, none, .un .not (.t 29)⟩])
           (.cond (.t 30)
            .ret
            .skip))))
        (.region [
          ⟨some 10, none, .mv false (.t 4)⟩,
          ⟨some 11, none, .ld 1 false false (.t 2)⟩,
          ⟨some 12, none, .bin .add (.t 10) (.t 11)⟩,
          ⟨some 4, none, .mv true (.t 12)⟩])))))⟩
theorem t46 : compF Tryd.prog {} 46 = some p46 := by kernel_rfl
def p47 : PFn :=
  ⟨9, [.t 2], .seq
    (.region [
      ⟨some 2, none, .mv true (.c (.int .i64 0))⟩])
    (.seq
     (.region [
       ⟨some 3, none, .mv false (.t 0)⟩,
       ⟨some 4, none, .callF 68 [.t 3] []⟩,
       ⟨some 5, none, .bin .add (.t 4) (.c (.int .i64 7))⟩,
       ⟨some 6, none, .bin .sub (.t 5) (.c (.int .i64 1))⟩,
       ⟨some 7, none, .bin .quo (.t 6) (.c (.int .i64 7))⟩,
       ⟨some 8, none, .mm true (.c (.int .i64 1)) (.t 7)⟩,
       ⟨some 2, none, .mv true (.t 8)⟩])
     .ret)⟩
theorem t47 : compF Tryd.prog {} 47 = some p47 := by kernel_rfl
def p48 : PFn :=
  ⟨12, [.t 4], .seq
    (.region [
      ⟨some 4, none, .mv true (.c (.lst 0 [] true))⟩])
    (.seq
     (.region [
       ⟨some 5, none, .mv false (.t 0)⟩,
       ⟨some 6, none, .mv false (.t 1)⟩,
       ⟨some 7, none, .len true (.t 6)⟩,
       ⟨some 8, none, .cvI .u64 (.t 7)⟩,
       ⟨some 9, none, .callF 28 [.t 5, .t 8] []⟩,
       ⟨some 10, none, .mv false (.t 1)⟩,
       ⟨some 11, none, .app 1 1 (.t 9) (.t 10)⟩,
       ⟨some 4, none, .mv true (.t 11)⟩])
     .ret)⟩
theorem t48 : compF Tryd.prog {} 48 = some p48 := by kernel_rfl
def p49 : PFn :=
  ⟨19, [.t 4, .t 5], .seq
    (.region [
      ⟨some 4, none, .mv true (.c (.int .u32 0))⟩,
      ⟨some 5, none, .mv true (.c (.int .i64 0))⟩])
    (.seq
     (.region [
       ⟨some 9, none, .mv false (.t 0)⟩,
       ⟨some 10, none, .mv false (.t 1)⟩,
       ⟨some 11, none, .callF 69 [.t 9, .c (.int .u32 4294967295), .t 10] []⟩,
       ⟨some 8, none, .mv true (.t 11)⟩,
       ⟨some 12, none, .ext false (.t 8) 0⟩,
       ⟨some 13, none, .ext false (.t 8) 1⟩,
       ⟨some 6, none, .mv true (.t 12)⟩,
       ⟨some 7, none, .mv true (.t 13)⟩])
     (.seq
      (.seq
       (.region [
         ⟨some 14, none, .mv false (.t 7)⟩,
         ⟨some 15, none, .bin .neq (.t 14) (.c (.int .i64 0))⟩])
       (.cond (.t 15)
        (.seq
         (.region [
           ⟨some 16, none, .mv true (.t 7)⟩,
           ⟨some 4, none, .mv true (.c (.int .u32 0))⟩,
           ⟨some 5, none, .mv true (.t 16)⟩])
         .ret)
        .skip))
      (.seq
       (.region [
         ⟨some 17, none, .mv false (.t 6)⟩,
         ⟨some 18, none, .un .xor (.t 17)⟩,
         ⟨some 4, none, .mv true (.t 18)⟩,
         ⟨some 5, none, .mv true (.c (.int .i64 0))⟩])
       .ret)))⟩
theorem t49 : compF Tryd.prog {} 49 = some p49 := by kernel_rfl
def p50 : PFn :=
  ⟨15, [.t 2], .seq
    (.region [
      ⟨some 2, none, .mv true (.c (.lst 0 [] true))⟩])
    (.seq
     (.region [
       ⟨some 3, none, .mv false (.t 0)⟩,
       ⟨some 4, none, .cvI .u8 (.t 3)⟩,
       ⟨some 5, none, .mv false (.t 0)⟩,
       ⟨some 6, none, .bin .shr (.t 5) (.c (.int .u64 8))⟩,
       ⟨some 7, none, .cvI .u8 (.t 6)⟩,
       ⟨some 8, none, .mv false (.t 0)⟩,
       ⟨some 9, none, .bin .shr (.t 8) (.c (.int .u64 16))⟩,
       ⟨some 10, none, .cvI .u8 (.t 9)⟩,
       ⟨some 11, none, .mv false (.t 0)⟩,
       ⟨some 12, none, .bin .shr (.t 11) (.c (.int .u64 24))⟩,
       ⟨some 13, none, .cvI .u8 (.t 12)⟩,
       ⟨some 14, none, .bsl 1 4 false [.int .u8 0, .int .u8 0, .int .u8 0, .int .u8 0] [(0, .t 4), (1, .t 7), (2, .t 10), (3, .t 13)] false⟩,
       ⟨some 2, none, .mv true (.t 14)⟩])
     .ret)⟩
theorem t50 : compF Tryd.prog {} 50 = some p50 := by kernel_rfl
def p51 : PFn :=
  ⟨27, [.t 4], .seq
    (.region [
      ⟨some 4, none, .mv true (.c (.lst 0 [] true))⟩])
    (.seq
     (.seq
      (.region [
        ⟨some 5, none, .mv false (.t 1)⟩,
        ⟨some 6, none, .bin .lss (.t 5) (.c (.int .i64 0))⟩])
      (.cond (.t 6)
       (.region [
         ⟨some 7, none, .bad⟩,
         ⟨none, none, .bad⟩])
       .skip))
     (.seq
      (.seq
       (.region [
         ⟨some 8, none, .mv false (.t 1)⟩,
         ⟨some 9, none, .mv false (.t 0)⟩,
         ⟨some 10, none, .cap (.t 9)⟩,
         ⟨some 11, none, .mv false (.t 0)⟩,
         ⟨some 12, none, .len false (.t 11)⟩,
         ⟨some 13, none, .bin .sub (.t 10) (.t 12)⟩,
         ⟨some 14, none, .bin .sub (.t 8) (.t 13)⟩,
         ⟨some 1, none, .mv true (.t 14)⟩])
       (.seq
        (.region [
          ⟨some 15, none, .mv false (.t 1)⟩,
          ⟨some 16, none, .bin .gtr (.t 15) (.c (.int .i64 0))⟩])
        (.cond (.t 16)
         (.region [
           ⟨some 17, none, .mv false (.t 0)⟩,
           ⟨some 18, none, .mv false (.t 0)⟩,
           ⟨some 19, none, .cap (.t 18)⟩,
           ⟨some 20, none, .sli 1 (.t 17) none (some (.t 19)) none⟩,
           ⟨some 21, none, .mv false (.t 1)⟩,
           ⟨some 22, none, .bad⟩,
           ⟨some 23, none, .mv false (.t 0)⟩,
           ⟨some 24, none, .len false (.t 23)⟩,
           ⟨some 25, none, .sli 1 (.t 22) none (some (.t 24)) none⟩,
           ⟨some 0, none, .mv true (.t 25)⟩])
         .skip)))
      (.seq
       (.region [
         ⟨some 26, none, .mv true (.t 0)⟩,
         ⟨some 4, none, .mv true (.t 26)⟩])
       .ret)))⟩
theorem t51 : compF Tryd.prog {} 51 = some p51 := by kernel_rfl
def p52 : PFn :=
  ⟨21, [.t 2], .seq
    (.region [
      ⟨some 2, none, .mv true (.c (.lst 0 [] true))⟩])
    (.seq
     (.region [
       ⟨some 4, none, .bsl 1 0 false [] [] false⟩,
       ⟨some 3, none, .mv true (.t 4)⟩])
     (.seq
      (.block 0
       (.loop
        (.seq
         (.seq
          (.region [
            ⟨some 5, none, .mv false (.t 0)⟩,
            ⟨some 6, none, .bin .geq (.t 5) (.c (.int .u64 128))⟩])
          (.cond (.t 6)
           .skip
           (.exit 0)))
         (.block 1
          (.seq
           (.region [
             ⟨some 7, none, .mv true (.t 3)⟩,
             ⟨some 8, none, .mv false (.t 0)⟩,
             ⟨some 9, none, .bin .rem (.t 8) (.c (.int .u64 128))⟩,
             ⟨some 10, none, .bin .add (.t 9) (.c (.int .u64 128))⟩,
             ⟨some 11, none, .cvI .u8 (.t 10)⟩,
             ⟨some 12, none, .bsl 1 1 false [.int .u8 0] [(0, .t 11)] false⟩,
             ⟨some 13, none, .app 1 1 (.t 7) (.t 12)⟩,
             ⟨some 3, none, .mv true (.t 13)⟩])
           (.region [
             ⟨some 14, none, .mv false (.t 0)⟩,
             ⟨some 15, none, .bin .quo (.t 14) (.c (.int .u64 128))⟩,
             ⟨some 0, none, .mv true (.t 15)⟩]))))))
      (.seq
       (.region [
         ⟨some 16, none, .mv true (.t 3)⟩,
         ⟨some 17, none, .mv false (.t 0)⟩,
         ⟨some 18, none, .cvI .u8 (.t 17)⟩,
         ⟨some 19, none, .bsl 1 1 false [.int .u8 0] [(0, .t 18)] false⟩,
         ⟨some 20, none, .app 1 1 (.t 16) (.t 19)⟩,
         ⟨some 2, none, .mv true (.t 20)⟩])
       .ret)))⟩
theorem t52 : compF Tryd.prog {} 52 = some p52 := by kernel_rfl
def p53 : PFn :=
  ⟨14, [.t 4], .seq
    (.region [
      ⟨some 4, none, .mv true (.c (.lst 0 [] true))⟩])
    (.seq
     (.region [
       ⟨some 6, none, .mv false (.t 0)⟩,
       ⟨some 7, none, .mv false (.t 1)⟩,
       ⟨some 8, none, .len true (.t 7)⟩,
       ⟨some 9, none, .cvI .u64 (.t 8)⟩,
       ⟨some 10, none, .callF 33 [.t 6, .t 9] []⟩,
       ⟨some 5, none, .mv true (.t 10)⟩])
     (.seq
      (.region [
        ⟨some 11, none, .mv true (.t 5)⟩,
        ⟨some 12, none, .mv false (.t 1)⟩,
        ⟨some 13, none, .app 1 1 (.t 11) (.t 12)⟩,
        ⟨some 4, none, .mv true (.t 13)⟩])
      .ret))⟩
theorem t53 : compF Tryd.prog {} 53 = some p53 := by kernel_rfl
def p54 : PFn :=
  ⟨15, [.t 2], .seq
    (.region [
      ⟨some 2, none, .mv true (.c (.lst 0 [] true))⟩])
    (.seq
     (.region [
       ⟨some 3, none, .mv false (.t 0)⟩,
       ⟨some 4, none, .cvI .u8 (.t 3)⟩,
       ⟨some 5, none, .mv false (.t 0)⟩,
       ⟨some 6, none, .bin .quo (.t 5) (.c (.int .u32 256))⟩,
       ⟨some 7, none, .cvI .u8 (.t 6)⟩,
       ⟨some 8, none, .mv false (.t 0)⟩,
       ⟨some 9, none, .bin .quo (.t 8) (.c (.int .u32 65536))⟩,
       ⟨some 10, none, .cvI .u8 (.t 9)⟩,
       ⟨some 11, none, .mv false (.t 0)⟩,
       ⟨some 12, none, .bin .quo (.t 11) (.c (.int .u32 16777216))⟩,
       ⟨some 13, none, .cvI .u8 (.t 12)⟩,
       ⟨some 14, none, .bsl 1 4 false [.int .u8 0, .int .u8 0, .int .u8 0, .int .u8 0] [(0, .t 4), (1, .t 7), (2, .t 10), (3, .t 13)] false⟩,
       ⟨some 2, none, .mv true (.t 14)⟩])
     .ret)⟩
theorem t54 : compF Tryd.prog {} 54 = some p54 := by kernel_rfl
def p55 : PFn :=
  ⟨26, [.t 2], .seq
    (.region [
      ⟨some 2, none, .mv true (.c (.int .u32 0))⟩])
    (.seq
     (.region [
       ⟨some 3, none, .mv true (.c (.int .u32 4294967295))⟩])
     (.seq
      (.seq
       (.region [
         ⟨some 4, none, .mv true (.c (.int .i64 0))⟩])
       (.block 0
        (.loop
         (.seq
          (.seq
           (.region [
             ⟨some 5, none, .mv false (.t 4)⟩,
             ⟨some 6, none, .mv false (.t 0)⟩,
             ⟨some 7, none, .len false (.t 6)⟩,
             ⟨some 8, none, .bin .lss (.t 5) (.t 7)⟩])
           (.cond (.t 8)
            .skip
            (.exit 0)))
          (.seq
           (.block 1
            (.region [
              ⟨some 11, none, .mv false (.t 3)⟩,
              ⟨some 12, none, .mv false (.t 0)⟩,
              ⟨some 13, none, .mv false (.t 4)⟩,
              ⟨some 14, none, .iad 1 (.t 12) (.t 13)⟩,
              ⟨some 15, none, .ld 1 false false (.t 14)⟩,
              ⟨some 16, none, .cvI .u32 (.t 15)⟩,
              ⟨some 17, none, .bin .xor (.t 11) (.t 16)⟩,
              ⟨some 18, none, .bin .rem (.t 17) (.c (.int .u32 256))⟩,
              ⟨some 19, none, .cvI .i64 (.t 18)⟩,
              ⟨some 20, none, .callF 70 [.t 19] []⟩,
              ⟨some 21, none, .mv false (.t 3)⟩,
              ⟨some 22, none, .bin .quo (.t 21) (.c (.int .u32 256))⟩,
              ⟨some 23, none, .bin .xor (.t 20) (.t 22)⟩,
              ⟨some 3, none, .mv true (.t 23)⟩]))
           (.region [
             ⟨some 9, none, .mv false (.t 4)⟩,
             ⟨some 10, none, .bin .add (.t 9) (.c (.int .i64 1))⟩,
             ⟨some 4, none, .mv true (.t 10)⟩]))))))
      (.seq
       (.region [
         ⟨some 24, none, .mv false (.t 3)⟩,
         ⟨some 25, none, .bin .xor (.t 24) (.c (.int .u32 4294967295))⟩,
         ⟨some 2, none, .mv true (.t 25)⟩])
       .ret)))⟩
theorem t55 : compF Tryd.prog {} 55 = some p55 := by kernel_rfl
def p56 : PFn :=
  ⟨132, [.t 8], .seq
    (.region [
      ⟨some 8, none, .mv true (.c (.lst 0 [] true))⟩])
    (.seq
     (.region [
       ⟨some 9, none, .mv true (.c (.int .i64 0))⟩])
     (.seq
      (.seq
       (.region [
         ⟨some 17, none, .mv false (.t 3)⟩,
         ⟨some 18, none, .bin .neq (.t 17) (.c (.int .i64 0))⟩])
       (.cond (.t 18)
        (.region [
          ⟨some 19, none, .mv false (.t 0)⟩,
          ⟨some 20, none, .mv false (.t 1)⟩,
          ⟨some 21, none, .callF 37 [.t 19, .t 20] []⟩,
          ⟨some 9, none, .mv true (.t 21)⟩])
        .skip))
      (.seq
       (.seq
        (.region [
          ⟨some 22, none, .mv false (.t 9)⟩,
          ⟨some 23, none, .bin .eql (.t 22) (.c (.int .i64 0))⟩])
        (.cond (.t 23)
         (.seq
          (.region [
            ⟨some 24, none, .mv false (.t 0)⟩,
            ⟨some 25, none, .app 1 1 (.c (.lst 0 [] true)) (.t 24)⟩,
            ⟨some 8, none, .mv true (.t 25)⟩])
          .ret)
         .skip))
       (.seq
        (.seq
         (.region [
           ⟨some 26, none, .mv false (.t 3)⟩,
           ⟨some 27, none, .bin .lss (.t 26) (.c (.int .i64 0))⟩,
           ⟨some 28, none, .mv false (.t 27)⟩,
           ⟨some 29, some (28, false), .mv false (.t 9)⟩,
           ⟨some 30, some (28, false), .mv false (.t 3)⟩,
           ⟨some 31, some (28, false), .bin .lss (.t 29) (.t 30)⟩,
           ⟨some 32, none, .pick (.t 28) (.c (.bool true)) (.t 31)⟩])
         (.cond (.t 32)
          (.region [
            ⟨some 33, none, .mv true (.t 9)⟩,
            ⟨some 3, none, .mv true (.t 33)⟩])
          .skip))
        (.seq
         (.region [
           ⟨some 34, none, .mv false (.t 0)⟩,
           ⟨some 35, none, .len false (.t 34)⟩,
           ⟨some 36, none, .mv false (.t 3)⟩,
           ⟨some 37, none, .mv false (.t 2)⟩,
           ⟨some 38, none, .len false (.t 37)⟩,
           ⟨some 39, none, .mv false (.t 1)⟩,
           ⟨some 40, none, .len false (.t 39)⟩,
           ⟨some 41, none, .bin .sub (.t 38) (.t 40)⟩,
           ⟨some 42, none, .bin .mul (.t 36) (.t 41)⟩,
           ⟨some 43, none, .bin .add (.t 35) (.t 42)⟩,
           ⟨some 44, none, .mk 1 1 false [.int .u8 0] (.t 43) (.t 43) false⟩,
           ⟨some 10, none, .mv true (.t 44)⟩])
         (.seq
          (.region [
            ⟨some 11, none, .mv true (.c (.int .i64 0))⟩])
          (.seq
           (.region [
             ⟨some 12, none, .mv true (.c (.int .i64 0))⟩])
           (.seq
            (.seq
             (.region [
               ⟨some 45, none, .mv false (.t 1)⟩,
               ⟨some 46, none, .len false (.t 45)⟩,
               ⟨some 47, none, .bin .gtr (.t 46) (.c (.int .i64 0))⟩])
             (.cond (.t 47)
              (.seq
               (.region [
                 ⟨some 48, none, .mv false (.t 3)⟩,
                 ⟨some 49, none, .mv false (.c (.int .i64 0))⟩])
               (.block 0
                (.loop
                 (.seq
                  (.region [
                    ⟨some 50, none, .bin .lss (.t 49) (.t 48)⟩])
                  (.seq
                   (.cond (.t 50)
                    .skip
                    (.exit 0))
                   (.seq
                    (.block 1
                     (.seq
                      (.region [
                        ⟨some 51, none, .mv false (.t 12)⟩,
                        ⟨some 52, none, .mv false (.t 0)⟩,
                        ⟨some 53, none, .mv false (.t 12)⟩,
                        ⟨some 54, none, .sli 1 (.t 52) (some (.t 53)) none none⟩,
                        ⟨some 55, none, .mv false (.t 1)⟩,
                        ⟨some 56, none, .callF 41 [.t 54, .t 55] []⟩,
                        ⟨some 57, none, .bin .add (.t 51) (.t 56)⟩,
                        ⟨some 13, none, .mv true (.t 57)⟩])
                      (.seq
                       (.draw [
                         ⟨some 58, none, .mv false (.t 11)⟩,
                         ⟨some 59, none, .mv false (.t 10)⟩,
                         ⟨some 60, none, .mv false (.t 11)⟩,
                         ⟨some 61, none, .sli 1 (.t 59) (some (.t 60)) none none⟩,
                         ⟨some 62, none, .mv false (.t 0)⟩,
                         ⟨some 63, none, .mv false (.t 12)⟩,
                         ⟨some 64, none, .mv false (.t 13)⟩,
                         ⟨some 65, none, .sli 1 (.t 62) (some (.t 63)) (some (.t 64)) none⟩,
                         ⟨some 66, none, .cpy 1 (.t 61) (.t 65)⟩,
                         ⟨some 67, none, .bin .add (.t 58) (.t 66)⟩,
                         ⟨some 11, none, .mv true (.t 67)⟩] [])
                       (.seq
                        (.region [
                          ⟨some 68, none, .mv false (.t 11)⟩,
                          ⟨some 69, none, .mv false (.t 10)⟩,
                          ⟨some 70, none, .mv false (.t 11)⟩,
                          ⟨some 71, none, .sli 1 (.t 69) (some (.t 70)) none none⟩,
                          ⟨some 72, none, .mv false (.t 2)⟩,
                          ⟨some 73, none, .cpy 1 (.t 71) (.t 72)⟩,
                          ⟨some 74, none, .bin .add (.t 68) (.t 73)⟩,
                          ⟨some 11, none, .mv true (.t 74)⟩])
                        (.region [
                          ⟨some 75, none, .mv false (.t 13)⟩,
                          ⟨some 76, none, .mv false (.t 1)⟩,
                          ⟨some 77, none, .len false (.t 76)⟩,
                          ⟨some 78, none, .bin .add (.t 75) (.t 77)⟩,
                          ⟨some 12, none, .mv true (.t 78)⟩])))))
                    (.region [
                      ⟨some 79, none, .bin .add (.t 49) (.c (.int .i64 1))⟩,
                      ⟨some 49, none, .mv false (.t 79)⟩])))))))
              (.seq
               (.region [
                 ⟨some 80, none, .mv false (.t 11)⟩,
                 ⟨some 81, none, .mv false (.t 10)⟩,
                 ⟨some 82, none, .mv false (.t 11)⟩,
                 ⟨some 83, none, .sli 1 (.t 81) (some (.t 82)) none none⟩,
                 ⟨some 84, none, .mv false (.t 2)⟩,
                 ⟨some 85, none, .cpy 1 (.t 83) (.t 84)⟩,
                 ⟨some 86, none, .bin .add (.t 80) (.t 85)⟩,
                 ⟨some 11, none, .mv true (.t 86)⟩])
               (.seq
                (.region [
                  ⟨some 87, none, .mv false (.t 3)⟩,
                  ⟨some 88, none, .bin .sub (.t 87) (.c (.int .i64 1))⟩,
                  ⟨some 89, none, .mv false (.c (.int .i64 0))⟩])
                (.block 2
                 (.loop
                  (.seq
                   (.region [
                     ⟨some 90, none, .bin .lss (.t 89) (.t 88)⟩])
                   (.seq
                    (.cond (.t 90)
                     .skip
                     (.exit 2))
                    (.seq
                     (.block 3
                      (.seq
                       (.region [
                         ⟨some 92, none, .mv false (.t 0)⟩,
                         ⟨some 93, none, .mv false (.t 12)⟩,
                         ⟨some 94, none, .sli 1 (.t 92) (some (.t 93)) none none⟩,
                         ⟨some 95, none, .callF 71 [.t 94] []⟩,
                         ⟨some 91, none, .mv true (.t 95)⟩,
                         ⟨some 96, none, .ext false (.t 91) 0⟩,
                         ⟨some 97, none, .ext false (.t 91) 1⟩,
                         ⟨some 14, none, .mv true (.t 96)⟩,
                         ⟨some 15, none, .mv true (.t 97)⟩])
                       (.seq
                        (.region [
                          ⟨some 98, none, .mv false (.t 12)⟩,
                          ⟨some 99, none, .mv false (.t 15)⟩,
                          ⟨some 100, none, .bin .add (.t 98) (.t 99)⟩,
                          ⟨some 16, none, .mv true (.t 100)⟩])
                        (.seq
                         (.draw [
                           ⟨some 101, none, .mv false (.t 11)⟩,
                           ⟨some 102, none, .mv false (.t 10)⟩,
                           ⟨some 103, none, .mv false (.t 11)⟩,
                           ⟨some 104, none, .sli 1 (.t 102) (some (.t 103)) none none⟩,
                           ⟨some 105, none, .mv false (.t 0)⟩,
                           ⟨some 106, none, .mv false (.t 12)⟩,
                           ⟨some 107, none, .mv false (.t 16)⟩,
                           ⟨some 108, none, .sli 1 (.t 105) (some (.t 106)) (some (.t 107)) none⟩,
                           ⟨some 109, none, .cpy 1 (.t 104) (.t 108)⟩,
                           ⟨some 110, none, .bin .add (.t 101) (.t 109)⟩,
                           ⟨some 11, none, .mv true (.t 110)⟩] [])
                         (.seq
                          (.region [
                            ⟨some 111, none, .mv false (.t 11)⟩,
                            ⟨some 112, none, .mv false (.t 10)⟩,
                            ⟨some 113, none, .mv false (.t 11)⟩,
                            ⟨some 114, none, .sli 1 (.t 112) (some (.t 113)) none none⟩,
                            ⟨some 115, none, .mv false (.t 2)⟩,
                            ⟨some 116, none, .cpy 1 (.t 114) (.t 115)⟩,
                            ⟨some 117, none, .bin .add (.t 111) (.t 116)⟩,
                            ⟨some 11, none, .mv true (.t 117)⟩])
                          (.region [
                            ⟨some 118, none, .mv true (.t 16)⟩,
                            ⟨some 12, none, .mv true (.t 118)⟩]))))))
                     (.region [
                       ⟨some 119, none, .bin .add (.t 89) (.c (.int .i64 1))⟩,
                       ⟨some 89, none, .mv false (.t 119)⟩]))))))))))
            (.seq
             (.draw [
               ⟨some 120, none, .mv false (.t 11)⟩,
               ⟨some 121, none, .mv false (.t 10)⟩,
               ⟨some 122, none, .mv false (.t 11)⟩,
               ⟨some 123, none, .sli 1 (.t 121) (some (.t 122)) none none⟩,
               ⟨some 124, none, .mv false (.t 0)⟩,
               ⟨some 125, none, .mv false (.t 12)⟩,
               ⟨some 126, none, .sli 1 (.t 124) (some (.t 125)) none none⟩,
               ⟨some 127, none, .cpy 1 (.t 123) (.t 126)⟩,
               ⟨some 128, none, .bin .add (.t 120) (.t 127)⟩,
               ⟨some 11, none, .mv true (.t 128)⟩] [])
             (.seq
              (.region [
                ⟨some 129, none, .mv false (.t 10)⟩,
                ⟨some 130, none, .mv false (.t 11)⟩,
                ⟨some 131, none, .sli 1 (.t 129) (some (.c (.int .i64 0))) (some (.t 130)) none⟩,
                ⟨some 8, none, .mv true (.t 131)⟩])
              .ret))))))))))⟩
theorem t56 : compF Tryd.prog {} 56 = some p56 := by kernel_rfl
def p57 : PFn :=
  ⟨27, [.t 2], .seq
    (.region [
      ⟨some 2, none, .mv true (.c (.int .i64 0))⟩])
    (.seq
     (.region [
       ⟨some 6, none, .mv false (.t 0)⟩,
       ⟨some 7, none, .len false (.t 6)⟩,
       ⟨some 3, none, .mv true (.t 7)⟩])
     (.seq
      (.region [
        ⟨some 4, none, .mv true (.c (.int .i64 0))⟩])
      (.seq
       (.block 0
        (.loop
         (.seq
          (.seq
           (.region [
             ⟨some 8, none, .mv false (.t 4)⟩,
             ⟨some 9, none, .mv false (.t 3)⟩,
             ⟨some 10, none, .bin .lss (.t 8) (.t 9)⟩])
           (.cond (.t 10)
            .skip
            (.exit 0)))
          (.seq
           (.block 1
            (.seq
             (.region [
               ⟨some 13, none, .mv false (.t 0)⟩,
               ⟨some 14, none, .mv false (.t 4)⟩,
               ⟨some 15, none, .iad 1 (.t 13) (.t 14)⟩,
               ⟨some 16, none, .ld 1 false false (.t 15)⟩,
               ⟨some 5, none, .mv true (.t 16)⟩])
             (.seq
              (.region [
                ⟨some 17, none, .mv false (.t 5)⟩,
                ⟨some 18, none, .bin .geq (.t 17) (.c (.int .u8 128))⟩])
              (.cond (.t 18)
               (.seq
                (.region [
                  ⟨some 19, none, .mv false (.t 4)⟩,
                  ⟨some 20, none, .mv false (.t 0)⟩,
                  ⟨some 21, none, .mv false (.t 4)⟩,
                  ⟨some 22, none, .sli 1 (.t 20) (some (.t 21)) none none⟩,
                  ⟨some 23, none, .cvS (.t 22)⟩,
                  ⟨some 24, none, .callF 72 [.t 23] []⟩,
                  ⟨some 25, none, .bin .add (.t 19) (.t 24)⟩,
                  ⟨some 2, none, .mv true (.t 25)⟩])
                .ret)
               .skip))))
           (.region [
             ⟨some 11, none, .mv false (.t 4)⟩,
             ⟨some 12, none, .bin .add (.t 11) (.c (.int .i64 1))⟩,
             ⟨some 4, none, .mv true (.t 12)⟩])))))
       (.seq
        (.region [
          ⟨some 26, none, .mv true (.t 4)⟩,
          ⟨some 2, none, .mv true (.t 26)⟩])
        .ret))))⟩
theorem t57 : compF Tryd.prog {} 57 = some p57 := by kernel_rfl
def p59 : PFn :=
  ⟨31, [], .seq
    (.region [
      ⟨some 8, none, .callF 26 [] []⟩,
      ⟨some 4, none, .mv true (.t 8)⟩])
    (.block 0
     (.loop
      (.seq
       (.seq
        (.region [
          ⟨some 9, none, .ld 1 false false (.t 1)⟩,
          ⟨some 10, none, .ld 1 false false (.t 2)⟩,
          ⟨some 11, none, .len false (.t 10)⟩,
          ⟨some 12, none, .bin .lss (.t 9) (.t 11)⟩])
        (.cond (.t 12)
         .skip
         (.exit 0)))
       (.block 1
        (.seq
         (.region [
           ⟨some 14, none, .ld 1 false false (.t 2)⟩,
           ⟨some 15, none, .ld 1 false false (.t 1)⟩,
           ⟨some 16, none, .mv false (.t 4)⟩,
           ⟨some 17, none, .callF 60 [.t 14, .t 15, .t 16] []⟩,
           ⟨some 13, none, .mv true (.t 17)⟩,
           ⟨some 18, none, .ext true (.t 13) 0⟩,
           ⟨some 19, none, .ext false (.t 13) 1⟩,
           ⟨some 20, none, .ext false (.t 13) 2⟩,
           ⟨some 5, none, .al [.int .i64 0, .lst 0 [] true]⟩,
           ⟨none, none, .sto 2 (.t 5) (.t 18)⟩,
           ⟨some 6, none, .mv true (.t 19)⟩,
           ⟨some 7, none, .mv true (.t 20)⟩])
         (.seq
          (.seq
           (.region [
             ⟨some 21, none, .mv false (.t 7)⟩,
             ⟨some 22, none, .bin .neq (.t 21) (.c (.int .i64 0))⟩,
             ⟨some 23, none, .mv false (.t 22)⟩,
             ⟨some 24, some (23, false), .mv false (.t 0)⟩,
             ⟨some 25, some (23, false), .mv false (.t 6)⟩,
             ⟨some 26, some (23, false), .ld 2 true false (.t 5)⟩,
             ⟨some 27, some (23, false), .callV (.t 24) [.t 25, .t 26]⟩,
             ⟨some 28, some (23, false), .un .not (.t 27)⟩,
             ⟨some 29, none, .pick (.t 23) (.c (.bool true)) (.t 28)⟩])
           (.cond (.t 29)
            .ret
            .skip))
          (.region [
            ⟨some 30, none, .mv true (.t 6)⟩,
            ⟨none, none, .sto 1 (.t 1) (.t 30)⟩])))))))⟩
theorem t59 : compF Tryd.prog {} 59 = some p59 := by kernel_rfl
def p60 : PFn :=
  ⟨60, [.c 6 2 true, .t 7, .t 8], .seq
    (.region [
      ⟨some 6, none, .al [.int .i64 0, .lst 0 [] true]⟩,
      ⟨some 7, none, .mv true (.c (.int .i64 0))⟩,
      ⟨some 8, none, .mv true (.c (.int .i64 0))⟩])
    (.seq
     (.seq
      (.region [
        ⟨some 15, none, .mv false (.t 0)⟩,
        ⟨some 16, none, .mv false (.t 1)⟩,
        ⟨some 17, none, .sli 1 (.t 15) (some (.t 16)) none none⟩,
        ⟨some 18, none, .nl 1 2 false [.int .u8 0, .int .u8 0] [(0, .c (.int .u8 255)), (1, .c (.int .u8 83))]⟩,
        ⟨some 19, none, .cvM (.t 18)⟩,
        ⟨some 20, none, .callF 38 [.t 17, .t 19] []⟩,
        ⟨some 21, none, .un .not (.t 20)⟩])
      (.cond (.t 21)
       (.seq
        (.region [
          ⟨some 22, none, .build [.int .i64 0, .lst 0 [] true] []⟩,
          ⟨none, none, .sto 2 (.t 6) (.t 22)⟩,
          ⟨some 7, none, .mv true (.c (.int .i64 0))⟩,
          ⟨some 8, none, .mv true (.c (.int .i64 3))⟩])
        .ret)
       .skip))
     (.seq
      (.region [
        ⟨some 23, none, .mv false (.t 1)⟩,
        ⟨some 24, none, .bin .add (.t 23) (.c (.int .i64 2))⟩,
        ⟨some 9, none, .mv true (.t 24)⟩])
      (.seq
       (.region [
         ⟨some 25, none, .mv false (.t 0)⟩,
         ⟨some 26, none, .mv false (.t 9)⟩,
         ⟨some 27, none, .callF 20 [.t 25, .t 26] []⟩,
         ⟨some 10, none, .mv true (.t 27)⟩])
       (.seq
        (.region [
          ⟨some 29, none, .mv false (.t 0)⟩,
          ⟨some 30, none, .mv false (.t 9)⟩,
          ⟨some 31, none, .mv false (.t 10)⟩,
          ⟨some 32, none, .sli 1 (.t 29) (some (.t 30)) (some (.t 31)) none⟩,
          ⟨some 33, none, .callF 13 [.t 32] []⟩,
          ⟨some 28, none, .mv true (.t 33)⟩,
          ⟨some 34, none, .ext true (.t 28) 0⟩,
          ⟨some 35, none, .ext false (.t 28) 1⟩,
          ⟨some 11, none, .mv true (.t 34)⟩,
          ⟨some 12, none, .mv true (.t 35)⟩])
        (.seq
         (.seq
          (.region [
            ⟨some 36, none, .mv false (.t 12)⟩,
            ⟨some 37, none, .bin .neq (.t 36) (.c (.int .i64 0))⟩])
          (.cond (.t 37)
           (.seq
            (.region [
              ⟨some 38, none, .build [.int .i64 0, .lst 0 [] true] []⟩,
              ⟨some 39, none, .mv true (.t 12)⟩,
              ⟨none, none, .sto 2 (.t 6) (.t 38)⟩,
              ⟨some 7, none, .mv true (.c (.int .i64 0))⟩,
              ⟨some 8, none, .mv true (.t 39)⟩])
            .ret)
           .skip))
         (.seq
          (.region [
            ⟨some 41, none, .mv false (.t 2)⟩,
            ⟨some 42, none, .mv false (.t 11)⟩,
            ⟨some 43, none, .callF 73 [.t 41, .t 42] []⟩,
            ⟨some 40, none, .mv true (.t 43)⟩,
            ⟨some 44, none, .ext true (.t 40) 0⟩,
            ⟨some 45, none, .ext false (.t 40) 1⟩,
            ⟨some 13, none, .mv true (.t 44)⟩,
            ⟨some 12, none, .mv true (.t 45)⟩])
          (.seq
           (.seq
            (.region [
              ⟨some 46, none, .mv false (.t 12)⟩,
              ⟨some 47, none, .bin .neq (.t 46) (.c (.int .i64 0))⟩])
            (.cond (.t 47)
             (.seq
              (.region [
                ⟨some 48, none, .build [.int .i64 0, .lst 0 [] true] []⟩,
                ⟨some 49, none, .mv true (.t 12)⟩,
                ⟨none, none, .sto 2 (.t 6) (.t 48)⟩,
                ⟨some 7, none, .mv true (.c (.int .i64 0))⟩,
                ⟨some 8, none, .mv true (.t 49)⟩])
              .ret)
             .skip))
           (.seq
            (.region [
              ⟨some 51, none, .mv false (.t 13)⟩,
              ⟨some 52, none, .callF 74 [.t 51] []⟩,
              ⟨some 50, none, .mv true (.t 52)⟩,
              ⟨some 53, none, .ext true (.t 50) 0⟩,
              ⟨some 54, none, .ext false (.t 50) 1⟩,
              ⟨some 14, none, .mv true (.t 53)⟩,
              ⟨some 12, none, .mv true (.t 54)⟩])
            (.seq
             (.region [
               ⟨some 55, none, .mv false (.t 1)⟩,
               ⟨some 56, none, .mv false (.t 14)⟩,
               ⟨some 57, none, .build [.int .i64 0, .lst 0 [] true] [(0, (1, .t 55)), (1, (1, .t 56))]⟩,
               ⟨some 58, none, .mv true (.t 10)⟩,
               ⟨some 59, none, .mv true (.t 12)⟩,
               ⟨none, none, .sto 2 (.t 6) (.t 57)⟩,
               ⟨some 7, none, .mv true (.t 58)⟩,
               ⟨some 8, none, .mv true (.t 59)⟩])
             .ret)))))))))⟩
theorem t60 : compF Tryd.prog {} 60 = some p60 := by kernel_rfl
def p61 : PFn :=
  ⟨8, [.t 4], .seq
    (.region [
      ⟨some 4, none, .mv true (.c (.int .i64 0))⟩])
    (.seq
     (.region [
       ⟨some 5, none, .mv false (.t 0)⟩,
       ⟨some 6, none, .mv false (.t 1)⟩,
       ⟨some 7, none, .callF 75 [.t 5, .t 6] []⟩,
       ⟨some 4, none, .mv true (.t 7)⟩])
     .ret)⟩
theorem t61 : compF Tryd.prog {} 61 = some p61 := by kernel_rfl
def p63 : PFn :=
  ⟨6, [.t 2], .seq
    (.region [
      ⟨some 2, none, .mv true (.c (.int .i64 0))⟩])
    (.seq
     (.region [
       ⟨some 3, none, .mv false (.t 0)⟩,
       ⟨some 4, none, .bin .add (.t 3) (.c (.int .i64 16))⟩,
       ⟨some 5, none, .bin .quo (.t 4) (.c (.int .i64 8))⟩,
       ⟨some 2, none, .mv true (.t 5)⟩])
     .ret)⟩
theorem t63 : compF Tryd.prog {} 63 = some p63 := by kernel_rfl
def p64 : PFn :=
  ⟨88, [.t 4], .seq
    (.region [
      ⟨some 4, none, .mv true (.c (.int .i64 0))⟩])
    (.seq
     (.region [
       ⟨some 12, none, .mv false (.t 1)⟩,
       ⟨some 13, none, .callF 76 [.t 12] []⟩,
       ⟨some 11, none, .mv true (.t 13)⟩,
       ⟨some 14, none, .ext false (.t 11) 0⟩,
       ⟨some 15, none, .ext false (.t 11) 1⟩,
       ⟨some 5, none, .mv true (.t 14)⟩,
       ⟨some 6, none, .mv true (.t 15)⟩])
     (.seq
      (.region [
        ⟨some 16, none, .mv false (.t 1)⟩,
        ⟨some 17, none, .len false (.t 16)⟩,
        ⟨some 7, none, .mv true (.t 17)⟩])
      (.seq
       (.region [
         ⟨some 8, none, .mv true (.c (.int .u32 0))⟩])
       (.seq
        (.seq
         (.region [
           ⟨some 9, none, .mv true (.c (.int .i64 0))⟩])
         (.block 0
          (.loop
           (.seq
            (.seq
             (.region [
               ⟨some 18, none, .mv false (.t 9)⟩,
               ⟨some 19, none, .mv false (.t 7)⟩,
               ⟨some 20, none, .bin .lss (.t 18) (.t 19)⟩])
             (.cond (.t 20)
              .skip
              (.exit 0)))
            (.seq
             (.block 1
              (.region [
                ⟨some 23, none, .mv false (.t 8)⟩,
                ⟨some 24, none, .bin .mul (.t 23) (.c (.int .u32 16777619))⟩,
                ⟨some 25, none, .mv false (.t 0)⟩,
                ⟨some 26, none, .mv false (.t 9)⟩,
                ⟨some 27, none, .iad 1 (.t 25) (.t 26)⟩,
                ⟨some 28, none, .ld 1 false false (.t 27)⟩,
                ⟨some 29, none, .cvI .u32 (.t 28)⟩,
                ⟨some 30, none, .bin .add (.t 24) (.t 29)⟩,
                ⟨some 8, none, .mv true (.t 30)⟩]))
             (.region [
               ⟨some 21, none, .mv false (.t 9)⟩,
               ⟨some 22, none, .bin .add (.t 21) (.c (.int .i64 1))⟩,
               ⟨some 9, none, .mv true (.t 22)⟩]))))))
        (.seq
         (.seq
          (.draw [
            ⟨some 31, none, .mv false (.t 8)⟩,
            ⟨some 32, none, .mv false (.t 5)⟩,
            ⟨some 33, none, .bin .eql (.t 31) (.t 32)⟩,
            ⟨some 34, none, .mv false (.t 33)⟩,
            ⟨some 35, some (34, true), .mv false (.t 0)⟩,
            ⟨some 36, some (34, true), .mv false (.t 7)⟩,
            ⟨some 37, some (34, true), .sli 1 (.t 35) none (some (.t 36)) none⟩,
            ⟨some 38, some (34, true), .cvS (.t 37)⟩,
            ⟨some 39, some (34, true), .mv false (.t 1)⟩,
            ⟨some 40, some (34, true), .cvS (.t 39)⟩,
            ⟨some 41, some (34, true), .bin .eql (.t 38) (.t 40)⟩,
            ⟨some 42, none, .pick (.t 34) (.t 41) (.c (.bool false))⟩] [])
          (.cond (.t 42)
           (.seq
            (.region [
              ⟨some 4, none, .mv true (.c (.int .i64 0))⟩])
            .ret)
           .skip))
         (.seq
          (.seq
           (.region [
             ⟨some 43, none, .mv true (.t 7)⟩,
             ⟨some 10, none, .mv true (.t 43)⟩])
           (.block 2
            (.loop
             (.seq
              (.seq
               (.region [
                 ⟨some 44, none, .mv false (.t 10)⟩,
                 ⟨some 45, none, .mv false (.t 0)⟩,
                 ⟨some 46, none, .len false (.t 45)⟩,
                 ⟨some 47, none, .bin .lss (.t 44) (.t 46)⟩])
               (.cond (.t 47)
                .skip
                (.exit 2)))
              (.block 3
               (.seq
                (.region [
                  ⟨some 48, none, .mv false (.t 8)⟩,
                  ⟨some 49, none, .bin .mul (.t 48) (.c (.int .u32 16777619))⟩,
                  ⟨some 8, none, .mv true (.t 49)⟩])
                (.seq
                 (.region [
                   ⟨some 50, none, .mv false (.t 8)⟩,
                   ⟨some 51, none, .mv false (.t 0)⟩,
                   ⟨some 52, none, .mv false (.t 10)⟩,
                   ⟨some 53, none, .iad 1 (.t 51) (.t 52)⟩,
                   ⟨some 54, none, .ld 1 false false (.t 53)⟩,
                   ⟨some 55, none, .cvI .u32 (.t 54)⟩,
                   ⟨some 56, none, .bin .add (.t 50) (.t 55)⟩,
                   ⟨some 8, none, .mv true (.t 56)⟩])
                 (.seq
                  (.region [
                    ⟨some 57, none, .mv false (.t 8)⟩,
                    ⟨some 58, none, .mv false (.t 6)⟩,
                    ⟨some 59, none, .mv false (.t 0)⟩,
                    ⟨some 60, none, .mv false (.t 10)⟩,
                    ⟨some 61, none, .mv false (.t 7)⟩,
                    ⟨some 62, none, .bin .sub (.t 60) (.t 61)⟩,
                    ⟨some 63, none, .iad 1 (.t 59) (.t 62)⟩,
                    ⟨some 64, none, .ld 1 false false (.t 63)⟩,
                    ⟨some 65, none, .cvI .u32 (.t 64)⟩,
                    ⟨some 66, none, .bin .mul (.t 58) (.t 65)⟩,
                    ⟨some 67, none, .bin .sub (.t 57) (.t 66)⟩,
                    ⟨some 8, none, .mv true (.t 67)⟩])
                  (.seq
                   (.region [
                     ⟨some 68, none, .mv false (.t 10)⟩,
                     ⟨some 69, none, .bin .add (.t 68) (.c (.int .i64 1))⟩,
                     ⟨some 10, none, .mv true (.t 69)⟩])
                   (.seq
                    (.draw [
                      ⟨some 70, none, .mv false (.t 8)⟩,
                      ⟨some 71, none, .mv false (.t 5)⟩,
                      ⟨some 72, none, .bin .eql (.t 70) (.t 71)⟩,
                      ⟨some 73, none, .mv false (.t 72)⟩,
                      ⟨some 74, some (73, true), .mv false (.t 0)⟩,
                      ⟨some 75, some (73, true), .mv false (.t 10)⟩,
                      ⟨some 76, some (73, true), .mv false (.t 7)⟩,
                      ⟨some 77, some (73, true), .bin .sub (.t 75) (.t 76)⟩,
                      ⟨some 78, some (73, true), .mv false (.t 10)⟩,
                      ⟨some 79, some (73, true), .sli 1 (.t 74) (some (.t 77)) (some (.t 78)) none⟩,
                      ⟨some 80, some (73, true), .cvS (.t 79)⟩,
                      ⟨some 81, some (73, true), .mv false (.t 1)⟩,
                      ⟨some 82, some (73, true), .cvS (.t 81)⟩,
                      ⟨some 83, some (73, true), .bin .eql (.t 80) (.t 82)⟩,
                      ⟨some 84, none, .pick (.t 73) (.t 83) (.c (.bool false))⟩] [])
                    (.cond (.t 84)
                     (.seq
                      (.region [
                        ⟨some 85, none, .mv false (.t 10)⟩,
                        ⟨some 86, none, .mv false (.t 7)⟩,
                        ⟨some 87, none, .bin .sub (.t 85) (.t 86)⟩,
                        ⟨some 4, none, .mv true (.t 87)⟩])
                      .ret)
                     .skip)))))))))))
          (.seq
           (.region [
             ⟨some 4, none, .mv true (.c (.int .i64 (-1)))⟩])
           .ret)))))))⟩
theorem t64 : compF Tryd.prog {} 64 = some p64 := by kernel_rfl
def p65 : PFn :=
  ⟨31, [.t 4], .seq
    (.region [
      ⟨some 4, none, .mv true (.c (.int .i64 0))⟩])
    (.seq
     (.seq
      (.region [
        ⟨some 6, none, .mv false (.t 1)⟩,
        ⟨some 7, none, .mm true (.t 6) (.c (.int .i64 0))⟩,
        ⟨some 5, none, .mv true (.t 7)⟩])
      (.block 0
       (.loop
        (.seq
         (.seq
          (.region [
            ⟨some 8, none, .mv false (.t 5)⟩,
            ⟨some 9, none, .mv false (.t 0)⟩,
            ⟨some 10, none, .len false (.t 9)⟩,
            ⟨some 11, none, .bin .sub (.t 10) (.c (.int .i64 1))⟩,
            ⟨some 12, none, .bin .lss (.t 8) (.t 11)⟩])
          (.cond (.t 12)
           .skip
           (.exit 0)))
         (.seq
          (.block 1
           (.seq
            (.region [
              ⟨some 15, none, .mv false (.t 0)⟩,
              ⟨some 16, none, .mv false (.t 5)⟩,
              ⟨some 17, none, .iad 1 (.t 15) (.t 16)⟩,
              ⟨some 18, none, .ld 1 false false (.t 17)⟩,
              ⟨some 19, none, .bin .eql (.t 18) (.c (.int .u8 255))⟩,
              ⟨some 20, none, .mv false (.t 19)⟩,
              ⟨some 21, some (20, true), .mv false (.t 0)⟩,
              ⟨some 22, some (20, true), .mv false (.t 5)⟩,
              ⟨some 23, some (20, true), .bin .add (.t 22) (.c (.int .i64 1))⟩,
              ⟨some 24, some (20, true), .iad 1 (.t 21) (.t 23)⟩,
              ⟨some 25, some (20, true), .ld 1 false false (.t 24)⟩,
              ⟨some 26, some (20, true), .bin .eql (.t 25) (.c (.int .u8 83))⟩,
              ⟨some 27, none, .pick (.t 20) (.t 26) (.c (.bool false))⟩])
            (.cond (.t 27)
             (.seq
              (.region [
                ⟨some 28, none, .mv true (.t 5)⟩,
                ⟨some 4, none, .mv true (.t 28)⟩])
              .ret)
             .skip)))
          (.region [
            ⟨some 13, none, .mv false (.t 5)⟩,
            ⟨some 14, none, .bin .add (.t 13) (.c (.int .i64 1))⟩,
            ⟨some 5, none, .mv true (.t 14)⟩]))))))
     (.seq
      (.region [
        ⟨some 29, none, .mv false (.t 0)⟩,
        ⟨some 30, none, .len false (.t 29)⟩,
        ⟨some 4, none, .mv true (.t 30)⟩])
      .ret))⟩
theorem t65 : compF Tryd.prog {} 65 = some p65 := by kernel_rfl
def p66 : PFn :=
  ⟨26, [.t 2, .t 3], .seq
    (.region [
      ⟨some 2, none, .mv true (.c (.lst 0 [] true))⟩,
      ⟨some 3, none, .mv true (.c (.int .i64 0))⟩])
    (.seq
     (.region [
       ⟨some 5, none, .mv false (.t 0)⟩,
       ⟨some 6, none, .len false (.t 5)⟩,
       ⟨some 7, none, .bin .sub (.t 6) (.c (.int .i64 4))⟩,
       ⟨some 4, none, .mv true (.t 7)⟩])
     (.seq
      (.seq
       (.region [
         ⟨some 8, none, .mv false (.t 4)⟩,
         ⟨some 9, none, .bin .lss (.t 8) (.c (.int .i64 0))⟩])
       (.cond (.t 9)
        (.seq
         (.region [
           ⟨some 2, none, .mv true (.c (.lst 0 [] true))⟩,
           ⟨some 3, none, .mv true (.c (.int .i64 2))⟩])
         .ret)
        .skip))
      (.seq
       (.seq
        (.draw [
          ⟨some 10, none, .mv false (.t 0)⟩,
          ⟨some 11, none, .mv false (.t 4)⟩,
          ⟨some 12, none, .sli 1 (.t 10) none (some (.t 11)) none⟩,
          ⟨some 13, none, .callF 55 [.t 12] []⟩,
          ⟨some 14, none, .callF 54 [.t 13] []⟩,
          ⟨some 15, none, .cvS (.t 14)⟩,
          ⟨some 16, none, .mv false (.t 0)⟩,
          ⟨some 17, none, .mv false (.t 4)⟩,
          ⟨some 18, none, .sli 1 (.t 16) (some (.t 17)) none none⟩,
          ⟨some 19, none, .cvS (.t 18)⟩,
          ⟨some 20, none, .bin .neq (.t 15) (.t 19)⟩] [])
        (.cond (.t 20)
         (.seq
          (.region [
            ⟨some 2, none, .mv true (.c (.lst 0 [] true))⟩,
            ⟨some 3, none, .mv true (.c (.int .i64 4))⟩])
          .ret)
         .skip))
       (.seq
        (.region [
          ⟨some 21, none, .bsl 1 0 false [] [] false⟩,
          ⟨some 22, none, .mv false (.t 0)⟩,
          ⟨some 23, none, .mv false (.t 4)⟩,
          ⟨some 24, none, .sli 1 (.t 22) none (some (.t 23)) none⟩,
          ⟨some 25, none, .app 1 1 (.t 21) (.t 24)⟩,
          ⟨some 2, none, .mv true (.t 25)⟩,
          ⟨some 3, none, .mv true (.c (.int .i64 0))⟩])
        .ret))))⟩
theorem t66 : compF Tryd.prog {} 66 = some p66 := by kernel_rfl
def p67 : PFn :=
  ⟨54, [.t 2, .t 3], .seq
    (.region [
      ⟨some 2, none, .mv true (.c (.lst 0 [] true))⟩,
      ⟨some 3, none, .mv true (.c (.bool false))⟩])
    (.seq
     (.region [
       ⟨some 12, none, .mv false (.t 0)⟩,
       ⟨some 13, none, .callF 77 [.t 12] []⟩,
       ⟨some 11, none, .mv true (.t 13)⟩,
       ⟨some 14, none, .ext false (.t 11) 0⟩,
       ⟨some 15, none, .ext true (.t 11) 1⟩,
       ⟨some 16, none, .ext false (.t 11) 2⟩,
       ⟨some 4, none, .mv true (.t 14)⟩,
       ⟨some 0, none, .mv true (.t 15)⟩,
       ⟨some 5, none, .mv true (.t 16)⟩])
     (.seq
      (.seq
       (.region [
         ⟨some 17, none, .mv false (.t 5)⟩,
         ⟨some 18, none, .bin .neq (.t 17) (.c (.int .i64 0))⟩,
         ⟨some 19, none, .mv false (.t 18)⟩,
         ⟨some 20, some (19, false), .mv false (.t 4)⟩,
         ⟨some 21, some (19, false), .bin .lss (.t 20) (.c (.int .u64 1))⟩,
         ⟨some 22, none, .pick (.t 19) (.c (.bool true)) (.t 21)⟩,
         ⟨some 23, none, .mv false (.t 22)⟩,
         ⟨some 24, some (23, false), .mv false (.t 4)⟩,
         ⟨some 25, some (23, false), .bin .gtr (.t 24) (.c (.int .u64 100))⟩,
         ⟨some 26, none, .pick (.t 23) (.c (.bool true)) (.t 25)⟩])
       (.cond (.t 26)
        (.seq
         (.region [
           ⟨some 2, none, .mv true (.c (.lst 0 [] true))⟩,
           ⟨some 3, none, .mv true (.c (.bool false))⟩])
         .ret)
        .skip))
      (.seq
       (.region [
         ⟨some 27, none, .bsl 1 0 false [] [] false⟩,
         ⟨some 6, none, .mv true (.t 27)⟩])
       (.seq
        (.seq
         (.region [
           ⟨some 7, none, .mv true (.c (.int .u64 0))⟩])
         (.block 0
          (.loop
           (.seq
            (.seq
             (.region [
               ⟨some 28, none, .mv false (.t 7)⟩,
               ⟨some 29, none, .mv false (.t 4)⟩,
               ⟨some 30, none, .bin .lss (.t 28) (.t 29)⟩])
             (.cond (.t 30)
              .skip
              (.exit 0)))
            (.seq
             (.block 1
              (.seq
               (.region [
                 ⟨some 34, none, .mv false (.t 0)⟩,
                 ⟨some 35, none, .callF 78 [.t 34, .c (.int .i64 1000)] []⟩,
                 ⟨some 33, none, .mv true (.t 35)⟩,
                 ⟨some 36, none, .ext true (.t 33) 0⟩,
                 ⟨some 37, none, .ext false (.t 33) 1⟩,
                 ⟨some 38, none, .ext false (.t 33) 2⟩,
                 ⟨some 8, none, .al [.str [], .str []]⟩,
                 ⟨none, none, .sto 2 (.t 8) (.t 36)⟩,
                 ⟨some 9, none, .mv true (.t 37)⟩,
                 ⟨some 10, none, .mv true (.t 38)⟩])
               (.seq
                (.seq
                 (.region [
                   ⟨some 39, none, .mv false (.t 10)⟩,
                   ⟨some 40, none, .bin .neq (.t 39) (.c (.int .i64 0))⟩])
                 (.cond (.t 40)
                  (.seq
                   (.region [
                     ⟨some 2, none, .mv true (.c (.lst 0 [] true))⟩,
                     ⟨some 3, none, .mv true (.c (.bool false))⟩])
                   .ret)
                  .skip))
                (.seq
                 (.region [
                   ⟨some 41, none, .mv true (.t 6)⟩,
                   ⟨some 42, none, .fad 0 (.t 8)⟩,
                   ⟨some 43, none, .ld 1 false false (.t 42)⟩,
                   ⟨some 44, none, .fad 1 (.t 8)⟩,
                   ⟨some 45, none, .ld 1 false false (.t 44)⟩,
                   ⟨some 46, none, .bsl 1 2 false [.str [], .str []] [(0, .t 43), (1, .t 45)] false⟩,
                   ⟨some 47, none, .bsl 1 1 false [.lst 0 [] true] [(0, .t 46)] false⟩,
                   ⟨some 48, none, .app 1 24 (.t 41) (.t 47)⟩,
                   ⟨some 6, none, .mv true (.t 48)⟩])
                 (.region [
                   ⟨some 49, none, .mv true (.t 9)⟩,
                   ⟨some 0, none, .mv true (.t 49)⟩])))))
             (.region [
               ⟨some 31, none, .mv false (.t 7)⟩,
               ⟨some 32, none, .bin .add (.t 31) (.c (.int .u64 1))⟩,
               ⟨some 7, none, .mv true (.t 32)⟩]))))))
        (.seq
         (.region [
           ⟨some 50, none, .mv true (.t 6)⟩,
           ⟨some 51, none, .mv false (.t 0)⟩,
           ⟨some 52, none, .len false (.t 51)⟩,
           ⟨some 53, none, .bin .eql (.t 52) (.c (.int .i64 0))⟩,
           ⟨some 2, none, .mv true (.t 50)⟩,
           ⟨some 3, none, .mv true (.t 53)⟩])
         .ret)))))⟩
theorem t67 : compF Tryd.prog {} 67 = some p67 := by kernel_rfl
def p68 : PFn :=
  ⟨25, [.t 2], .seq
    (.region [
      ⟨some 2, none, .mv true (.c (.int .i64 0))⟩])
    (.seq
     (.seq
      (.region [
        ⟨some 3, none, .mv false (.t 0)⟩,
        ⟨some 4, none, .bin .geq (.t 3) (.c (.int .u64 4294967296))⟩])
      (.cond (.t 4)
       (.seq
        (.region [
          ⟨some 5, none, .mv false (.t 0)⟩,
          ⟨some 6, none, .bin .shr (.t 5) (.c (.int .u64 32))⟩,
          ⟨some 0, none, .mv true (.t 6)⟩])
        (.region [
          ⟨some 2, none, .mv true (.c (.int .i64 32))⟩]))
       .skip))
     (.seq
      (.seq
       (.region [
         ⟨some 7, none, .mv false (.t 0)⟩,
         ⟨some 8, none, .bin .geq (.t 7) (.c (.int .u64 65536))⟩])
       (.cond (.t 8)
        (.seq
         (.region [
           ⟨some 9, none, .mv false (.t 0)⟩,
           ⟨some 10, none, .bin .shr (.t 9) (.c (.int .u64 16))⟩,
           ⟨some 0, none, .mv true (.t 10)⟩])
         (.region [
           ⟨some 11, none, .mv false (.t 2)⟩,
           ⟨some 12, none, .bin .add (.t 11) (.c (.int .i64 16))⟩,
           ⟨some 2, none, .mv true (.t 12)⟩]))
        .skip))
      (.seq
       (.seq
        (.region [
          ⟨some 13, none, .mv false (.t 0)⟩,
          ⟨some 14, none, .bin .geq (.t 13) (.c (.int .u64 256))⟩])
        (.cond (.t 14)
         (.seq
          (.region [
            ⟨some 15, none, .mv false (.t 0)⟩,
            ⟨some 16, none, .bin .shr (.t 15) (.c (.int .u64 8))⟩,
            ⟨some 0, none, .mv true (.t 16)⟩])
          (.region [
            ⟨some 17, none, .mv false (.t 2)⟩,
            ⟨some 18, none, .bin .add (.t 17) (.c (.int .i64 8))⟩,
            ⟨some 2, none, .mv true (.t 18)⟩]))
         .skip))
       (.seq
        (.region [
          ⟨some 19, none, .mv false (.t 2)⟩,
          ⟨some 20, none, .mv false (.t 0)⟩,
          ⟨some 21, none, .cvI .u8 (.t 20)⟩,
          ⟨some 22, none, .idx (.c (.str lenL)) (.t 21)⟩,
          ⟨some 23, none, .cvI .i64 (.t 22)⟩,
          ⟨some 24, none, .bin .add (.t 19) (.t 23)⟩,
          ⟨some 2, none, .mv true (.t 24)⟩])
        .ret))))⟩
theorem t68 : compF Tryd.prog {} 68 = some p68 := by kernel_rfl
def p69 : PFn :=
  ⟨31, [.t 6, .t 7], .seq
    (.region [
      ⟨some 6, none, .mv true (.c (.int .u32 0))⟩,
      ⟨some 7, none, .mv true (.c (.int .i64 0))⟩])
    (.seq
     (.seq
      (.region [
        ⟨some 10, none, .mv false (.t 0)⟩,
        ⟨some 11, none, .len false (.t 10)⟩,
        ⟨some 12, none, .bin .neq (.t 11) (.c (.int .i64 256))⟩])
      (.cond (.t 12)
       (.seq
        (.region [
          ⟨some 6, none, .mv true (.c (.int .u32 0))⟩,
          ⟨some 7, none, .mv true (.c (.int .i64 1))⟩])
        .ret)
       .skip))
     (.seq
      (.seq
       (.region [
         ⟨some 13, none, .mv false (.t 2)⟩,
         ⟨some 14, none, .len false (.t 13)⟩,
         ⟨some 15, none, .mv false (.c (.int .i64 0))⟩])
       (.block 0
        (.loop
         (.seq
          (.region [
            ⟨some 16, none, .bin .lss (.t 15) (.t 14)⟩])
          (.seq
           (.cond (.t 16)
            .skip
            (.exit 0))
           (.seq
            (.block 1
             (.seq
              (.region [
                ⟨some 17, none, .iad 1 (.t 13) (.t 15)⟩,
                ⟨some 18, none, .ld 1 false false (.t 17)⟩,
                ⟨some 9, none, .mv true (.t 18)⟩])
              (.region [
                ⟨some 19, none, .mv false (.t 0)⟩,
                ⟨some 20, none, .mv false (.t 1)⟩,
                ⟨some 21, none, .cvI .u8 (.t 20)⟩,
                ⟨some 22, none, .mv false (.t 9)⟩,
                ⟨some 23, none, .bin .xor (.t 21) (.t 22)⟩,
                ⟨some 24, none, .iad 1 (.t 19) (.t 23)⟩,
                ⟨some 25, none, .ld 1 false false (.t 24)⟩,
                ⟨some 26, none, .mv false (.t 1)⟩,
                ⟨some 27, none, .bin .shr (.t 26) (.c (.int .u64 8))⟩,
                ⟨some 28, none, .bin .xor (.t 25) (.t 27)⟩,
                ⟨some 1, none, .mv true (.t 28)⟩])))
            (.region [
              ⟨some 29, none, .bin .add (.t 15) (.c (.int .i64 1))⟩,
              ⟨some 15, none, .mv false (.t 29)⟩])))))))
      (.seq
       (.region [
         ⟨some 30, none, .mv true (.t 1)⟩,
         ⟨some 6, none, .mv true (.t 30)⟩,
         ⟨some 7, none, .mv true (.c (.int .i64 0))⟩])
       .ret)))⟩
theorem t69 : compF Tryd.prog {} 69 = some p69 := by kernel_rfl
def p70 : PFn :=
  ⟨21, [.t 2], .seq
    (.region [
      ⟨some 2, none, .mv true (.c (.int .u32 0))⟩])
    (.seq
     (.region [
       ⟨some 6, none, .mv false (.t 0)⟩,
       ⟨some 7, none, .cvI .u32 (.t 6)⟩,
       ⟨some 3, none, .mv true (.t 7)⟩])
     (.seq
      (.seq
       (.region [
         ⟨some 4, none, .mv true (.c (.int .i64 0))⟩])
       (.block 0
        (.loop
         (.seq
          (.seq
           (.region [
             ⟨some 8, none, .mv false (.t 4)⟩,
             ⟨some 9, none, .bin .lss (.t 8) (.c (.int .i64 8))⟩])
           (.cond (.t 9)
            .skip
            (.exit 0)))
          (.seq
           (.block 1
            (.seq
             (.region [
               ⟨some 12, none, .mv false (.t 3)⟩,
               ⟨some 13, none, .bin .rem (.t 12) (.c (.int .u32 2))⟩,
               ⟨some 14, none, .bin .eql (.t 13) (.c (.int .u32 1))⟩,
               ⟨some 5, none, .mv true (.t 14)⟩])
             (.seq
              (.region [
                ⟨some 15, none, .mv false (.t 3)⟩,
                ⟨some 16, none, .bin .quo (.t 15) (.c (.int .u32 2))⟩,
                ⟨some 3, none, .mv true (.t 16)⟩])
              (.seq
               (.region [
                 ⟨some 17, none, .mv false (.t 5)⟩])
               (.cond (.t 17)
                (.region [
                  ⟨some 18, none, .mv false (.t 3)⟩,
                  ⟨some 19, none, .bin .xor (.t 18) (.c (.int .u32 3988292384))⟩,
                  ⟨some 3, none, .mv true (.t 19)⟩])
                .skip)))))
           (.region [
             ⟨some 10, none, .mv false (.t 4)⟩,
             ⟨some 11, none, .bin .add (.t 10) (.c (.int .i64 1))⟩,
             ⟨some 4, none, .mv true (.t 11)⟩]))))))
      (.seq
       (.region [
         ⟨some 20, none, .mv true (.t 3)⟩,
         ⟨some 2, none, .mv true (.t 20)⟩])
       .ret)))⟩
theorem t70 : compF Tryd.prog {} 70 = some p70 := by kernel_rfl
def p71 : PFn :=
  ⟨22, [.t 2, .t 3], .seq
    (.region [
      ⟨some 2, none, .mv true (.c (.int .i32 0))⟩,
      ⟨some 3, none, .mv true (.c (.int .i64 0))⟩])
    (.seq
     (.seq
      (.region [
        ⟨some 6, none, .mv false (.t 0)⟩,
        ⟨some 7, none, .len false (.t 6)⟩,
        ⟨some 8, none, .mv false (.c (.int .i64 0))⟩])
      (.block 0
       (.loop
        (.seq
         (.region [
           ⟨some 9, none, .bin .lss (.t 8) (.t 7)⟩])
         (.seq
          (.cond (.t 9)
           .skip
           (.exit 0))
          (.seq
           (.block 1
            (.seq
             (.region [
               ⟨some 10, none, .iad 1 (.t 6) (.t 8)⟩,
               ⟨some 11, none, .ld 1 false false (.t 10)⟩,
               ⟨some 5, none, .mv true (.t 11)⟩])
             (.seq
              (.seq
               (.region [
                 ⟨some 12, none, .mv false (.t 5)⟩,
                 ⟨some 13, none, .bin .lss (.t 12) (.c (.int .u8 128))⟩])
               (.cond (.t 13)
                (.seq
                 (.region [
                   ⟨some 14, none, .mv false (.t 5)⟩,
                   ⟨some 15, none, .cvI .i32 (.t 14)⟩,
                   ⟨some 2, none, .mv true (.t 15)⟩,
                   ⟨some 3, none, .mv true (.c (.int .i64 1))⟩])
                 .ret)
                .skip))
              (.exit 0))))
           (.region [
             ⟨some 16, none, .bin .add (.t 8) (.c (.int .i64 1))⟩,
             ⟨some 8, none, .mv false (.t 16)⟩])))))))
     (.seq
      (.region [
        ⟨some 18, none, .mv false (.t 0)⟩,
        ⟨some 19, none, .callF 79 [.t 18] []⟩,
        ⟨some 17, none, .mv true (.t 19)⟩,
        ⟨some 20, none, .ext false (.t 17) 0⟩,
        ⟨some 21, none, .ext false (.t 17) 1⟩,
        ⟨some 2, none, .mv true (.t 20)⟩,
        ⟨some 3, none, .mv true (.t 21)⟩])
      .ret))⟩
theorem t71 : compF Tryd.prog {} 71 = some p71 := by kernel_rfl
def p72 : PFn :=
  ⟨10, [.t 2], .seq
    (.region [
      ⟨some 2, none, .mv true (.c (.int .i64 0))⟩])
    (.seq
     (.seq
      (.region [
        ⟨some 3, none, .mv false (.t 0)⟩,
        ⟨some 4, none, .bad⟩])
      (.block 0
       (.loop
        (.seq
         (.region [
           ⟨some 5, none, .bad⟩,
           ⟨some 6, none, .ext false (.t 5) 0⟩])
         (.seq
          (.cond (.t 6)
           .skip
           (.exit 0))
          (.block 1
           (.region [
             ⟨some 7, none, .mv false (.t 2)⟩,
             ⟨some 8, none, .bin .add (.t 7) (.c (.int .i64 1))⟩,
             ⟨some 2, none, .mv true (.t 8)⟩])))))))
     (.seq
      (.region [
        ⟨some 9, none, .mv true (.t 2)⟩,
        ⟨some 2, none, .mv true (.t 9)⟩])
      .ret))⟩
theorem t72 : compF Tryd.prog {} 72 = some p72 := by kernel_rfl
def p73 : PFn :=
  ⟨38, [.t 4, .t 5], .seq
    (.region [
      ⟨some 4, none, .mv true (.c (.lst 0 [] true))⟩,
      ⟨some 5, none, .mv true (.c (.int .i64 0))⟩])
    (.seq
     (.region [
       ⟨some 9, none, .mv false (.t 1)⟩,
       ⟨some 10, none, .len false (.t 9)⟩,
       ⟨some 11, none, .bin .sub (.t 10) (.c (.int .i64 4))⟩,
       ⟨some 6, none, .mv true (.t 11)⟩])
     (.seq
      (.block 0
       (.seq
        (.region [
          ⟨some 13, none, .mv false (.t 0)⟩,
          ⟨some 14, none, .len false (.t 13)⟩,
          ⟨some 15, none, .bin .neq (.t 14) (.c (.int .i64 256))⟩,
          ⟨some 12, none, .mv true (.t 15)⟩])
        (.cond (.t 12)
         (.seq
          (.region [
            ⟨some 4, none, .mv true (.c (.lst 0 [] true))⟩,
            ⟨some 5, none, .mv true (.c (.int .i64 1))⟩])
          .ret)
         (.seq
          (.region [
            ⟨some 17, none, .mv false (.t 6)⟩,
            ⟨some 18, none, .bin .lss (.t 17) (.c (.int .i64 0))⟩,
            ⟨some 16, none, .mv true (.t 18)⟩])
          (.cond (.t 16)
           (.seq
            (.region [
              ⟨some 4, none, .mv true (.c (.lst 0 [] true))⟩,
              ⟨some 5, none, .mv true (.c (.int .i64 2))⟩])
            .ret)
           .skip)))))
      (.seq
       (.region [
         ⟨some 20, none, .mv false (.t 0)⟩,
         ⟨some 21, none, .mv false (.t 1)⟩,
         ⟨some 22, none, .mv false (.t 6)⟩,
         ⟨some 23, none, .sli 1 (.t 21) none (some (.t 22)) none⟩,
         ⟨some 24, none, .callF 49 [.t 20, .t 23] []⟩,
         ⟨some 19, none, .mv true (.t 24)⟩,
         ⟨some 25, none, .ext false (.t 19) 0⟩,
         ⟨some 26, none, .ext false (.t 19) 1⟩,
         ⟨some 7, none, .mv true (.t 25)⟩,
         ⟨some 8, none, .mv true (.t 26)⟩])
       (.seq
        (.seq
         (.draw [
           ⟨some 27, none, .mv false (.t 7)⟩,
           ⟨some 28, none, .callF 50 [.t 27] []⟩,
           ⟨some 29, none, .mv false (.t 1)⟩,
           ⟨some 30, none, .mv false (.t 6)⟩,
           ⟨some 31, none, .sli 1 (.t 29) (some (.t 30)) none none⟩,
           ⟨some 32, none, .callF 42 [.t 28, .t 31] []⟩,
           ⟨some 33, none, .un .not (.t 32)⟩] [])
         (.cond (.t 33)
          (.seq
           (.region [
             ⟨some 4, none, .mv true (.c (.lst 0 [] true))⟩,
             ⟨some 5, none, .mv true (.c (.int .i64 4))⟩])
           .ret)
          .skip))
        (.seq
         (.region [
           ⟨some 34, none, .mv false (.t 1)⟩,
           ⟨some 35, none, .mv false (.t 6)⟩,
           ⟨some 36, none, .sli 1 (.t 34) none (some (.t 35)) none⟩,
           ⟨some 37, none, .callF 80 [.t 36] []⟩,
           ⟨some 4, none, .mv true (.t 37)⟩,
           ⟨some 5, none, .mv true (.c (.int .i64 0))⟩])
         .ret)))))⟩
theorem t73 : compF Tryd.prog {} 73 = some p73 := by kernel_rfl
def p74 : PFn :=
  ⟨52, [.t 2, .t 3], .seq
    (.region [
      ⟨some 2, none, .mv true (.c (.lst 0 [] true))⟩,
      ⟨some 3, none, .mv true (.c (.int .i64 0))⟩])
    (.seq
     (.region [
       ⟨some 11, none, .mv false (.t 0)⟩,
       ⟨some 12, none, .callF 81 [.t 11] []⟩,
       ⟨some 10, none, .mv true (.t 12)⟩,
       ⟨some 13, none, .ext false (.t 10) 0⟩,
       ⟨some 14, none, .ext true (.t 10) 1⟩,
       ⟨some 15, none, .ext false (.t 10) 2⟩,
       ⟨some 4, none, .mv true (.t 13)⟩,
       ⟨some 0, none, .mv true (.t 14)⟩,
       ⟨some 5, none, .mv true (.t 15)⟩])
     (.seq
      (.seq
       (.region [
         ⟨some 16, none, .mv false (.t 5)⟩,
         ⟨some 17, none, .bin .neq (.t 16) (.c (.int .i64 0))⟩,
         ⟨some 18, none, .mv false (.t 17)⟩,
         ⟨some 19, some (18, false), .mv false (.t 4)⟩,
         ⟨some 20, some (18, false), .bin .eql (.t 19) (.c (.int .u64 0))⟩,
         ⟨some 21, none, .pick (.t 18) (.c (.bool true)) (.t 20)⟩,
         ⟨some 22, none, .mv false (.t 21)⟩,
         ⟨some 23, some (22, false), .mv false (.t 4)⟩,
         ⟨some 24, some (22, false), .bin .gtr (.t 23) (.c (.int .u64 100))⟩,
         ⟨some 25, none, .pick (.t 22) (.c (.bool true)) (.t 24)⟩])
       (.cond (.t 25)
        (.seq
         (.region [
           ⟨some 2, none, .mv true (.c (.lst 0 [] true))⟩,
           ⟨some 3, none, .mv true (.c (.int .i64 3))⟩])
         .ret)
        .skip))
      (.seq
       (.region [
         ⟨some 6, none, .mv true (.c (.lst 0 [] true))⟩])
       (.seq
        (.seq
         (.region [
           ⟨some 26, none, .mv false (.t 4)⟩,
           ⟨some 27, none, .mv false (.c (.int .u64 0))⟩])
         (.block 0
          (.loop
           (.seq
            (.region [
              ⟨some 28, none, .bin .lss (.t 27) (.t 26)⟩])
            (.seq
             (.cond (.t 28)
              .skip
              (.exit 0))
             (.seq
              (.block 1
               (.seq
                (.region [
                  ⟨some 30, none, .mv false (.t 0)⟩,
                  ⟨some 31, none, .callF 82 [.t 30, .c (.int .i64 1000)] []⟩,
                  ⟨some 29, none, .mv true (.t 31)⟩,
                  ⟨some 32, none, .ext true (.t 29) 0⟩,
                  ⟨some 33, none, .ext false (.t 29) 1⟩,
                  ⟨some 34, none, .ext false (.t 29) 2⟩,
                  ⟨some 7, none, .al [.str [], .str []]⟩,
                  ⟨none, none, .sto 2 (.t 7) (.t 32)⟩,
                  ⟨some 8, none, .mv true (.t 33)⟩,
                  ⟨some 9, none, .mv true (.t 34)⟩])
                (.seq
                 (.seq
                  (.region [
                    ⟨some 35, none, .mv false (.t 9)⟩,
                    ⟨some 36, none, .bin .neq (.t 35) (.c (.int .i64 0))⟩])
                  (.cond (.t 36)
                   (.seq
                    (.region [
                      ⟨some 37, none, .mv true (.t 9)⟩,
                      ⟨some 2, none, .mv true (.c (.lst 0 [] true))⟩,
                      ⟨some 3, none, .mv true (.t 37)⟩])
                    .ret)
                   .skip))
                 (.region [
                   ⟨some 38, none, .mv true (.t 6)⟩,
                   ⟨some 39, none, .fad 0 (.t 7)⟩,
                   ⟨some 40, none, .ld 1 false false (.t 39)⟩,
                   ⟨some 41, none, .fad 1 (.t 7)⟩,
                   ⟨some 42, none, .ld 1 false false (.t 41)⟩,
                   ⟨some 43, none, .bsl 1 2 false [.str [], .str []] [(0, .t 40), (1, .t 42)] false⟩,
                   ⟨some 44, none, .bsl 1 1 false [.lst 0 [] true] [(0, .t 43)] false⟩,
                   ⟨some 45, none, .app 1 24 (.t 38) (.t 44)⟩,
                   ⟨some 46, none, .mv true (.t 8)⟩,
                   ⟨some 6, none, .mv true (.t 45)⟩,
                   ⟨some 0, none, .mv true (.t 46)⟩]))))
              (.region [
                ⟨some 47, none, .bin .add (.t 27) (.c (.int .u64 1))⟩,
                ⟨some 27, none, .mv false (.t 47)⟩])))))))
        (.seq
         (.seq
          (.region [
            ⟨some 48, none, .mv false (.t 0)⟩,
            ⟨some 49, none, .len false (.t 48)⟩,
            ⟨some 50, none, .bin .gtr (.t 49) (.c (.int .i64 0))⟩])
          (.cond (.t 50)
           (.seq
            (.region [
              ⟨some 2, none, .mv true (.c (.lst 0 [] true))⟩,
              ⟨some 3, none, .mv true (.c (.int .i64 3))⟩])
            .ret)
           .skip))
         (.seq
          (.region [
            ⟨some 51, none, .mv true (.t 6)⟩,
            ⟨some 2, none, .mv true (.t 51)⟩,
            ⟨some 3, none, .mv true (.c (.int .i64 0))⟩])
          .ret))))))⟩
theorem t74 : compF Tryd.prog {} 74 = some p74 := by kernel_rfl
def p76 : PFn :=
  ⟨40, [.t 2, .t 3], .seq
    (.region [
      ⟨some 2, none, .mv true (.c (.int .u32 0))⟩,
      ⟨some 3, none, .mv true (.c (.int .u32 0))⟩])
    (.seq
     (.region [
       ⟨some 4, none, .mv true (.c (.int .u32 0))⟩])
     (.seq
      (.seq
       (.region [
         ⟨some 5, none, .mv true (.c (.int .i64 0))⟩])
       (.block 0
        (.loop
         (.seq
          (.seq
           (.region [
             ⟨some 9, none, .mv false (.t 5)⟩,
             ⟨some 10, none, .mv false (.t 0)⟩,
             ⟨some 11, none, .len false (.t 10)⟩,
             ⟨some 12, none, .bin .lss (.t 9) (.t 11)⟩])
           (.cond (.t 12)
            .skip
            (.exit 0)))
          (.seq
           (.block 1
            (.region [
              ⟨some 15, none, .mv false (.t 4)⟩,
              ⟨some 16, none, .bin .mul (.t 15) (.c (.int .u32 16777619))⟩,
              ⟨some 17, none, .mv false (.t 0)⟩,
              ⟨some 18, none, .mv false (.t 5)⟩,
              ⟨some 19, none, .iad 1 (.t 17) (.t 18)⟩,
              ⟨some 20, none, .ld 1 false false (.t 19)⟩,
              ⟨some 21, none, .cvI .u32 (.t 20)⟩,
              ⟨some 22, none, .bin .add (.t 16) (.t 21)⟩,
              ⟨some 4, none, .mv true (.t 22)⟩]))
           (.region [
             ⟨some 13, none, .mv false (.t 5)⟩,
             ⟨some 14, none, .bin .add (.t 13) (.c (.int .i64 1))⟩,
             ⟨some 5, none, .mv true (.t 14)⟩]))))))
      (.seq
       (.region [
         ⟨some 6, none, .mv true (.c (.int .u32 1))⟩,
         ⟨some 7, none, .mv true (.c (.int .u32 16777619))⟩])
       (.seq
        (.seq
         (.region [
           ⟨some 23, none, .mv false (.t 0)⟩,
           ⟨some 24, none, .len false (.t 23)⟩,
           ⟨some 8, none, .mv true (.t 24)⟩])
         (.block 2
          (.loop
           (.seq
            (.seq
             (.region [
               ⟨some 25, none, .mv false (.t 8)⟩,
               ⟨some 26, none, .bin .gtr (.t 25) (.c (.int .i64 0))⟩])
             (.cond (.t 26)
              .skip
              (.exit 2)))
            (.seq
             (.block 3
              (.seq
               (.seq
                (.region [
                  ⟨some 29, none, .mv false (.t 8)⟩,
                  ⟨some 30, none, .bin .and (.t 29) (.c (.int .i64 1))⟩,
                  ⟨some 31, none, .bin .neq (.t 30) (.c (.int .i64 0))⟩])
                (.cond (.t 31)
                 (.region [
                   ⟨some 32, none, .mv false (.t 6)⟩,
                   ⟨some 33, none, .mv false (.t 7)⟩,
                   ⟨some 34, none, .bin .mul (.t 32) (.t 33)⟩,
                   ⟨some 6, none, .mv true (.t 34)⟩])
                 .skip))
               (.region [
                 ⟨some 35, none, .mv false (.t 7)⟩,
                 ⟨some 36, none, .mv false (.t 7)⟩,
                 ⟨some 37, none, .bin .mul (.t 35) (.t 36)⟩,
                 ⟨some 7, none, .mv true (.t 37)⟩])))
             (.region [
               ⟨some 27, none, .mv false (.t 8)⟩,
               ⟨some 28, none, .bin .shr (.t 27) (.c (.int .u64 1))⟩,
               ⟨some 8, none, .mv true (.t 28)⟩]))))))
        (.seq
         (.region [
           ⟨some 38, none, .mv true (.t 4)⟩,
           ⟨some 39, none, .mv true (.t 6)⟩,
           ⟨some 2, none, .mv true (.t 38)⟩,
           ⟨some 3, none, .mv true (.t 39)⟩])
         .ret)))))⟩
theorem t76 : compF Tryd.prog {} 76 = some p76 := by kernel_rfl
def p77 : PFn :=
  ⟨61, [.t 2, .t 3, .t 4], .seq
    (.region [
      ⟨some 2, none, .mv true (.c (.int .u64 0))⟩,
      ⟨some 3, none, .mv true (.c (.lst 0 [] true))⟩,
      ⟨some 4, none, .mv true (.c (.int .i64 0))⟩])
    (.seq
     (.region [
       ⟨some 5, none, .mv true (.c (.int .i64 0))⟩])
     (.seq
      (.block 0
       (.loop
        (.seq
         (.seq
          (.region [
            ⟨some 8, none, .mv false (.t 5)⟩,
            ⟨some 9, none, .mv false (.t 0)⟩,
            ⟨some 10, none, .len false (.t 9)⟩,
            ⟨some 11, none, .bin .lss (.t 8) (.t 10)⟩,
            ⟨some 12, none, .mv false (.t 11)⟩,
            ⟨some 13, some (12, true), .mv false (.t 5)⟩,
            ⟨some 14, some (12, true), .bin .lss (.t 13) (.c (.int .i64 10))⟩,
            ⟨some 15, none, .pick (.t 12) (.t 14) (.c (.bool false))⟩,
            ⟨some 16, none, .mv false (.t 15)⟩,
            ⟨some 17, some (16, true), .mv false (.t 0)⟩,
            ⟨some 18, some (16, true), .mv false (.t 5)⟩,
            ⟨some 19, some (16, true), .iad 1 (.t 17) (.t 18)⟩,
            ⟨some 20, some (16, true), .ld 1 false false (.t 19)⟩,
            ⟨some 21, some (16, true), .bin .geq (.t 20) (.c (.int .u8 128))⟩,
            ⟨some 22, none, .pick (.t 16) (.t 21) (.c (.bool false))⟩])
          (.cond (.t 22)
           .skip
           (.exit 0)))
         (.block 1
          (.region [
            ⟨some 23, none, .mv false (.t 5)⟩,
            ⟨some 24, none, .bin .add (.t 23) (.c (.int .i64 1))⟩,
            ⟨some 5, none, .mv true (.t 24)⟩])))))
      (.seq
       (.seq
        (.region [
          ⟨some 25, none, .mv false (.t 5)⟩,
          ⟨some 26, none, .bin .eql (.t 25) (.c (.int .i64 10))⟩])
        (.cond (.t 26)
         (.seq
          (.region [
            ⟨some 2, none, .mv true (.c (.int .u64 0))⟩,
            ⟨some 3, none, .mv true (.c (.lst 0 [] true))⟩,
            ⟨some 4, none, .mv true (.c (.int .i64 3))⟩])
          .ret)
         .skip))
       (.seq
        (.seq
         (.region [
           ⟨some 27, none, .mv false (.t 5)⟩,
           ⟨some 28, none, .mv false (.t 0)⟩,
           ⟨some 29, none, .len false (.t 28)⟩,
           ⟨some 30, none, .bin .eql (.t 27) (.t 29)⟩])
         (.cond (.t 30)
          (.seq
           (.region [
             ⟨some 2, none, .mv true (.c (.int .u64 0))⟩,
             ⟨some 3, none, .mv true (.c (.lst 0 [] true))⟩,
             ⟨some 4, none, .mv true (.c (.int .i64 2))⟩])
           .ret)
          .skip))
        (.seq
         (.region [
           ⟨some 6, none, .mv true (.c (.int .u64 0))⟩])
         (.seq
          (.seq
           (.region [
             ⟨some 31, none, .mv true (.t 5)⟩,
             ⟨some 7, none, .mv true (.t 31)⟩])
           (.block 2
            (.loop
             (.seq
              (.seq
               (.region [
                 ⟨some 32, none, .mv false (.t 7)⟩,
                 ⟨some 33, none, .bin .geq (.t 32) (.c (.int .i64 0))⟩])
               (.cond (.t 33)
                .skip
                (.exit 2)))
              (.seq
               (.block 3
                (.region [
                  ⟨some 36, none, .mv false (.t 6)⟩,
                  ⟨some 37, none, .bin .mul (.t 36) (.c (.int .u64 128))⟩,
                  ⟨some 38, none, .mv false (.t 0)⟩,
                  ⟨some 39, none, .mv false (.t 7)⟩,
                  ⟨some 40, none, .iad 1 (.t 38) (.t 39)⟩,
                  ⟨some 41, none, .ld 1 false false (.t 40)⟩,
                  ⟨some 42, none, .bin .rem (.t 41) (.c (.int .u8 128))⟩,
                  ⟨some 43, none, .cvI .u64 (.t 42)⟩,
                  ⟨some 44, none, .bin .add (.t 37) (.t 43)⟩,
                  ⟨some 6, none, .mv true (.t 44)⟩]))
               (.region [
                 ⟨some 34, none, .mv false (.t 7)⟩,
                 ⟨some 35, none, .bin .sub (.t 34) (.c (.int .i64 1))⟩,
                 ⟨some 7, none, .mv true (.t 35)⟩]))))))
          (.seq
           (.seq
            (.draw [
              ⟨some 45, none, .mv false (.t 6)⟩,
              ⟨some 46, none, .callF 52 [.t 45] []⟩,
              ⟨some 47, none, .cvS (.t 46)⟩,
              ⟨some 48, none, .mv false (.t 0)⟩,
              ⟨some 49, none, .mv false (.t 5)⟩,
              ⟨some 50, none, .bin .add (.t 49) (.c (.int .i64 1))⟩,
              ⟨some 51, none, .sli 1 (.t 48) none (some (.t 50)) none⟩,
              ⟨some 52, none, .cvS (.t 51)⟩,
              ⟨some 53, none, .bin .neq (.t 47) (.t 52)⟩] [])
            (.cond (.t 53)
             (.seq
              (.region [
                ⟨some 2, none, .mv true (.c (.int .u64 0))⟩,
                ⟨some 3, none, .mv true (.c (.lst 0 [] true))⟩,
                ⟨some 4, none, .mv true (.c (.int .i64 3))⟩])
              .ret)
             .skip))
           (.seq
            (.region [
              ⟨some 54, none, .mv true (.t 6)⟩,
              ⟨some 55, none, .bsl 1 0 false [] [] false⟩,
              ⟨some 56, none, .mv false (.t 0)⟩,
              ⟨some 57, none, .mv false (.t 5)⟩,
              ⟨some 58, none, .bin .add (.t 57) (.c (.int .i64 1))⟩,
              ⟨some 59, none, .sli 1 (.t 56) (some (.t 58)) none none⟩,
              ⟨some 60, none, .app 1 1 (.t 55) (.t 59)⟩,
              ⟨some 2, none, .mv true (.t 54)⟩,
              ⟨some 3, none, .mv true (.t 60)⟩,
              ⟨some 4, none, .mv true (.c (.int .i64 0))⟩])
            .ret))))))))⟩
theorem t77 : compF Tryd.prog {} 77 = some p77 := by kernel_rfl
def p78 : PFn :=
  ⟨39, [.c 4 2 true, .t 5, .t 6], .seq
    (.region [
      ⟨some 4, none, .al [.str [], .str []]⟩,
      ⟨some 5, none, .mv true (.c (.lst 0 [] true))⟩,
      ⟨some 6, none, .mv true (.c (.int .i64 0))⟩])
    (.seq
     (.region [
       ⟨some 14, none, .mv false (.t 0)⟩,
       ⟨some 15, none, .mv false (.t 1)⟩,
       ⟨some 16, none, .callF 83 [.t 14, .t 15] []⟩,
       ⟨some 13, none, .mv true (.t 16)⟩,
       ⟨some 17, none, .ext false (.t 13) 0⟩,
       ⟨some 18, none, .ext true (.t 13) 1⟩,
       ⟨some 19, none, .ext false (.t 13) 2⟩,
       ⟨some 7, none, .mv true (.t 17)⟩,
       ⟨some 8, none, .mv true (.t 18)⟩,
       ⟨some 9, none, .mv true (.t 19)⟩])
     (.seq
      (.seq
       (.region [
         ⟨some 20, none, .mv false (.t 9)⟩,
         ⟨some 21, none, .bin .neq (.t 20) (.c (.int .i64 0))⟩])
       (.cond (.t 21)
        (.seq
         (.region [
           ⟨some 22, none, .build [.str [], .str []] []⟩,
           ⟨some 23, none, .mv true (.t 9)⟩,
           ⟨none, none, .sto 2 (.t 4) (.t 22)⟩,
           ⟨some 5, none, .mv true (.c (.lst 0 [] true))⟩,
           ⟨some 6, none, .mv true (.t 23)⟩])
         .ret)
        .skip))
      (.seq
       (.region [
         ⟨some 25, none, .mv false (.t 8)⟩,
         ⟨some 26, none, .mv false (.t 1)⟩,
         ⟨some 27, none, .callF 83 [.t 25, .t 26] []⟩,
         ⟨some 24, none, .mv true (.t 27)⟩,
         ⟨some 28, none, .ext false (.t 24) 0⟩,
         ⟨some 29, none, .ext true (.t 24) 1⟩,
         ⟨some 30, none, .ext false (.t 24) 2⟩,
         ⟨some 10, none, .mv true (.t 28)⟩,
         ⟨some 11, none, .mv true (.t 29)⟩,
         ⟨some 12, none, .mv true (.t 30)⟩])
       (.seq
        (.seq
         (.region [
           ⟨some 31, none, .mv false (.t 12)⟩,
           ⟨some 32, none, .bin .neq (.t 31) (.c (.int .i64 0))⟩])
         (.cond (.t 32)
          (.seq
           (.region [
             ⟨some 33, none, .build [.str [], .str []] []⟩,
             ⟨some 34, none, .mv true (.t 12)⟩,
             ⟨none, none, .sto 2 (.t 4) (.t 33)⟩,
             ⟨some 5, none, .mv true (.c (.lst 0 [] true))⟩,
             ⟨some 6, none, .mv true (.t 34)⟩])
           .ret)
          .skip))
        (.seq
         (.region [
           ⟨some 35, none, .mv false (.t 7)⟩,
           ⟨some 36, none, .mv false (.t 10)⟩,
           ⟨some 37, none, .build [.str [], .str []] [(0, (1, .t 35)), (1, (1, .t 36))]⟩,
           ⟨some 38, none, .mv true (.t 11)⟩,
           ⟨none, none, .sto 2 (.t 4) (.t 37)⟩,
           ⟨some 5, none, .mv true (.t 38)⟩,
           ⟨some 6, none, .mv true (.c (.int .i64 0))⟩])
         .ret)))))⟩
theorem t78 : compF Tryd.prog {} 78 = some p78 := by kernel_rfl
def p79 : PFn :=
  ⟨122, [.t 2, .t 3], .seq
    (.region [
      ⟨some 2, none, .mv true (.c (.int .i32 0))⟩,
      ⟨some 3, none, .mv true (.c (.int .i64 0))⟩])
    (.seq
     (.region [
       ⟨some 13, none, .mv false (.t 0)⟩,
       ⟨some 14, none, .len false (.t 13)⟩,
       ⟨some 4, none, .mv true (.t 14)⟩])
     (.seq
      (.seq
       (.region [
         ⟨some 15, none, .mv false (.t 4)⟩,
         ⟨some 16, none, .bin .lss (.t 15) (.c (.int .i64 1))⟩])
       (.cond (.t 16)
        (.seq
         (.region [
           ⟨some 2, none, .mv true (.c (.int .i32 65533))⟩,
           ⟨some 3, none, .mv true (.c (.int .i64 0))⟩])
         .ret)
        .skip))
      (.seq
       (.region [
         ⟨some 17, none, .mv false (.t 0)⟩,
         ⟨some 18, none, .iad 1 (.t 17) (.c (.int .i64 0))⟩,
         ⟨some 19, none, .ld 1 false false (.t 18)⟩,
         ⟨some 5, none, .mv true (.t 19)⟩])
       (.seq
        (.region [
          ⟨some 20, none, .mv false (.t 5)⟩,
          ⟨some 21, none, .bad⟩,
          ⟨some 22, none, .ld 1 false false (.t 21)⟩,
          ⟨some 6, none, .mv true (.t 22)⟩])
        (.seq
         (.seq
          (.region [
            ⟨some 23, none, .mv false (.t 6)⟩,
            ⟨some 24, none, .bin .geq (.t 23) (.c (.int .u8 240))⟩])
          (.cond (.t 24)
           (.seq
            (.region [
              ⟨some 25, none, .mv false (.t 6)⟩,
              ⟨some 26, none, .cvI .i32 (.t 25)⟩,
              ⟨some 27, none, .bin .shl (.t 26) (.c (.int .u64 31))⟩,
              ⟨some 28, none, .bin .shr (.t 27) (.c (.int .u64 31))⟩,
              ⟨some 7, none, .mv true (.t 28)⟩])
            (.seq
             (.region [
               ⟨some 29, none, .mv false (.t 0)⟩,
               ⟨some 30, none, .iad 1 (.t 29) (.c (.int .i64 0))⟩,
               ⟨some 31, none, .ld 1 false false (.t 30)⟩,
               ⟨some 32, none, .cvI .i32 (.t 31)⟩,
               ⟨some 33, none, .mv false (.t 7)⟩,
               ⟨some 34, none, .bin .andNot (.t 32) (.t 33)⟩,
               ⟨some 35, none, .mv false (.t 7)⟩,
               ⟨some 36, none, .bin .and (.c (.int .i32 65533)) (.t 35)⟩,
               ⟨some 37, none, .bin .or (.t 34) (.t 36)⟩,
               ⟨some 2, none, .mv true (.t 37)⟩,
               ⟨some 3, none, .mv true (.c (.int .i64 1))⟩])
             .ret))
           .skip))
         (.seq
          (.region [
            ⟨some 38, none, .mv false (.t 6)⟩,
            ⟨some 39, none, .bin .and (.t 38) (.c (.int .u8 7))⟩,
            ⟨some 40, none, .cvI .i64 (.t 39)⟩,
            ⟨some 8, none, .mv true (.t 40)⟩])
          (.seq
           (.region [
             ⟨some 41, none, .mv false (.t 6)⟩,
             ⟨some 42, none, .bin .shr (.t 41) (.c (.int .u64 4))⟩,
             ⟨some 43, none, .bad⟩,
             ⟨some 44, none, .ld 2 true false (.t 43)⟩,
             ⟨some 9, none, .al [.int .u8 0, .int .u8 0]⟩,
             ⟨none, none, .sto 2 (.t 9) (.t 44)⟩])
           (.seq
            (.seq
             (.region [
               ⟨some 45, none, .mv false (.t 4)⟩,
               ⟨some 46, none, .mv false (.t 8)⟩,
               ⟨some 47, none, .bin .lss (.t 45) (.t 46)⟩])
             (.cond (.t 47)
              (.seq
               (.region [
                 ⟨some 2, none, .mv true (.c (.int .i32 65533))⟩,
                 ⟨some 3, none, .mv true (.c (.int .i64 1))⟩])
               .ret)
              .skip))
            (.seq
             (.region [
               ⟨some 48, none, .mv false (.t 0)⟩,
               ⟨some 49, none, .iad 1 (.t 48) (.c (.int .i64 1))⟩,
               ⟨some 50, none, .ld 1 false false (.t 49)⟩,
               ⟨some 10, none, .mv true (.t 50)⟩])
             (.seq
              (.seq
               (.region [
                 ⟨some 51, none, .mv false (.t 10)⟩,
                 ⟨some 52, none, .fad 0 (.t 9)⟩,
                 ⟨some 53, none, .ld 1 false false (.t 52)⟩,
                 ⟨some 54, none, .bin .lss (.t 51) (.t 53)⟩,
                 ⟨some 55, none, .mv false (.t 54)⟩,
                 ⟨some 56, some (55, false), .fad 1 (.t 9)⟩,
                 ⟨some 57, some (55, false), .ld 1 false false (.t 56)⟩,
                 ⟨some 58, some (55, false), .mv false (.t 10)⟩,
                 ⟨some 59, some (55, false), .bin .lss (.t 57) (.t 58)⟩,
                 ⟨some 60, none, .pick (.t 55) (.c (.bool true)) (.t 59)⟩])
               (.cond (.t 60)
                (.seq
                 (.region [
                   ⟨some 2, none, .mv true (.c (.int .i32 65533))⟩,
                   ⟨some 3, none, .mv true (.c (.int .i64 1))⟩])
                 .ret)
                .skip))
              (.seq
               (.seq
                (.region [
                  ⟨some 61, none, .mv false (.t 8)⟩,
                  ⟨some 62, none, .bin .leq (.t 61) (.c (.int .i64 2))⟩])
                (.cond (.t 62)
                 (.seq
                  (.region [
                    ⟨some 63, none, .mv false (.t 5)⟩,
                    ⟨some 64, none, .bin .and (.t 63) (.c (.int .u8 31))⟩,
                    ⟨some 65, none, .cvI .i32 (.t 64)⟩,
                    ⟨some 66, none, .bin .shl (.t 65) (.c (.int .u64 6))⟩,
                    ⟨some 67, none, .mv false (.t 10)⟩,
                    ⟨some 68, none, .bin .and (.t 67) (.c (.int .u8 63))⟩,
                    ⟨some 69, none, .cvI .i32 (.t 68)⟩,
                    ⟨some 70, none, .bin .or (.t 66) (.t 69)⟩,
                    ⟨some 2, none, .mv true (.t 70)⟩,
                    ⟨some 3, none, .mv true (.c (.int .i64 2))⟩])
                  .ret)
                 .skip))
               (.seq
                (.region [
                  ⟨some 71, none, .mv false (.t 0)⟩,
                  ⟨some 72, none, .iad 1 (.t 71) (.c (.int .i64 2))⟩,
                  ⟨some 73, none, .ld 1 false false (.t 72)⟩,
                  ⟨some 11, none, .mv true (.t 73)⟩])
                (.seq
                 (.seq
                  (.region [
                    ⟨some 74, none, .mv false (.t 11)⟩,
                    ⟨some 75, none, .bin .lss (.t 74) (.c (.int .u8 128))⟩,
                    ⟨some 76, none, .mv false (.t 75)⟩,
                    ⟨some 77, some (76, false), .mv false (.t 11)⟩,
                    ⟨some 78, some (76, false), .bin .lss (.c (.int .u8 191)) (.t 77)⟩,
                    ⟨some 79, none, .pick (.t 76) (.c (.bool true)) (.t 78)⟩])
                  (.cond (.t 79)
                   (.seq
                    (.region [
                      ⟨some 2, none, .mv true (.c (.int .i32 65533))⟩,
                      ⟨some 3, none, .mv true (.c (.int .i64 1))⟩])
                    .ret)
                   .skip))
                 (.seq
                  (.seq
                   (.region [
                     ⟨some 80, none, .mv false (.t 8)⟩,
                     ⟨some 81, none, .bin .leq (.t 80) (.c (.int .i64 3))⟩])
                   (.cond (.t 81)
                    (.seq
                     (.region [
                       ⟨some 82, none, .mv false (.t 5)⟩,
                       ⟨some 83, none, .bin .and (.t 82) (.c (.int .u8 15))⟩,
                       ⟨some 84, none, .cvI .i32 (.t 83)⟩,
                       ⟨some 85, none, .bin .shl (.t 84) (.c (.int .u64 12))⟩,
                       ⟨some 86, none, .mv false (.t 10)⟩,
                       ⟨some 87, none, .bin .and (.t 86) (.c (.int .u8 63))⟩,
                       ⟨some 88, none, .cvI .i32 (.t 87)⟩,
                       ⟨some 89, none, .bin .shl (.t 88) (.c (.int .u64 6))⟩,
                       ⟨some 90, none, .bin .or (.t 85) (.t 89)⟩,
                       ⟨some 91, none, .mv false (.t 11)⟩,
                       ⟨some 92, none, .bin .and (.t 91) (.c (.int .u8 63))⟩,
                       ⟨some 93, none, .cvI .i32 (.t 92)⟩,
                       ⟨some 94, none, .bin .or (.t 90) (.t 93)⟩,
                       ⟨some 2, none, .mv true (.t 94)⟩,
                       ⟨some 3, none, .mv true (.c (.int .i64 3))⟩])
                     .ret)
                    .skip))
                  (.seq
                   (.region [
                     ⟨some 95, none, .mv false (.t 0)⟩,
                     ⟨some 96, none, .iad 1 (.t 95) (.c (.int .i64 3))⟩,
                     ⟨some 97, none, .ld 1 false false (.t 96)⟩,
                     ⟨some 12, none, .mv true (.t 97)⟩])
                   (.seq
                    (.seq
                     (.region [
                       ⟨some 98, none, .mv false (.t 12)⟩,
                       ⟨some 99, none, .bin .lss (.t 98) (.c (.int .u8 128))⟩,
                       ⟨some 100, none, .mv false (.t 99)⟩,
                       ⟨some 101, some (100, false), .mv false (.t 12)⟩,
                       ⟨some 102, some (100, false), .bin .lss (.c (.int .u8 191)) (.t 101)⟩,
                       ⟨some 103, none, .pick (.t 100) (.c (.bool true)) (.t 102)⟩])
                     (.cond (.t 103)
                      (.seq
                       (.region [
                         ⟨some 2, none, .mv true (.c (.int .i32 65533))⟩,
                         ⟨some 3, none, .mv true (.c (.int .i64 1))⟩])
                       .ret)
                      .skip))
                    (.seq
                     (.region [
                       ⟨some 104, none, .mv false (.t 5)⟩,
                       ⟨some 105, none, .bin .and (.t 104) (.c (.int .u8 7))⟩,
                       ⟨some 106, none, .cvI .i32 (.t 105)⟩,
                       ⟨some 107, none, .bin .shl (.t 106) (.c (.int .u64 18))⟩,
                       ⟨some 108, none, .mv false (.t 10)⟩,
                       ⟨some 109, none, .bin .and (.t 108) (.c (.int .u8 63))⟩,
                       ⟨some 110, none, .cvI .i32 (.t 109)⟩,
                       ⟨some 111, none, .bin .shl (.t 110) (.c (.int .u64 12))⟩,
                       ⟨some 112, none, .bin .or (.t 107) (.t 111)⟩,
                       ⟨some 113, none, .mv false (.t 11)⟩,
                       ⟨some 114, none, .bin .and (.t 113) (.c (.int .u8 63))⟩,
                       ⟨some 115, none, .cvI .i32 (.t 114)⟩,
                       ⟨some 116, none, .bin .shl (.t 115) (.c (.int .u64 6))⟩,
                       ⟨some 117, none, .bin .or (.t 112) (.t 116)⟩,
                       ⟨some 118, none, .mv false (.t 12)⟩,
                       ⟨some 119, none, .bin .and (.t 118) (.c (.int .u8 63))⟩,
                       ⟨some 120, none, .cvI .i32 (.t 119)⟩,
                       ⟨some 121, none, .bin .or (.t 117) (.t 120)⟩,
                       ⟨some 2, none, .mv true (.t 121)⟩,
                       ⟨some 3, none, .mv true (.c (.int .i64 4))⟩])
                     .ret)))))))))))))))))⟩
theorem t79 : compF Tryd.prog {} 79 = some p79 := by kernel_rfl
def p80 : PFn :=
  ⟨8, [.t 2], .seq
    (.region [
      ⟨some 2, none, .mv true (.c (.lst 0 [] true))⟩])
    (.seq
     (.seq
      (.region [
        ⟨some 3, none, .mv false (.t 0)⟩,
        ⟨some 4, none, .eqN false (.t 3)⟩])
      (.cond (.t 4)
       (.seq
        (.region [
          ⟨some 2, none, .mv true (.c (.lst 0 [] true))⟩])
        .ret)
       .skip))
     (.seq
      (.region [
        ⟨some 5, none, .bsl 1 0 false [] [] false⟩,
        ⟨some 6, none, .mv false (.t 0)⟩,
        ⟨some 7, none, .app 1 1 (.t 5) (.t 6)⟩,
        ⟨some 2, none, .mv true (.t 7)⟩])
      .ret))⟩
theorem t80 : compF Tryd.prog {} 80 = some p80 := by kernel_rfl
def p81 : PFn :=
  ⟨51, [.t 2, .t 3, .t 4], .seq
    (.region [
      ⟨some 2, none, .mv true (.c (.int .u64 0))⟩,
      ⟨some 3, none, .mv true (.c (.lst 0 [] true))⟩,
      ⟨some 4, none, .mv true (.c (.int .i64 0))⟩])
    (.seq
     (.region [
       ⟨some 5, none, .mv true (.c (.int .u64 0))⟩])
     (.seq
      (.seq
       (.region [
         ⟨some 8, none, .mv false (.t 0)⟩,
         ⟨some 9, none, .len false (.t 8)⟩,
         ⟨some 10, none, .mv false (.c (.int .i64 0))⟩])
       (.block 0
        (.loop
         (.seq
          (.region [
            ⟨some 11, none, .bin .lss (.t 10) (.t 9)⟩])
          (.seq
           (.cond (.t 11)
            .skip
            (.exit 0))
           (.seq
            (.block 1
             (.seq
              (.region [
                ⟨some 12, none, .mv true (.t 10)⟩,
                ⟨some 13, none, .iad 1 (.t 8) (.t 10)⟩,
                ⟨some 14, none, .ld 1 false false (.t 13)⟩,
                ⟨some 6, none, .mv true (.t 12)⟩,
                ⟨some 7, none, .mv true (.t 14)⟩])
              (.seq
               (.seq
                (.region [
                  ⟨some 15, none, .mv false (.t 6)⟩,
                  ⟨some 16, none, .bin .eql (.t 15) (.c (.int .i64 10))⟩])
                (.cond (.t 16)
                 (.exit 0)
                 .skip))
               (.seq
                (.region [
                  ⟨some 17, none, .mv false (.t 5)⟩,
                  ⟨some 18, none, .mv false (.t 7)⟩,
                  ⟨some 19, none, .bin .andNot (.t 18) (.c (.int .u8 128))⟩,
                  ⟨some 20, none, .cvI .u64 (.t 19)⟩,
                  ⟨some 21, none, .mv false (.t 6)⟩,
                  ⟨some 22, none, .bin .mul (.c (.int .i64 7)) (.t 21)⟩,
                  ⟨some 23, none, .bin .shl (.t 20) (.t 22)⟩,
                  ⟨some 24, none, .bin .or (.t 17) (.t 23)⟩,
                  ⟨some 5, none, .mv true (.t 24)⟩])
                (.seq
                 (.seq
                  (.region [
                    ⟨some 25, none, .mv false (.t 7)⟩,
                    ⟨some 26, none, .bin .geq (.t 25) (.c (.int .u8 128))⟩])
                  (.cond (.t 26)
                   (.exit 1)
                   .skip))
                 (.seq
                  (.seq
                   (.region [
                     ⟨some 27, none, .mv false (.t 7)⟩,
                     ⟨some 28, none, .bin .eql (.t 27) (.c (.int .u8 0))⟩,
                     ⟨some 29, none, .mv false (.t 28)⟩,
                     ⟨some 30, some (29, true), .mv false (.t 6)⟩,
                     ⟨some 31, some (29, true), .bin .gtr (.t 30) (.c (.int .i64 0))⟩,
                     ⟨some 32, none, .pick (.t 29) (.t 31) (.c (.bool false))⟩,
                     ⟨some 33, none, .mv false (.t 32)⟩,
                     ⟨some 34, some (33, false), .mv false (.t 6)⟩,
                     ⟨some 35, some (33, false), .bin .eql (.t 34) (.c (.int .i64 9))⟩,
                     ⟨some 36, some (33, false), .mv false (.t 35)⟩,
                     ⟨some 37, some (36, true), .mv false (.t 7)⟩,
                     ⟨some 38, some (36, true), .bin .gtr (.t 37) (.c (.int .u8 1))⟩,
                     ⟨some 39, some (33, false), .pick (.t 36) (.t 38) (.c (.bool false))⟩,
                     ⟨some 40, none, .pick (.t 33) (.c (.bool true)) (.t 39)⟩])
                   (.cond (.t 40)
                    (.seq
                     (.region [
                       ⟨some 2, none, .mv true (.c (.int .u64 0))⟩,
                       ⟨some 3, none, .mv true (.c (.lst 0 [] true))⟩,
                       ⟨some 4, none, .mv true (.c (.int .i64 3))⟩])
                     .ret)
                    .skip))
                  (.seq
                   (.region [
                     ⟨some 41, none, .mv true (.t 5)⟩,
                     ⟨some 42, none, .mv false (.t 0)⟩,
                     ⟨some 43, none, .mv false (.t 6)⟩,
                     ⟨some 44, none, .bin .add (.t 43) (.c (.int .i64 1))⟩,
                     ⟨some 45, none, .sli 1 (.t 42) (some (.t 44)) none none⟩,
                     ⟨some 46, none, .callF 80 [.t 45] []⟩,
                     ⟨some 2, none, .mv true (.t 41)⟩,
                     ⟨some 3, none, .mv true (.t 46)⟩,
                     ⟨some 4, none, .mv true (.c (.int .i64 0))⟩])
                   .ret)))))))
            (.region [
              ⟨some 47, none, .bin .add (.t 10) (.c (.int .i64 1))⟩,
              ⟨some 10, none, .mv false (.t 47)⟩])))))))
      (.seq
       (.seq
        (.region [
          ⟨some 48, none, .mv false (.t 0)⟩,
          ⟨some 49, none, .len false (.t 48)⟩,
          ⟨some 50, none, .bin .geq (.t 49) (.c (.int .i64 10))⟩])
        (.cond (.t 50)
         (.seq
          (.region [
            ⟨some 2, none, .mv true (.c (.int .u64 0))⟩,
            ⟨some 3, none, .mv true (.c (.lst 0 [] true))⟩,
            ⟨some 4, none, .mv true (.c (.int .i64 3))⟩])
          .ret)
         .skip))
       (.seq
        (.region [
          ⟨some 2, none, .mv true (.c (.int .u64 0))⟩,
          ⟨some 3, none, .mv true (.c (.lst 0 [] true))⟩,
          ⟨some 4, none, .mv true (.c (.int .i64 2))⟩])
        .ret))))⟩
theorem t81 : compF Tryd.prog {} 81 = some p81 := by kernel_rfl
def p82 : PFn :=
  ⟨37, [.c 4 2 true, .t 5, .t 6], .seq
    (.region [
      ⟨some 4, none, .al [.str [], .str []]⟩,
      ⟨some 5, none, .mv true (.c (.lst 0 [] true))⟩,
      ⟨some 6, none, .mv true (.c (.int .i64 0))⟩])
    (.seq
     (.region [
       ⟨some 12, none, .mv false (.t 0)⟩,
       ⟨some 13, none, .mv false (.t 1)⟩,
       ⟨some 14, none, .callF 84 [.t 12, .t 13] []⟩,
       ⟨some 11, none, .mv true (.t 14)⟩,
       ⟨some 15, none, .ext false (.t 11) 0⟩,
       ⟨some 16, none, .ext true (.t 11) 1⟩,
       ⟨some 17, none, .ext false (.t 11) 2⟩,
       ⟨some 7, none, .mv true (.t 15)⟩,
       ⟨some 8, none, .mv true (.t 16)⟩,
       ⟨some 9, none, .mv true (.t 17)⟩])
     (.seq
      (.seq
       (.region [
         ⟨some 18, none, .mv false (.t 9)⟩,
         ⟨some 19, none, .bin .neq (.t 18) (.c (.int .i64 0))⟩])
       (.cond (.t 19)
        (.seq
         (.region [
           ⟨some 20, none, .build [.str [], .str []] []⟩,
           ⟨some 21, none, .mv true (.t 9)⟩,
           ⟨none, none, .sto 2 (.t 4) (.t 20)⟩,
           ⟨some 5, none, .mv true (.c (.lst 0 [] true))⟩,
           ⟨some 6, none, .mv true (.t 21)⟩])
         .ret)
        .skip))
      (.seq
       (.region [
         ⟨some 23, none, .mv false (.t 8)⟩,
         ⟨some 24, none, .mv false (.t 1)⟩,
         ⟨some 25, none, .callF 84 [.t 23, .t 24] []⟩,
         ⟨some 22, none, .mv true (.t 25)⟩,
         ⟨some 26, none, .ext false (.t 22) 0⟩,
         ⟨some 27, none, .ext true (.t 22) 1⟩,
         ⟨some 28, none, .ext false (.t 22) 2⟩,
         ⟨some 10, none, .mv true (.t 26)⟩,
         ⟨some 8, none, .mv true (.t 27)⟩,
         ⟨some 9, none, .mv true (.t 28)⟩])
       (.seq
        (.seq
         (.region [
           ⟨some 29, none, .mv false (.t 9)⟩,
           ⟨some 30, none, .bin .neq (.t 29) (.c (.int .i64 0))⟩])
         (.cond (.t 30)
          (.seq
           (.region [
             ⟨some 31, none, .build [.str [], .str []] []⟩,
             ⟨some 32, none, .mv true (.t 9)⟩,
             ⟨none, none, .sto 2 (.t 4) (.t 31)⟩,
             ⟨some 5, none, .mv true (.c (.lst 0 [] true))⟩,
             ⟨some 6, none, .mv true (.t 32)⟩])
           .ret)
          .skip))
        (.seq
         (.region [
           ⟨some 33, none, .mv false (.t 7)⟩,
           ⟨some 34, none, .mv false (.t 10)⟩,
           ⟨some 35, none, .build [.str [], .str []] [(0, (1, .t 33)), (1, (1, .t 34))]⟩,
           ⟨some 36, none, .mv true (.t 8)⟩,
           ⟨none, none, .sto 2 (.t 4) (.t 35)⟩,
           ⟨some 5, none, .mv true (.t 36)⟩,
           ⟨some 6, none, .mv true (.c (.int .i64 0))⟩])
         .ret)))))⟩
theorem t82 : compF Tryd.prog {} 82 = some p82 := by kernel_rfl
def p83 : PFn :=
  ⟨41, [.t 4, .t 5, .t 6], .seq
    (.region [
      ⟨some 4, none, .mv true (.c (.str []))⟩,
      ⟨some 5, none, .mv true (.c (.lst 0 [] true))⟩,
      ⟨some 6, none, .mv true (.c (.int .i64 0))⟩])
    (.seq
     (.region [
       ⟨some 11, none, .mv false (.t 0)⟩,
       ⟨some 12, none, .callF 77 [.t 11] []⟩,
       ⟨some 10, none, .mv true (.t 12)⟩,
       ⟨some 13, none, .ext false (.t 10) 0⟩,
       ⟨some 14, none, .ext true (.t 10) 1⟩,
       ⟨some 15, none, .ext false (.t 10) 2⟩,
       ⟨some 7, none, .mv true (.t 13)⟩,
       ⟨some 8, none, .mv true (.t 14)⟩,
       ⟨some 9, none, .mv true (.t 15)⟩])
     (.seq
      (.seq
       (.region [
         ⟨some 16, none, .mv false (.t 9)⟩,
         ⟨some 17, none, .bin .neq (.t 16) (.c (.int .i64 0))⟩])
       (.cond (.t 17)
        (.seq
         (.region [
           ⟨some 18, none, .mv true (.t 9)⟩,
           ⟨some 4, none, .mv true (.c (.str []))⟩,
           ⟨some 5, none, .mv true (.c (.lst 0 [] true))⟩,
           ⟨some 6, none, .mv true (.t 18)⟩])
         .ret)
        .skip))
      (.seq
       (.seq
        (.region [
          ⟨some 19, none, .mv false (.t 1)⟩,
          ⟨some 20, none, .bin .lss (.t 19) (.c (.int .i64 0))⟩,
          ⟨some 21, none, .mv false (.t 20)⟩,
          ⟨some 22, some (21, false), .mv false (.t 7)⟩,
          ⟨some 23, some (21, false), .mv false (.t 1)⟩,
          ⟨some 24, some (21, false), .cvI .u64 (.t 23)⟩,
          ⟨some 25, some (21, false), .bin .gtr (.t 22) (.t 24)⟩,
          ⟨some 26, none, .pick (.t 21) (.c (.bool true)) (.t 25)⟩])
        (.cond (.t 26)
         (.seq
          (.region [
            ⟨some 4, none, .mv true (.c (.str []))⟩,
            ⟨some 5, none, .mv true (.c (.lst 0 [] true))⟩,
            ⟨some 6, none, .mv true (.c (.int .i64 5))⟩])
          .ret)
         .skip))
       (.seq
        (.seq
         (.region [
           ⟨some 27, none, .mv false (.t 7)⟩,
           ⟨some 28, none, .mv false (.t 8)⟩,
           ⟨some 29, none, .len false (.t 28)⟩,
           ⟨some 30, none, .cvI .u64 (.t 29)⟩,
           ⟨some 31, none, .bin .gtr (.t 27) (.t 30)⟩])
         (.cond (.t 31)
          (.seq
           (.region [
             ⟨some 4, none, .mv true (.c (.str []))⟩,
             ⟨some 5, none, .mv true (.c (.lst 0 [] true))⟩,
             ⟨some 6, none, .mv true (.c (.int .i64 2))⟩])
           .ret)
          .skip))
        (.seq
         (.draw [
           ⟨some 32, none, .mv false (.t 8)⟩,
           ⟨some 33, none, .mv false (.t 7)⟩,
           ⟨some 34, none, .sli 1 (.t 32) none (some (.t 33)) none⟩,
           ⟨some 35, none, .cvS (.t 34)⟩,
           ⟨some 36, none, .bsl 1 0 false [] [] false⟩,
           ⟨some 37, none, .mv false (.t 8)⟩,
           ⟨some 38, none, .mv false (.t 7)⟩,
           ⟨some 39, none, .sli 1 (.t 37) (some (.t 38)) none none⟩,
           ⟨some 40, none, .app 1 1 (.t 36) (.t 39)⟩,
           ⟨some 4, none, .mv true (.t 35)⟩,
           ⟨some 5, none, .mv true (.t 40)⟩,
           ⟨some 6, none, .mv true (.c (.int .i64 0))⟩] [])
         .ret)))))⟩
theorem t83 : compF Tryd.prog {} 83 = some p83 := by kernel_rfl
def p84 : PFn :=
  ⟨42, [.t 4, .t 5, .t 6], .seq
    (.region [
      ⟨some 4, none, .mv true (.c (.str []))⟩,
      ⟨some 5, none, .mv true (.c (.lst 0 [] true))⟩,
      ⟨some 6, none, .mv true (.c (.int .i64 0))⟩])
    (.seq
     (.region [
       ⟨some 11, none, .mv false (.t 0)⟩,
       ⟨some 12, none, .callF 81 [.t 11] []⟩,
       ⟨some 10, none, .mv true (.t 12)⟩,
       ⟨some 13, none, .ext false (.t 10) 0⟩,
       ⟨some 14, none, .ext true (.t 10) 1⟩,
       ⟨some 15, none, .ext false (.t 10) 2⟩,
       ⟨some 7, none, .mv true (.t 13)⟩,
       ⟨some 8, none, .mv true (.t 14)⟩,
       ⟨some 9, none, .mv true (.t 15)⟩])
     (.seq
      (.block 0
       (.seq
        (.region [
          ⟨some 17, none, .mv false (.t 9)⟩,
          ⟨some 18, none, .bin .neq (.t 17) (.c (.int .i64 0))⟩,
          ⟨some 16, none, .mv true (.t 18)⟩])
        (.cond (.t 16)
         (.seq
          (.region [
            ⟨some 19, none, .mv true (.t 9)⟩,
            ⟨some 4, none, .mv true (.c (.str []))⟩,
            ⟨some 5, none, .mv true (.c (.lst 0 [] true))⟩,
            ⟨some 6, none, .mv true (.t 19)⟩])
          .ret)
         (.seq
          (.region [
            ⟨some 21, none, .mv false (.t 1)⟩,
            ⟨some 22, none, .bin .lss (.t 21) (.c (.int .i64 0))⟩,
            ⟨some 23, none, .mv false (.t 22)⟩,
            ⟨some 24, some (23, false), .mv false (.t 7)⟩,
            ⟨some 25, some (23, false), .mv false (.t 1)⟩,
            ⟨some 26, some (23, false), .cvI .u64 (.t 25)⟩,
            ⟨some 27, some (23, false), .bin .gtr (.t 24) (.t 26)⟩,
            ⟨some 28, none, .pick (.t 23) (.c (.bool true)) (.t 27)⟩,
            ⟨some 20, none, .mv true (.t 28)⟩])
          (.cond (.t 20)
           (.seq
            (.region [
              ⟨some 4, none, .mv true (.c (.str []))⟩,
              ⟨some 5, none, .mv true (.c (.lst 0 [] true))⟩,
              ⟨some 6, none, .mv true (.c (.int .i64 5))⟩])
            .ret)
           (.seq
            (.region [
              ⟨some 30, none, .mv false (.t 7)⟩,
              ⟨some 31, none, .mv false (.t 8)⟩,
              ⟨some 32, none, .len false (.t 31)⟩,
              ⟨some 33, none, .cvI .u64 (.t 32)⟩,
              ⟨some 34, none, .bin .gtr (.t 30) (.t 33)⟩,
              ⟨some 29, none, .mv true (.t 34)⟩])
            (.cond (.t 29)
             (.seq
              (.region [
                ⟨some 4, none, .mv true (.c (.str []))⟩,
                ⟨some 5, none, .mv true (.c (.lst 0 [] true))⟩,
                ⟨some 6, none, .mv true (.c (.int .i64 2))⟩])
              .ret)
             .skip)))))))
      (.seq
       (.draw [
         ⟨some 35, none, .mv false (.t 8)⟩,
         ⟨some 36, none, .mv false (.t 7)⟩,
         ⟨some 37, none, .sli 1 (.t 35) none (some (.t 36)) none⟩,
         ⟨some 38, none, .cvS (.t 37)⟩,
         ⟨some 39, none, .mv false (.t 8)⟩,
         ⟨some 40, none, .mv false (.t 7)⟩,
         ⟨some 41, none, .sli 1 (.t 39) (some (.t 40)) none none⟩,
         ⟨some 4, none, .mv true (.t 38)⟩,
         ⟨some 5, none, .mv true (.t 41)⟩,
         ⟨some 6, none, .mv true (.c (.int .i64 0))⟩] [])
       .ret)))⟩
theorem t84 : compF Tryd.prog {} 84 = some p84 := by kernel_rfl
def p105 : PFn :=
  ⟨6, [], .region [
     ⟨some 0, none, .build [.int .u8 0, .int .u8 0] [(0, (1, .c (.int .u8 128))), (1, (1, .c (.int .u8 191)))]⟩,
     ⟨some 1, none, .build [.int .u8 0, .int .u8 0] [(0, (1, .c (.int .u8 160))), (1, (1, .c (.int .u8 191)))]⟩,
     ⟨some 2, none, .build [.int .u8 0, .int .u8 0] [(0, (1, .c (.int .u8 128))), (1, (1, .c (.int .u8 159)))]⟩,
     ⟨some 3, none, .build [.int .u8 0, .int .u8 0] [(0, (1, .c (.int .u8 144))), (1, (1, .c (.int .u8 191)))]⟩,
     ⟨some 4, none, .build [.int .u8 0, .int .u8 0] [(0, (1, .c (.int .u8 128))), (1, (1, .c (.int .u8 143)))]⟩,
     ⟨some 5, none, .bad⟩,
     ⟨none, none, .bad⟩]⟩
theorem t105 : compF Tryd.prog {} 105 = some p105 := by kernel_rfl
def p26r : PFn :=
  ⟨23, [.t 0], .seq
    (.region [
      ⟨some 0, none, .mv true (.c (.lst 0 [] true))⟩])
    (.seq
     (.region [
       ⟨some 4, none, .mk 1 4 false [.int .u32 0] (.c (.int .i64 256)) (.c (.int .i64 256)) true⟩,
       ⟨some 1, none, .mv true (.t 4)⟩])
     (.seq
      (.seq
       (.region [
         ⟨some 5, none, .mv false (.t 1)⟩,
         ⟨some 6, none, .len false (.t 5)⟩,
         ⟨some 7, none, .mv false (.c (.int .i64 0))⟩])
       (.block 0
        (.loop
         (.seq
          (.region [
            ⟨some 8, none, .bin .lss (.t 7) (.t 6)⟩])
          (.seq
           (.cond (.t 8)
            .skip
            (.exit 0))
           (.seq
            (.block 1
             (.seq
              (.region [
                ⟨some 9, none, .mv true (.t 7)⟩,
                ⟨some 2, none, .mv true (.t 9)⟩])
              (.seq
               (.region [
                 ⟨some 10, none, .mv false (.t 2)⟩,
                 ⟨some 11, none, .cvI .u32 (.t 10)⟩,
                 ⟨some 3, none, .mv true (.t 11)⟩])
               (.seq
                (.seq
                 (.region [
                   ⟨some 12, none, .mv false (.c (.int .i64 0))⟩])
                 (.block 2
                  (.loop
                   (.seq
                    (.region [
                      ⟨some 13, none, .bin .lss (.t 12) (.c (.int .i64 8))⟩])
                    (.seq
                     (.cond (.t 13)
                      .skip
                      (.exit 2))
                     (.seq
                      (.block 3
                       (.region [
                         ⟨some 14, none, .mv false (.t 3)⟩,
                         ⟨some 15, none, .callF 45 [.t 14] []⟩,
                         ⟨some 3, none, .mv true (.t 15)⟩]))
                      (.region [
                        ⟨some 16, none, .bin .add (.t 12) (.c (.int .i64 1))⟩,
                        ⟨some 12, none, .mv false (.t 16)⟩])))))))
                (.region [
                  ⟨some 17, none, .mv false (.t 1)⟩,
                  ⟨some 18, none, .mv false (.t 2)⟩,
                  ⟨some 19, none, .mv true (.t 3)⟩,
                  ⟨some 20, none, .iad 1 (.t 17) (.t 18)⟩,
                  ⟨none, none, .sto 1 (.t 20) (.t 19)⟩])))))
            (.region [
              ⟨some 21, none, .bin .add (.t 7) (.c (.int .i64 1))⟩,
              ⟨some 7, none, .mv false (.t 21)⟩])))))))
      (.seq
       (.region [
         ⟨some 22, none, .mv true (.t 1)⟩,
         ⟨some 0, none, .mv true (.t 22)⟩])
       .ret)))⟩
theorem t26r : compF Tryd.prog { rows := [4] } 26 = some p26r := by kernel_rfl
def p32t : PFn :=
  ⟨36, [.t 2], .seq
    (.region [
      ⟨some 2, none, .mv true (.c (.lst 0 [] true))⟩])
    (.seq
     (.region [
       ⟨some 3, none, .mv true (.c (.int .i64 0))⟩])
     (.seq
      (.seq
       (.region [
         ⟨some 9, none, .mv false (.t 0)⟩,
         ⟨some 10, none, .len false (.t 9)⟩,
         ⟨some 11, none, .mv false (.c (.int .i64 0))⟩])
       (.block 0
        (.loop
         (.seq
          (.region [
            ⟨some 12, none, .bin .lss (.t 11) (.t 10)⟩])
          (.seq
           (.cond (.t 12)
            .skip
            (.exit 0))
           (.seq
            (.block 1
             (.seq
              (.region [
                ⟨some 13, none, .iad 1 (.t 9) (.t 11)⟩,
                ⟨some 14, none, .ld 1 false false (.t 13)⟩,
                ⟨some 5, none, .mv true (.t 14)⟩])
              (.seq
               (.region [
                 ⟨some 15, none, .mv false (.t 3)⟩,
                 ⟨some 16, none, .mv false (.t 5)⟩,
                 ⟨some 17, none, .len false (.t 16)⟩,
                 ⟨some 18, none, .bin .add (.t 15) (.t 17)⟩,
                 ⟨some 3, none, .mv true (.t 18)⟩])
               (.seq
                (.region [
                  ⟨some 19, none, .mv false (.t 3)⟩,
                  ⟨some 20, none, .bin .lss (.t 19) (.c (.int .i64 0))⟩])
                (.cond (.t 20)
                 (.region [
                   ⟨some 21, none, .bad⟩,
                   ⟨none, none, .bad⟩])
                 .skip)))))
            (.region [
              ⟨some 22, none, .bin .add (.t 11) (.c (.int .i64 1))⟩,
              ⟨some 11, none, .mv false (.t 22)⟩])))))))
      (.seq
       (.region [
         ⟨some 23, none, .mv false (.t 3)⟩,
         ⟨some 24, none, .callF 51 [.c (.lst 0 [] true), .t 23] [true]⟩,
         ⟨some 6, none, .mv true (.t 24)⟩])
       (.seq
        (.seq
         (.region [
           ⟨some 25, none, .mv false (.t 0)⟩,
           ⟨some 26, none, .len false (.t 25)⟩,
           ⟨some 27, none, .mv false (.c (.int .i64 0))⟩])
         (.block 2
          (.loop
           (.seq
            (.region [
              ⟨some 28, none, .bin .lss (.t 27) (.t 26)⟩])
            (.seq
             (.cond (.t 28)
              .skip
              (.exit 2))
             (.seq
              (.block 3
               (.seq
                (.region [
                  ⟨some 29, none, .iad 1 (.t 25) (.t 27)⟩,
                  ⟨some 30, none, .ld 1 false false (.t 29)⟩,
                  ⟨some 8, none, .mv true (.t 30)⟩])
                (.region [
                  ⟨some 31, none, .mv true (.t 6)⟩,
                  ⟨some 32, none, .mv false (.t 8)⟩,
                  ⟨some 33, none, .app 1 1 (.t 31) (.t 32)⟩,
                  ⟨some 6, none, .mv true (.t 33)⟩])))
              (.region [
                ⟨some 34, none, .bin .add (.t 27) (.c (.int .i64 1))⟩,
                ⟨some 27, none, .mv false (.t 34)⟩])))))))
        (.seq
         (.region [
           ⟨some 35, none, .mv true (.t 6)⟩,
           ⟨some 2, none, .mv true (.t 35)⟩])
         .ret)))))⟩
theorem t32t : compF Tryd.prog { takes := [(51, [true])] } 32 = some p32t := by kernel_rfl
def tab : List (Nat × PFn) := [(2, p2), (3, p3), (4, p4), (5, p5), (6, p6), (7, p7), (8, p8), (9, p9), (10, p10), (11, p11), (12, p12), (13, p13), (14, p14), (15, p15), (16, p16), (17, p17), (18, p18), (19, p19), (20, p20), (21, p21), (22, p22), (23, p23), (24, p24), (25, p25), (26, p26), (27, p27), (28, p28), (29, p29), (30, p30), (31, p31), (32, p32), (33, p33), (34, p34), (35, p35), (36, p36), (37, p37), (38, p38), (39, p39), (40, p40), (41, p41), (42, p42), (43, p43), (44, p44), (45, p45), (46, p46), (47, p47), (48, p48), (49, p49), (50, p50), (51, p51), (52, p52), (53, p53), (54, p54), (55, p55), (56, p56), (57, p57), (59, p59), (60, p60), (61, p61), (63, p63), (64, p64), (65, p65), (66, p66), (67, p67), (68, p68), (69, p69), (70, p70), (71, p71), (72, p72), (73, p73), (74, p74), (76, p76), (77, p77), (78, p78), (79, p79), (80, p80), (81, p81), (82, p82), (83, p83), (84, p84), (105, p105)]
theorem tabOk : TabOk Tryd.prog tab := .cons t2 <| .cons t3 <| .cons t4 <| .cons t5 <| .cons t6 <| .cons t7 <| .cons t8 <| .cons t9 <| .cons t10 <| .cons t11 <| .cons t12 <| .cons t13 <| .cons t14 <| .cons t15 <| .cons t16 <| .cons t17 <| .cons t18 <| .cons t19 <| .cons t20 <| .cons t21 <| .cons t22 <| .cons t23 <| .cons t24 <| .cons t25 <| .cons t26 <| .cons t27 <| .cons t28 <| .cons t29 <| .cons t30 <| .cons t31 <| .cons t32 <| .cons t33 <| .cons t34 <| .cons t35 <| .cons t36 <| .cons t37 <| .cons t38 <| .cons t39 <| .cons t40 <| .cons t41 <| .cons t42 <| .cons t43 <| .cons t44 <| .cons t45 <| .cons t46 <| .cons t47 <| .cons t48 <| .cons t49 <| .cons t50 <| .cons t51 <| .cons t52 <| .cons t53 <| .cons t54 <| .cons t55 <| .cons t56 <| .cons t57 <| .cons t59 <| .cons t60 <| .cons t61 <| .cons t63 <| .cons t64 <| .cons t65 <| .cons t66 <| .cons t67 <| .cons t68 <| .cons t69 <| .cons t70 <| .cons t71 <| .cons t72 <| .cons t73 <| .cons t74 <| .cons t76 <| .cons t77 <| .cons t78 <| .cons t79 <| .cons t80 <| .cons t81 <| .cons t82 <| .cons t83 <| .cons t84 <| .cons t105 <| .nil
theorem hmix : Tryd.prog.follows .mixedOrders = true := by kernel_rfl
theorem good (n d : Nat) : Good Tryd.prog (evF (tabOf tab) noPrim n d) := evF_sound hmix tabOk noPrim_good d
end Go.Proofs.YtjcjbpbkakfjdaaDoor.E
/- What a call that makes a value comes to, over the model itself. -/
namespace Go.Proofs.YtjcjbpbkakfjdaaDoor.E
open Go Go.RowKit Go.Proofs
set_option linter.unusedVariables false
set_option linter.unusedSimpArgs false
theorem spec_step {P : Program} {f : Nat} {args : List PV} {r : PV} (hc : callable P f = true) (h : ∀ (out : List Nat) (w : World) (g : Ghost) (vals : Array Value), WRel out w g → VRl true w g args vals.toList →
    Calls P f vals w fun e w' => ∃ v g', e = .returned v ∧ Step [] w g w' g' r v) : PSpec P f args r := by
  refine fun H => ⟨trivial, fun out w g vals hw hH hV hun => .inl ⟨hc, (h out w g vals hw hV).mono ?_⟩⟩
  rintro e w' ⟨v, g', rfl, hs⟩
  have hlt : ∀ b f, g b = .tail f → b < w.heap.size := fun b f hf => hw.lt (by rw [hf]; simp)
  have hE : Evol (out ++ toksH w H) w g w' g' := hs.toStep0.evol (by simp) fun b hb => by
    refine ⟨?_, by simp⟩
    rcases List.mem_append.1 hb with hb | hb
    · obtain ⟨f, hf⟩ := hw.outT b hb; exact hlt b f hf
    · obtain ⟨f, hf⟩ := toksH_tail hH b hb; exact hlt b f hf
  have hm : ∀ b, g b = .mut → w'.heap[b]? = w.heap[b]? ∧ g' b = .mut := fun b hb => by
    obtain ⟨k1, k2⟩ := hs.old b (hw.lt (by rw [hb]; simp)) (by simp)
    exact ⟨k1, k2.trans hb⟩
  obtain ⟨hH', hT⟩ := HRel.keep hE hm hH (fun b hb => List.mem_append_right _ hb)
  refine ⟨v, r, H, g', rfl, ⟨rfl, rfl⟩, hs.toStep0.wrel hw (by simp), hH', hs.rv, fun b => ?_, hE.sub (fun b hb => List.mem_append_left _ hb)⟩
  rw [hT]
  have h1 := hun b
  have h2 := hs.rt b
  by_cases hb : b ∈ toks r v
  · rcases hs.rs b hb with hm | hm
    · cases hm
    · have z1 : (toksH w H).count b = 0 := count_mem_zero fun hh => by obtain ⟨f, hf⟩ := toksH_tail hH b hh; have := hlt b f hf; omega
      have z2 : out.count b = 0 := count_mem_zero fun hh => by obtain ⟨f, hf⟩ := hw.outT b hh; have := hlt b f hf; omega
      omega
  · have := count_mem_zero hb
    omega
end Go.Proofs.YtjcjbpbkakfjdaaDoor.E
/- Bytes as data: turned into strings, and cloned. -/
namespace Go.Proofs.YtjcjbpbkakfjdaaDoor.E
open Go Go.RowKit Go.Proofs
set_option linter.unusedVariables false
set_option linter.unusedSimpArgs false
theorem ci_u8 (l : List Nat) : (ci l).map (PV.int .u8) = l.map u8 := by simp [ci, Function.comp_def, u8]
theorem ci_len (l : List Nat) : (ci l).length = l.length := List.length_map ..
attribute [simp] ci_u8 ci_len
theorem toInts_u8 : ∀ l : List Nat, toInts (l.map u8) = some (ci l)
  | [] => rfl
  | x :: l => by simp [toInts, toInts_u8 l, ci]
theorem norm_ci {l : List Nat} (hw : ∀ x ∈ l, x < 256) : (ci l).map norm8 = ci l := by
  simp only [ci, List.map_map]
  refine List.map_congr_left fun x hx => ?_
  have := hw x hx
  simp only [Function.comp_apply]
  exact norm8_of (by omega)
theorem cvS_u8 {s : Nat} {xs : List PV} {o : Bool} {l : List Nat} (hx : xs = l.map u8) (hs : s = 1 ∨ l.length = 0) (hw : ∀ x ∈ l, x < 256) : cvSP (.lst s xs o) = some (.str (ci l)) := by
  subst hx
  have h1 : s = 1 ∨ (l.map u8).isEmpty = true := hs.imp id fun h => by rw [List.length_eq_zero_iff.1 h]; rfl
  simp only [cvSP, if_pos h1, toInts_u8, Option.map_some, norm_ci hw]
theorem ci_iff {a b : List Nat} : ci a = ci b ↔ a = b := ⟨ci_inj, fun h => by rw [h]⟩
attribute [simp] ci_iff ci_nil
end Go.Proofs.YtjcjbpbkakfjdaaDoor.E
/- The same texts, the same records. -/
namespace Go.Proofs.YtjcjbpbkakfjdaaDoor.E
open Go Go.RowKit Go.Proofs
set_option linter.unusedVariables false
set_option linter.unusedSimpArgs false
theorem mixS : Tryd.prog.follows .mixedOrders = true := by kernel_rfl
def sV (t : List Nat) : PV := .str (ci t)
def rowsC (l : List (List (List Nat))) : List PV := l.map fun r => .lst 1 (r.map sV) false
end Go.Proofs.YtjcjbpbkakfjdaaDoor.E
/- A call's contract out of what it leaves, the library's numbers known. -/
namespace Go.Proofs.YtjcjbpbkakfjdaaDoor.E
open Go Go.RowKit Go.Proofs
set_option linter.unusedVariables false
set_option linter.unusedSimpArgs false
theorem spec_stepG {P : Program} {f : Nat} {args : List PV} {r : PV} (hc : callable P f = true) (h : ∀ (out : List Nat) (w : World) (g : Ghost) (vals : Array Value), WRel out w g → GL w g → VRl true w g args vals.toList →
    Calls P f vals w fun e w' => ∃ v g', e = .returned v ∧ Step [] w g w' g' r v) : PSpec P f args r := by
  refine fun H => ⟨trivial, fun out w g vals hw hH hV hun => .inl ⟨hc, (h out w g vals hw hH.gl hV).mono ?_⟩⟩
  rintro e w' ⟨v, g', rfl, hs⟩
  have hlt : ∀ b f, g b = .tail f → b < w.heap.size := fun b f hf => hw.lt (by rw [hf]; simp)
  have hE : Evol (out ++ toksH w H) w g w' g' := hs.toStep0.evol (by simp) fun b hb => by
    refine ⟨?_, by simp⟩
    rcases List.mem_append.1 hb with hb | hb
    · obtain ⟨f, hf⟩ := hw.outT b hb; exact hlt b f hf
    · obtain ⟨f, hf⟩ := toksH_tail hH b hb; exact hlt b f hf
  have hm : ∀ b, g b = .mut → w'.heap[b]? = w.heap[b]? ∧ g' b = .mut := fun b hb => by
    obtain ⟨k1, k2⟩ := hs.old b (hw.lt (by rw [hb]; simp)) (by simp)
    exact ⟨k1, k2.trans hb⟩
  obtain ⟨hH', hT⟩ := HRel.keep hE hm hH (fun b hb => List.mem_append_right _ hb)
  refine ⟨v, r, H, g', rfl, ⟨rfl, rfl⟩, hs.toStep0.wrel hw (by simp), hH', hs.rv, fun b => ?_, hE.sub (fun b hb => List.mem_append_left _ hb)⟩
  rw [hT]
  have h1 := hun b
  have h2 := hs.rt b
  by_cases hb : b ∈ toks r v
  · rcases hs.rs b hb with hm | hm
    · cases hm
    · have z1 : (toksH w H).count b = 0 := count_mem_zero fun hh => by obtain ⟨f, hf⟩ := toksH_tail hH b hh; have := hlt b f hf; omega
      have z2 : out.count b = 0 := count_mem_zero fun hh => by obtain ⟨f, hf⟩ := hw.outT b hh; have := hlt b f hf; omega
      omega
  · have := count_mem_zero hb
    omega
end Go.Proofs.YtjcjbpbkakfjdaaDoor.E
/- Contracts of the kit's shelf, laid at this program (written by the kit's lay-shelf and lay-plain). -/
namespace Go.Proofs
open Go.Shelf
def Tryd.lays185_ren : Go.Shelf.Ren := ⟨fun | 185 => 41 | 187 => 61 | 115 => 42 | 253 => 62 | 224 => 63 | 254 => 64 | 255 => 75 | 291 => 76 | n => n, fun | 37 => 23 | 3 => 3 | 4 => 4 | 0 => 0 | 5 => 5 | 46 => 77 | 9 => 9 | 146 => 101 | 51 => 74 | n => n, fun | 1 => 0 | n => n⟩
theorem Tryd.lays185 : Go.Proofs.Lays.n185 Tryd.prog Tryd.lays185_ren := {
  mixed := by kernel_rfl
  f115 := Tryd.func42.trans (congrArg some (by kernel_rfl))
  f185 := Tryd.func41.trans (congrArg some (by kernel_rfl))
  f187 := Tryd.func61.trans (congrArg some (by kernel_rfl))
  f224 := Tryd.func63.trans (congrArg some (by kernel_rfl))
  f253 := Tryd.func62.trans (congrArg some (by kernel_rfl))
  f254 := Tryd.func64.trans (congrArg some (by kernel_rfl))
  f255 := Tryd.func75.trans (congrArg some (by kernel_rfl))
  f291 := Tryd.func76.trans (congrArg some (by kernel_rfl))
  t0 := Tryd.underlying0
  a0 := Tryd.isAgg0
  z0 := Tryd.sizeOf0
  v0 := Tryd.zeroValue0
  t3 := Tryd.underlying3
  a3 := Tryd.isAgg3
  z3 := Tryd.sizeOf3
  v3 := Tryd.zeroValue3
  t4 := Tryd.underlying4
  a4 := Tryd.isAgg4
  z4 := Tryd.sizeOf4
  v4 := Tryd.zeroValue4
  t5 := Tryd.underlying5
  a5 := Tryd.isAgg5
  z5 := Tryd.sizeOf5
  v5 := Tryd.zeroValue5
  t9 := Tryd.underlying9
  a9 := Tryd.isAgg9
  z9 := Tryd.sizeOf9
  v9 := Tryd.zeroValue9
  t37 := Tryd.underlying23
  a37 := Tryd.isAgg23
  z37 := Tryd.sizeOf23
  v37 := Tryd.zeroValue23
  t46 := Tryd.underlying77
  a46 := Tryd.isAgg77
  z46 := Tryd.sizeOf77
  v46 := Tryd.zeroValue77
  t51 := Tryd.underlying74
  a51 := Tryd.isAgg74
  z51 := Tryd.sizeOf74
  v51 := Tryd.zeroValue74
  t146 := Tryd.underlying101
  a146 := Tryd.isAgg101
  z146 := Tryd.sizeOf101
  v146 := Tryd.zeroValue101
  g1 := by kernel_rfl }
open Go.RowKit Go.Lib in
theorem Tryd.bytes_Index_longer (p q : Option Addr) (n c m d : Nat) (w : World) (h2 : 2 ≤ m) (hnm : n < m) (hm : m ≤ 9223372036854775807) :
    Calls Tryd.prog 41 #[.slice p n c, .slice q m d] w fun e w' => e = .returned (.int .i64 (-1)) ∧ w' = w := Any.bytes_Index_longer Tryd.lays185 p q n c m d w h2 hnm hm
open Go.Proofs Go.RowKit Go.Lib in
theorem Tryd.bytes_Index_at (a1 a2 : Addr) (n c1 k c2 : Nat) (xs ys : List Int) (m : Int) (w : World) (hx : xs.length = n) (hy : ys.length = k) (hr1 : ∀ x ∈ xs, 0 ≤ x ∧ x < 256) (hr2 : ∀ y ∈ ys, 0 ≤ y ∧ y < 256) (hc1 : ∀ i, i < n → w.cell? (a1.add i) = some (.int .u8 (xs.getD i 0))) (hc2 : ∀ i, i < k → w.cell? (a2.add i) = some (.int .u8 (ys.getD i 0))) (hcap : n ≤ c1) (hs : n < 4294967281) (hk : k ≤ 9223372036854775807) (hm : w.cell? ⟨0, 0, none⟩ = some (.int .i64 m)) :
    Calls Tryd.prog 41 #[.slice (some a1) n c1, .slice (some a2) k c2] w fun e w' => e = .returned (.int .i64 (Lib.index (Lib.bytesOf xs) (Lib.bytesOf ys))) ∧ ∃ q, w' = w.drewN q := Any.bytes_Index_at Tryd.lays185 a1 a2 n c1 k c2 xs ys m w hx hy hr1 hr2 hc1 hc2 hcap hs hk hm
end Go.Proofs
/- Functions that the machine answers by itself: how many bytes are that one. -/
namespace Go.Proofs.YtjcjbpbkakfjdaaDoor.E
open Go Go.RowKit Go.Proofs
set_option linter.unusedVariables false
set_option linter.unusedSimpArgs false
theorem spec_ext {P : Program} {f : Nat} {fn : Func} {e : Array Value → Sem Value} {args : List PV} {r : PV} (hf : P.funcs[f]? = some fn) (hname : (fn.name == "runtime.NumGoroutine") = false) (hb : fn.body.isNone = true) (hn : Extern.findNext fn = none) (he : Extern.find fn = some e)
    (h : ∀ (w : World) (g : Ghost) (vals : Array Value), VRl true w g args vals.toList → ∃ v, (e vals).run P w = .ok v w ∧ VR true w g r v ∧ toks r v = []) : PSpec P f args r := by
  refine fun H => ⟨trivial, fun out w g vals hw hH hV hun => ?_⟩
  obtain ⟨v, h1, h2, h3⟩ := h w g vals hV
  refine .inr ⟨v, w, ?_, v, r, H, g, rfl, ⟨rfl, rfl⟩, hw, hH, h2, fun b => ?_, Evol.refl _ _ _⟩
  · rw [run_callFunc_extern hf hname hb hn he, h1]
    rfl
  · rw [h3]
    have := hun b
    simp only [List.count_nil]
    omega
theorem count_ci {b : List Nat} (hw : ∀ x ∈ b, x < 256) (c : Nat) (hc : c < 256) : Lib.countByte (Lib.bytesOf (ci b)) c.toUInt8 = b.count c := by
  induction b with
  | nil => rfl
  | cons x b ih =>
    have hx := hw x (List.mem_cons_self ..)
    have ih := ih fun y hy => hw y (List.mem_cons_of_mem _ hy)
    have e : Lib.bytesOf (ci (x :: b)) = UInt8.ofNat x :: Lib.bytesOf (ci b) := by simp [Lib.bytesOf, ci]
    rw [e]
    unfold Lib.countByte at *
    rw [List.count_cons, List.count_cons, ih]
    congr 1
    have h1 : (UInt8.ofNat x = c.toUInt8) ↔ x = c := by
      constructor
      · intro h
        have h2 := congrArg UInt8.toNat h
        simp only [Nat.toUInt8, UInt8.toNat_ofNat'] at h2
        omega
      · intro h
        rw [h]
    by_cases h : x = c
    · subst h
      simp
    · have h2 : ¬ UInt8.ofNat x = c.toUInt8 := fun h3 => h (h1.1 h3)
      simp [h, h2]
theorem countE_ok {s : Nat} {xs : List PV} {o : Bool} {b : List Nat} (hx : xs = b.map u8) (hs : s = 1 ∨ b.length = 0) (hw : ∀ x ∈ b, x < 256) (c : Nat) (hc : c < 256) :
    PSpec Tryd.prog 58 [.lst s xs o, .int .u8 c] (.int .i64 (b.count c : Nat)) := by
  subst hx
  refine spec_ext Tryd.func58 (by kernel_rfl) (by kernel_rfl) (by kernel_rfl) (e := Extern.BytealgCount.count) (by kernel_rfl) fun w g vals hV => ?_
  obtain ⟨v0, vs0, e0, h0, v1, vs1, rfl, rfl, rfl⟩ := hV
  obtain ⟨A, cap, rfl, _, _, hR, _⟩ := h0
  have hvals : vals = #[.slice A (b.map u8).length cap, .int .u8 c] := by
    apply Array.toList_inj.1
    simpa using e0
  subst hvals
  refine ⟨.int .i64 (b.count c : Nat), ?_, rfl, by simp [toks]⟩
  rw [← count_ci hw c hc]
  cases A with
  | none =>
    have hb : b = [] := by
      rcases hR with h | ⟨_, _, _, h, _⟩
      · simpa using h
      · cases h
    subst hb
    rfl
  | some a =>
    have hcell : ∀ i, i < b.length → w.cell? (a.add i) = some (.int .u8 ((ci b).getD i 0)) := by
      intro i hi
      rcases hR with h | ⟨blk, off, vs, h, hr, hv⟩
      · rw [List.map_eq_nil_iff.1 h] at hi
        simp at hi
      · obtain rfl : s = 1 := hs.resolve_right (by omega)
        cases h
        have hv2 := VRe_ints (toInts_u8 b) hv
        have e3 : (⟨blk, off, none⟩ : Addr).add i = ⟨blk, off + i, none⟩ := by
          unfold Addr.add
          split
          · rename_i h; simp [h]
          · rfl
        rw [e3]
        refine hr.cell (j := i) ?_
        rw [hv2, List.getElem?_map, List.getD_eq_getElem?_getD]
        have : i < (ci b).length := by simpa using hi
        rw [List.getElem?_eq_getElem this]
        rfl
    have := Lib.run_countAt (P := Tryd.prog) w a b.length cap (ci b) (by simp) hcell c
    simpa using this
end Go.Proofs.YtjcjbpbkakfjdaaDoor.E
