/- The code of the functions that the laws of this seat reach, as the abstract machine reads it: written by gen.py (the tools of this repo) from the translation. Nothing here is trusted: it is checked against the program. -/
import Derived.Test.YtjjmechghfjbmaaAmBase
set_option linter.unusedVariables false
set_option linter.unusedSimpArgs false
set_option linter.unnecessarySimpa false
set_option maxRecDepth 100000
namespace Go.Proofs.Ytjjmechghfjbmaa
open Go Am
namespace Cd
/-- ceroplast/ceroplastlaw06.VanKnown -/
def c7 : ACode :=
 (.seq
  (.region false 0 []
      [q 0 0 (.mv (.c (.lit (.bool false))))]
      [])
  (.seq
   (.region false 1 []
      [q 0 10 (.call (.f 37) [] [] false),
       q 1 1 (.alloc [.nils 4, .lit (.int .i64 0), .lit (.int .i64 0), .nils 4, .nils 2] [] 0),
       r 2 (.store 5 (.t 1) (.t 10))]
      [1])
   (.seq
    (.region true 0 []
      [q 0 12 (.load (some 5) (.t 1)),
       q 1 13 (.call (.f 38) [] [] true),
       q 2 14 (.call (.f 18) [.t 12, .t 13, .c (.lit (.int .i64 1))] [] false),
       q 3 11 (.mv (.t 14)),
       q 4 15 (.extract (.t 11) 0),
       q 5 16 (.extract (.t 11) 1),
       q 6 2 (.mv (.t 15)),
       q 7 3 (.mv (.t 16))]
      [1, 2, 3])
    (.seq
     (.region true 0 []
      [q 0 18 (.load (some 5) (.t 1)),
       q 1 19 (.call (.f 38) [] [] true),
       q 2 20 (.call (.f 21) [.t 18, .t 19, .c (.lit (.int .i64 1))] [] false),
       q 3 17 (.mv (.t 20)),
       q 4 21 (.extract (.t 17) 0),
       q 5 22 (.extract (.t 17) 1),
       q 6 4 (.mv (.t 21)),
       q 7 5 (.mv (.t 22))]
      [1, 2, 3, 4, 5])
     (.seq
      (.region true 0 []
      [q 0 24 (.load (some 5) (.t 1)),
       q 1 25 (.call (.f 38) [] [] true),
       q 2 26 (.call (.f 24) [.t 24, .t 25, .c (.lit (.int .i64 1))] [] false),
       q 3 23 (.mv (.t 26)),
       q 4 27 (.extract (.t 23) 0),
       q 5 28 (.extract (.t 23) 1),
       q 6 6 (.mv (.t 27)),
       q 7 7 (.mv (.t 28))]
      [1, 2, 3, 4, 5, 6, 7])
      (.seq
       (.region true 0 []
      [q 0 30 (.load (some 5) (.t 1)),
       q 1 31 (.call (.f 38) [] [] true),
       q 2 32 (.call (.f 27) [.t 30, .t 31, .c (.lit (.int .i64 0)), .c (.lit (.int .i64 0)), .c (.lit (.int .i64 170))] [] false),
       q 3 29 (.mv (.t 32)),
       q 4 33 (.extract (.t 29) 0),
       q 5 34 (.extract (.t 29) 1),
       q 6 8 (.mv (.t 33)),
       q 7 9 (.mv (.t 34))]
      [2, 3, 4, 5, 6, 7, 8, 9])
       (.seq
        (.region false 0 []
      [q 0 35 (.mv (.t 3)),
       q 1 36 (.bin .eql (.t 35) (.c (.lit (.int .i64 0)))),
       q 2 37 (.mv (.t 36)),
       ⟨some 38, .mv (.t 5), some (37, true), [], [], 0, 3⟩,
       ⟨some 39, .bin .eql (.t 38) (.c (.lit (.int .i64 0))), some (37, true), [], [], 0, 4⟩,
       q 5 40 (.pick (.t 37) (.t 39) (.c (.lit (.bool false)))),
       q 6 41 (.mv (.t 40)),
       ⟨some 42, .mv (.t 7), some (41, true), [], [], 0, 7⟩,
       ⟨some 43, .bin .eql (.t 42) (.c (.lit (.int .i64 0))), some (41, true), [], [], 0, 8⟩,
       q 9 44 (.pick (.t 41) (.t 43) (.c (.lit (.bool false)))),
       q 10 45 (.mv (.t 44)),
       ⟨some 46, .mv (.t 9), some (45, true), [], [], 0, 11⟩,
       ⟨some 47, .bin .eql (.t 46) (.c (.lit (.int .i64 0))), some (45, true), [], [], 0, 12⟩,
       q 13 48 (.pick (.t 45) (.t 47) (.c (.lit (.bool false)))),
       q 14 49 (.mv (.t 48)),
       ⟨some 50, .mv (.t 2), some (49, true), [], [], 0, 15⟩,
       ⟨some 51, .lits 1 [.lit (.int .i64 0)] 2 [(0, .c (.lit (.int .i64 0))), (1, .c (.lit (.int .i64 0)))] none, some (49, true), [], [], 0, 16⟩,
       ⟨some 52, .call (.f 20) [.t 50, .t 51] [] false, some (49, true), [], [], 0, 17⟩,
       q 18 53 (.pick (.t 49) (.t 52) (.c (.lit (.bool false)))),
       q 19 54 (.mv (.t 53)),
       ⟨some 55, .mv (.t 4), some (54, true), [], [], 0, 20⟩,
       ⟨some 56, .call (.f 39) [.c (.lit (.int .i64 210)), .c (.lit (.int .i64 220))] [] false, some (54, true), [], [], 0, 21⟩,
       ⟨some 57, .call (.f 39) [.c (.lit (.int .i64 240)), .c (.lit (.int .i64 260))] [] false, some (54, true), [], [], 0, 22⟩,
       ⟨some 58, .lits 2 [.lit (.int .i64 0), .lit (.int .i64 0)] 2 [(0, .t 56), (1, .t 57)] none, some (54, true), [], [], 0, 23⟩,
       ⟨some 59, .call (.f 23) [.t 55, .t 58] [] false, some (54, true), [], [], 0, 24⟩,
       q 25 60 (.pick (.t 54) (.t 59) (.c (.lit (.bool false)))),
       q 26 61 (.mv (.t 60)),
       ⟨some 62, .mv (.t 6), some (61, true), [], [], 0, 27⟩,
       ⟨some 63, .bin .eql (.t 62) (.c (.lit (.int .i64 1))), some (61, true), [], [], 0, 28⟩,
       q 29 64 (.pick (.t 61) (.t 63) (.c (.lit (.bool false)))),
       q 30 65 (.mv (.t 64)),
       ⟨some 66, .mv (.t 8), some (65, true), [], [], 0, 31⟩,
       ⟨some 67, .call (.f 39) [.c (.lit (.int .i64 170)), .c (.lit (.int .i64 170))] [] false, some (65, true), [], [], 0, 32⟩,
       ⟨some 68, .call (.f 39) [.c (.lit (.int .i64 220)), .c (.lit (.int .i64 240))] [] false, some (65, true), [], [], 0, 33⟩,
       ⟨some 69, .lits 2 [.lit (.int .i64 0), .lit (.int .i64 0)] 2 [(0, .t 67), (1, .t 68)] none, some (65, true), [], [], 0, 34⟩,
       ⟨some 70, .call (.f 23) [.t 66, .t 69] [] false, some (65, true), [], [], 0, 35⟩,
       q 36 71 (.pick (.t 65) (.t 70) (.c (.lit (.bool false)))),
       q 37 72 (.mv (.t 71)),
       ⟨some 73, .call (.f 26) [] [] false, some (72, true), [], [], 0, 38⟩,
       q 39 74 (.pick (.t 72) (.t 73) (.c (.lit (.bool false)))),
       q 40 0 (.mv (.t 74))]
      [0])
        .ret)))))))
def a7 : AFunc := ⟨0, c7, [.tmp 0]⟩
/-- ceroplast/van.Check -/
def c16 : ACode :=
 (.seq
  (.region false 1 []
      [q 0 1 (.box 5 (.t 0) 0),
       q 1 2 (.mv (.c (.lit (.int .i64 0)))),
       q 2 3 (.mv (.c (.lit (.int .i64 0)))),
       q 3 4 (.mv (.c (.lit (.int .i64 0))))]
      [1])
  (.seq
   (.seq
    (.region false 0 []
      [q 0 9 (.fieldAddr 1 (.t 1)),
       q 1 10 (.load none (.t 9)),
       q 2 11 (.lits 1 [.lit (.int .i64 0)] 1 [(0, .t 10)] none),
       q 3 12 (.call (.f 56) [.c (.lit (.int .i64 1)), .c (.lit (.int .i64 3)), .t 11] [] false),
       q 4 13 (.mv (.t 12)),
       ⟨some 14, .fieldAddr 2 (.t 1), some (13, false), [], [], 0, 5⟩,
       ⟨some 15, .load none (.t 14), some (13, false), [], [], 0, 6⟩,
       ⟨some 16, .lits 1 [.lit (.int .i64 0)] 1 [(0, .t 15)] none, some (13, false), [], [], 0, 7⟩,
       ⟨some 17, .call (.f 56) [.c (.lit (.int .i64 0)), .c (.lit (.int .i64 60)), .t 16] [] false, some (13, false), [], [], 0, 8⟩,
       q 9 18 (.pick (.t 13) (.c (.lit (.bool true))) (.t 17))]
      [1, 18])
    (.cond (.t 18)
     (.seq
      (.region false 0 []
      [q 0 2 (.mv (.c (.lit (.int .i64 1)))),
       q 1 3 (.mv (.c (.lit (.int .i64 0)))),
       q 2 4 (.mv (.c (.lit (.int .i64 7))))]
      [2, 3, 4])
      .ret)
     .skip))
   (.seq
    (.region false 1 []
      [q 0 19 (.load (some 5) (.t 1)),
       q 1 20 (.build [.nils 4, .lit (.int .i64 0), .lit (.int .i64 0), .nils 4, .nils 2, .lit (.map none)] [(0, 5, .t 19)]),
       q 2 21 (.box 6 (.t 20) 0),
       q 3 5 (.mv (.t 21))]
      [1, 5])
    (.seq
     (.seq
      (.region false 0 []
      [q 0 22 (.fieldAddr 0 (.t 1)),
       q 1 23 (.load none (.t 22)),
       q 2 24 (.lenL (.t 23)),
       q 3 25 (.mv (.t 5)),
       q 4 26 (.mkfn (.func 57) [.t 25] []),
       q 5 27 (.build [.lit (.int .i64 0), .lit (.int .i64 0), .lit (.int .i64 0), .lit (.int .i64 0), .lit .nilFunc] [(0, 1, .c (.lit (.int .i64 2))), (1, 1, .c (.lit (.int .i64 1))), (2, 1, .c (.lit (.int .i64 3))), (3, 1, .t 24), (4, 1, .t 26)]),
       q 6 28 (.fieldAddr 3 (.t 1)),
       q 7 29 (.load none (.t 28)),
       q 8 30 (.lenL (.t 29)),
       q 9 31 (.mv (.t 5)),
       q 10 32 (.mkfn (.func 58) [.t 31] []),
       q 11 33 (.build [.lit (.int .i64 0), .lit (.int .i64 0), .lit (.int .i64 0), .lit (.int .i64 0), .lit .nilFunc] [(0, 1, .c (.lit (.int .i64 3))), (1, 1, .c (.lit (.int .i64 0))), (2, 1, .c (.lit (.int .i64 6))), (3, 1, .t 30), (4, 1, .t 32)]),
       q 12 34 (.fieldAddr 4 (.t 1)),
       q 13 35 (.load none (.t 34)),
       q 14 36 (.lenL (.t 35)),
       q 15 37 (.mv (.t 5)),
       q 16 38 (.mkfn (.func 59) [.t 37] []),
       q 17 39 (.build [.lit (.int .i64 0), .lit (.int .i64 0), .lit (.int .i64 0), .lit (.int .i64 0), .lit .nilFunc] [(0, 1, .c (.lit (.int .i64 4))), (1, 1, .c (.lit (.int .i64 0))), (2, 1, .c (.lit (.int .i64 4))), (3, 1, .t 36), (4, 1, .t 38)]),
       q 18 40 (.xlits 5 [.lit (.int .i64 0), .lit (.int .i64 0), .lit (.int .i64 0), .lit (.int .i64 0), .lit .nilFunc] 3 [(0, .t 27), (1, .t 33), (2, .t 39)]),
       q 19 41 (.lenL (.t 40)),
       q 20 42 (.mv (.c (.lit (.int .i64 0))))]
      [40, 41, 42])
      (.block 0
       (.loop true [40, 41, 42]
        (.seq
         (.region false 0 []
      [q 0 43 (.bin .lss (.t 42) (.t 41))]
      [40, 41, 42, 43])
         (.seq
          (.cond (.t 43)
           .skip
           (.exit 0))
          (.seq
           (.block 1
            (.seq
             (.region false 1 []
      [q 0 44 (.idxS 5 (.t 40) (.t 42)),
       q 1 45 (.load (some 5) (.t 44)),
       q 2 7 (.alloc [.lit (.int .i64 0), .lit (.int .i64 0), .lit (.int .i64 0), .lit (.int .i64 0), .lit .nilFunc] [] 0),
       r 3 (.store 5 (.t 7) (.t 45))]
      [7, 40, 41, 42])
             (.seq
              (.seq
               (.region false 0 []
      [q 0 46 (.fieldAddr 1 (.t 7)),
       q 1 47 (.load none (.t 46)),
       q 2 48 (.fieldAddr 2 (.t 7)),
       q 3 49 (.load none (.t 48)),
       q 4 50 (.fieldAddr 3 (.t 7)),
       q 5 51 (.load none (.t 50)),
       q 6 52 (.lits 1 [.lit (.int .i64 0)] 1 [(0, .t 51)] none),
       q 7 53 (.call (.f 56) [.t 47, .t 49, .t 52] [] false)]
      [7, 40, 41, 42, 53])
               (.cond (.t 53)
                (.seq
                 (.region false 0 []
      [q 0 54 (.fieldAddr 0 (.t 7)),
       q 1 55 (.load none (.t 54)),
       q 2 2 (.mv (.t 55)),
       q 3 3 (.mv (.c (.lit (.int .i64 0)))),
       q 4 4 (.mv (.c (.lit (.int .i64 3))))]
      [2, 3, 4])
                 .ret)
                .skip))
              (.seq
               (.region false 0 []
      [q 0 56 (.fieldAddr 3 (.t 7)),
       q 1 57 (.load none (.t 56)),
       q 2 58 (.mv (.c (.lit (.int .i64 0))))]
      [7, 40, 41, 42, 57, 58])
               (.block 2
                (.loop true [7, 40, 41, 42, 57, 58]
                 (.seq
                  (.region false 0 []
      [q 0 59 (.bin .lss (.t 58) (.t 57))]
      [7, 40, 41, 42, 57, 58, 59])
                  (.seq
                   (.cond (.t 59)
                    .skip
                    (.exit 2))
                   (.seq
                    (.block 3
                     (.seq
                      (.region false 0 []
      [q 0 60 (.mv (.t 58)),
       q 1 8 (.mv (.t 60))]
      [7, 8, 40, 41, 42, 57, 58])
                      (.seq
                       (.region false 0 []
      [q 0 61 (.fieldAddr 4 (.t 7)),
       q 1 62 (.load none (.t 61)),
       q 2 63 (.mv (.t 8)),
       q 3 64 (.call (.t 62) [.t 63] [] false),
       q 4 4 (.mv (.t 64))]
      [4, 7, 8, 40, 41, 42, 57, 58])
                       (.seq
                        (.region false 0 []
      [q 0 65 (.mv (.t 4)),
       q 1 66 (.bin .neq (.t 65) (.c (.lit (.int .i64 0))))]
      [4, 7, 8, 40, 41, 42, 57, 58, 66])
                        (.cond (.t 66)
                         (.seq
                          (.region false 0 []
      [q 0 67 (.fieldAddr 0 (.t 7)),
       q 1 68 (.load none (.t 67)),
       q 2 69 (.mv (.t 8)),
       q 3 70 (.mv (.t 4)),
       q 4 2 (.mv (.t 68)),
       q 5 3 (.mv (.t 69)),
       q 6 4 (.mv (.t 70))]
      [2, 3, 4])
                          .ret)
                         .skip)))))
                    (.region false 0 []
      [q 0 71 (.bin .add (.t 58) (.c (.lit (.int .i64 1)))),
       q 1 58 (.mv (.t 71))]
      [7, 40, 41, 42, 57, 58]))))))))))
           (.region false 0 []
      [q 0 72 (.bin .add (.t 42) (.c (.lit (.int .i64 1)))),
       q 1 42 (.mv (.t 72))]
      [40, 41, 42])))))))
     (.seq
      (.region false 0 []
      [q 0 2 (.mv (.c (.lit (.int .i64 0)))),
       q 1 3 (.mv (.c (.lit (.int .i64 0)))),
       q 2 4 (.mv (.c (.lit (.int .i64 0))))]
      [2, 3, 4])
      .ret)))))
def a16 : AFunc := ⟨1, c16, [.tmp 2, .tmp 3, .tmp 4]⟩
/-- ceroplast/van.Twice -/
def c18 : ACode :=
 (.seq
  (.region false 1 []
      [q 0 3 (.box 5 (.t 0) 0),
       q 1 6 (.mv (.c (.nils 1))),
       q 2 7 (.mv (.c (.lit (.int .i64 0))))]
      [1, 2, 3])
  (.seq
   (.region false 1 []
      [q 0 12 (.load (some 5) (.t 3)),
       q 1 13 (.mv (.t 1)),
       q 2 14 (.call (.f 64) [.t 12, .t 13] [] false),
       q 3 11 (.mv (.t 14)),
       q 4 15 (.extract (.t 11) 0),
       q 5 16 (.extract (.t 11) 1),
       q 6 17 (.extract (.t 11) 2),
       q 7 9 (.alloc [.lit (.int .i64 0), .lit (.int .i64 0), .lit (.int .i64 0), .lit (.int .i64 0), .lit (.int .i64 0), .lit (.int .i64 0)] [] 0),
       q 8 8 (.mv (.t 15)),
       r 9 (.store 6 (.t 9) (.t 16)),
       q 10 10 (.mv (.t 17))]
      [2, 3, 8, 9, 10])
   (.seq
    (.block 0
     (.seq
      (.region false 0 []
      [q 0 19 (.mv (.t 10)),
       q 1 20 (.bin .neq (.t 19) (.c (.lit (.int .i64 0)))),
       q 2 18 (.mv (.t 20))]
      [2, 3, 8, 9, 10, 18])
      (.cond (.t 18)
       (.seq
        (.region false 0 []
      [q 0 21 (.mv (.t 10)),
       q 1 6 (.mv (.c (.nils 1))),
       q 2 7 (.mv (.t 21))]
      [6, 7])
        .ret)
       (.seq
        (.region false 0 []
      [q 0 23 (.fieldAddr 0 (.t 3)),
       q 1 24 (.load none (.t 23)),
       q 2 25 (.lenL (.t 24)),
       q 3 26 (.bin .sub (.t 25) (.c (.lit (.int .i64 1)))),
       q 4 27 (.mv (.t 2)),
       q 5 28 (.lits 1 [.lit (.int .i64 0)] 1 [(0, .t 27)] none),
       q 6 29 (.call (.f 56) [.c (.lit (.int .i64 0)), .t 26, .t 28] [] false),
       q 7 22 (.mv (.t 29))]
      [2, 8, 9, 22])
        (.cond (.t 22)
         (.seq
          (.region false 0 []
      [q 0 6 (.mv (.c (.nils 1))),
       q 1 7 (.mv (.c (.lit (.int .i64 4))))]
      [6, 7])
          .ret)
         .skip)))))
    (.seq
     (.region false 0 []
      [q 0 30 (.mv (.t 8)),
       q 1 31 (.load (some 6) (.t 9)),
       q 2 32 (.mv (.t 2)),
       q 3 33 (.call (.f 65) [.t 30, .t 31, .t 32] [] false),
       q 4 6 (.mv (.t 33)),
       q 5 7 (.mv (.c (.lit (.int .i64 0))))]
      [6, 7])
     .ret))))
def a18 : AFunc := ⟨3, c18, [.tmp 6, .tmp 7]⟩
/-- ceroplast/ceroplastref01.Ints -/
def c20 : ACode :=
 (.seq
  (.region false 0 []
      [q 0 4 (.mv (.c (.lit (.bool false))))]
      [0, 1])
  (.seq
   (.region false 0 []
      [q 0 7 (.mv (.t 0)),
       q 1 8 (.lenL (.t 7)),
       q 2 9 (.mv (.t 1)),
       q 3 10 (.lenL (.t 9)),
       q 4 11 (.bin .eql (.t 8) (.t 10)),
       q 5 5 (.mv (.t 11))]
      [0, 1, 5])
   (.seq
    (.seq
     (.region false 0 []
      [q 0 6 (.mv (.c (.lit (.int .i64 0))))]
      [0, 1, 5, 6])
     (.block 0
      (.loop true [0, 1, 5, 6]
       (.seq
        (.seq
         (.region false 0 []
      [q 0 12 (.mv (.t 5)),
       q 1 13 (.mv (.t 12)),
       ⟨some 14, .mv (.t 6), some (13, true), [], [], 0, 2⟩,
       ⟨some 15, .mv (.t 0), some (13, true), [], [], 0, 3⟩,
       ⟨some 16, .lenL (.t 15), some (13, true), [], [], 0, 4⟩,
       ⟨some 17, .bin .lss (.t 14) (.t 16), some (13, true), [], [], 0, 5⟩,
       q 6 18 (.pick (.t 13) (.t 17) (.c (.lit (.bool false))))]
      [0, 1, 5, 6, 18])
         (.cond (.t 18)
          .skip
          (.exit 0)))
        (.seq
         (.block 1
          (.region true 0 []
      [q 0 21 (.mv (.t 0)),
       q 1 22 (.mv (.t 6)),
       q 2 23 (.idxS 1 (.t 21) (.t 22)),
       q 3 24 (.load none (.t 23)),
       q 4 25 (.mv (.t 1)),
       q 5 26 (.mv (.t 6)),
       q 6 27 (.idxS 1 (.t 25) (.t 26)),
       q 7 28 (.load none (.t 27)),
       q 8 29 (.bin .eql (.t 24) (.t 28)),
       q 9 5 (.mv (.t 29))]
      [0, 1, 5, 6]))
         (.region false 0 []
      [q 0 19 (.mv (.t 6)),
       q 1 20 (.bin .add (.t 19) (.c (.lit (.int .i64 1)))),
       q 2 6 (.mv (.t 20))]
      [0, 1, 5, 6]))))))
    (.seq
     (.region false 0 []
      [q 0 30 (.mv (.t 5)),
       q 1 4 (.mv (.t 30))]
      [4])
     .ret))))
def a20 : AFunc := ⟨2, c20, [.tmp 4]⟩
/-- ceroplast/van.Times -/
def c21 : ACode :=
 (.seq
  (.region false 1 []
      [q 0 3 (.box 5 (.t 0) 0),
       q 1 6 (.mv (.c (.nils 2))),
       q 2 7 (.mv (.c (.lit (.int .i64 0))))]
      [1, 2, 3])
  (.seq
   (.region false 1 []
      [q 0 12 (.load (some 5) (.t 3)),
       q 1 13 (.mv (.t 1)),
       q 2 14 (.call (.f 64) [.t 12, .t 13] [] false),
       q 3 11 (.mv (.t 14)),
       q 4 15 (.extract (.t 11) 0),
       q 5 16 (.extract (.t 11) 1),
       q 6 17 (.extract (.t 11) 2),
       q 7 9 (.alloc [.lit (.int .i64 0), .lit (.int .i64 0), .lit (.int .i64 0), .lit (.int .i64 0), .lit (.int .i64 0), .lit (.int .i64 0)] [] 0),
       q 8 8 (.mv (.t 15)),
       r 9 (.store 6 (.t 9) (.t 16)),
       q 10 10 (.mv (.t 17))]
      [2, 3, 8, 9, 10])
   (.seq
    (.block 0
     (.seq
      (.region false 0 []
      [q 0 19 (.mv (.t 10)),
       q 1 20 (.bin .neq (.t 19) (.c (.lit (.int .i64 0)))),
       q 2 18 (.mv (.t 20))]
      [2, 3, 8, 9, 10, 18])
      (.cond (.t 18)
       (.seq
        (.region false 0 []
      [q 0 21 (.mv (.t 10)),
       q 1 6 (.mv (.c (.nils 2))),
       q 2 7 (.mv (.t 21))]
      [6, 7])
        .ret)
       (.seq
        (.region false 0 []
      [q 0 23 (.fieldAddr 0 (.t 3)),
       q 1 24 (.load none (.t 23)),
       q 2 25 (.lenL (.t 24)),
       q 3 26 (.bin .sub (.t 25) (.c (.lit (.int .i64 1)))),
       q 4 27 (.mv (.t 2)),
       q 5 28 (.lits 1 [.lit (.int .i64 0)] 1 [(0, .t 27)] none),
       q 6 29 (.call (.f 56) [.c (.lit (.int .i64 0)), .t 26, .t 28] [] false),
       q 7 22 (.mv (.t 29))]
      [2, 8, 9, 22])
        (.cond (.t 22)
         (.seq
          (.region false 0 []
      [q 0 6 (.mv (.c (.nils 2))),
       q 1 7 (.mv (.c (.lit (.int .i64 4))))]
      [6, 7])
          .ret)
         .skip)))))
    (.seq
     (.region false 0 []
      [q 0 30 (.mv (.t 8)),
       q 1 31 (.load (some 6) (.t 9)),
       q 2 32 (.mv (.t 2)),
       q 3 33 (.call (.f 68) [.t 30, .t 31, .t 32] [] false),
       q 4 6 (.mv (.t 33)),
       q 5 7 (.mv (.c (.lit (.int .i64 0))))]
      [6, 7])
     .ret))))
def a21 : AFunc := ⟨3, c21, [.tmp 6, .tmp 7]⟩
/-- ceroplast/ceroplastref01.Spans -/
def c23 : ACode :=
 (.seq
  (.region false 0 []
      [q 0 4 (.mv (.c (.lit (.bool false))))]
      [0, 1])
  (.seq
   (.region false 0 []
      [q 0 7 (.mv (.t 0)),
       q 1 8 (.lenL (.t 7)),
       q 2 9 (.mv (.t 1)),
       q 3 10 (.lenL (.t 9)),
       q 4 11 (.bin .eql (.t 8) (.t 10)),
       q 5 5 (.mv (.t 11))]
      [0, 1, 5])
   (.seq
    (.seq
     (.region false 0 []
      [q 0 6 (.mv (.c (.lit (.int .i64 0))))]
      [0, 1, 5, 6])
     (.block 0
      (.loop true [0, 1, 5, 6]
       (.seq
        (.seq
         (.region false 0 []
      [q 0 12 (.mv (.t 5)),
       q 1 13 (.mv (.t 12)),
       ⟨some 14, .mv (.t 6), some (13, true), [], [], 0, 2⟩,
       ⟨some 15, .mv (.t 0), some (13, true), [], [], 0, 3⟩,
       ⟨some 16, .lenL (.t 15), some (13, true), [], [], 0, 4⟩,
       ⟨some 17, .bin .lss (.t 14) (.t 16), some (13, true), [], [], 0, 5⟩,
       q 6 18 (.pick (.t 13) (.t 17) (.c (.lit (.bool false))))]
      [0, 1, 5, 6, 18])
         (.cond (.t 18)
          .skip
          (.exit 0)))
        (.seq
         (.block 1
          (.region true 0 []
      [q 0 21 (.mv (.t 0)),
       q 1 22 (.mv (.t 6)),
       q 2 23 (.idxS 2 (.t 21) (.t 22)),
       q 3 24 (.load (some 2) (.t 23)),
       q 4 25 (.mv (.t 1)),
       q 5 26 (.mv (.t 6)),
       q 6 27 (.idxS 2 (.t 25) (.t 26)),
       q 7 28 (.load (some 2) (.t 27)),
       q 8 29 (.cmp false [0, 0] (.t 24) (.t 28)),
       q 9 5 (.mv (.t 29))]
      [0, 1, 5, 6]))
         (.region false 0 []
      [q 0 19 (.mv (.t 6)),
       q 1 20 (.bin .add (.t 19) (.c (.lit (.int .i64 1)))),
       q 2 6 (.mv (.t 20))]
      [0, 1, 5, 6]))))))
    (.seq
     (.region false 0 []
      [q 0 30 (.mv (.t 5)),
       q 1 4 (.mv (.t 30))]
      [4])
     .ret))))
def a23 : AFunc := ⟨2, c23, [.tmp 4]⟩
/-- ceroplast/van.Arrives -/
def c24 : ACode :=
 (.seq
  (.region false 1 []
      [q 0 3 (.box 5 (.t 0) 0),
       q 1 6 (.mv (.c (.lit (.int .i64 0)))),
       q 2 7 (.mv (.c (.lit (.int .i64 0))))]
      [1, 2, 3])
  (.seq
   (.region false 1 []
      [q 0 12 (.load (some 5) (.t 3)),
       q 1 13 (.mv (.t 1)),
       q 2 14 (.call (.f 64) [.t 12, .t 13] [] false),
       q 3 11 (.mv (.t 14)),
       q 4 15 (.extract (.t 11) 0),
       q 5 16 (.extract (.t 11) 1),
       q 6 17 (.extract (.t 11) 2),
       q 7 9 (.alloc [.lit (.int .i64 0), .lit (.int .i64 0), .lit (.int .i64 0), .lit (.int .i64 0), .lit (.int .i64 0), .lit (.int .i64 0)] [] 0),
       q 8 8 (.mv (.t 15)),
       r 9 (.store 6 (.t 9) (.t 16)),
       q 10 10 (.mv (.t 17))]
      [2, 3, 8, 9, 10])
   (.seq
    (.block 0
     (.seq
      (.region false 0 []
      [q 0 19 (.mv (.t 10)),
       q 1 20 (.bin .neq (.t 19) (.c (.lit (.int .i64 0)))),
       q 2 18 (.mv (.t 20))]
      [2, 3, 8, 9, 10, 18])
      (.cond (.t 18)
       (.seq
        (.region false 0 []
      [q 0 21 (.mv (.t 10)),
       q 1 6 (.mv (.c (.lit (.int .i64 0)))),
       q 2 7 (.mv (.t 21))]
      [6, 7])
        .ret)
       (.seq
        (.region false 0 []
      [q 0 23 (.fieldAddr 3 (.t 3)),
       q 1 24 (.load none (.t 23)),
       q 2 25 (.lenL (.t 24)),
       q 3 26 (.bin .sub (.t 25) (.c (.lit (.int .i64 1)))),
       q 4 27 (.mv (.t 2)),
       q 5 28 (.lits 1 [.lit (.int .i64 0)] 1 [(0, .t 27)] none),
       q 6 29 (.call (.f 56) [.c (.lit (.int .i64 0)), .t 26, .t 28] [] false),
       q 7 22 (.mv (.t 29))]
      [2, 8, 9, 22])
        (.cond (.t 22)
         (.seq
          (.region false 0 []
      [q 0 6 (.mv (.c (.lit (.int .i64 0)))),
       q 1 7 (.mv (.c (.lit (.int .i64 4))))]
      [6, 7])
          .ret)
         .skip)))))
    (.seq
     (.region false 0 []
      [q 0 30 (.mv (.t 8)),
       q 1 31 (.load (some 6) (.t 9)),
       q 2 32 (.mv (.t 2)),
       q 3 33 (.call (.f 70) [.t 30, .t 31, .t 32] [] false),
       q 4 6 (.mv (.t 33)),
       q 5 7 (.mv (.c (.lit (.int .i64 0))))]
      [6, 7])
     .ret))))
def a24 : AFunc := ⟨3, c24, [.tmp 6, .tmp 7]⟩
/-- ceroplast/ceroplastlaw06.Awake -/
def c26 : ACode :=
 (.seq
  (.region false 0 []
      [q 0 0 (.mv (.c (.lit (.bool false))))]
      [])
  (.seq
   (.region false 1 []
      [q 0 26 (.call (.f 37) [] [] false),
       q 1 1 (.alloc [.nils 4, .lit (.int .i64 0), .lit (.int .i64 0), .nils 4, .nils 2] [] 0),
       r 2 (.store 5 (.t 1) (.t 26))]
      [1])
   (.seq
    (.region true 0 []
      [q 0 28 (.load (some 5) (.t 1)),
       q 1 29 (.call (.f 38) [] [] true),
       q 2 30 (.call (.f 18) [.t 28, .t 29, .c (.lit (.int .i64 0))] [] false),
       q 3 27 (.mv (.t 30)),
       q 4 31 (.extract (.t 27) 0),
       q 5 32 (.extract (.t 27) 1),
       q 6 2 (.mv (.t 31)),
       q 7 3 (.mv (.t 32))]
      [1, 2, 3])
    (.seq
     (.region true 0 []
      [q 0 34 (.load (some 5) (.t 1)),
       q 1 35 (.call (.f 38) [] [] true),
       q 2 36 (.call (.f 21) [.t 34, .t 35, .c (.lit (.int .i64 0))] [] false),
       q 3 33 (.mv (.t 36)),
       q 4 37 (.extract (.t 33) 0),
       q 5 38 (.extract (.t 33) 1),
       q 6 4 (.mv (.t 37)),
       q 7 5 (.mv (.t 38))]
      [1, 2, 3, 4, 5])
     (.seq
      (.region true 0 []
      [q 0 40 (.load (some 5) (.t 1)),
       q 1 41 (.call (.f 38) [] [] true),
       q 2 42 (.call (.f 24) [.t 40, .t 41, .c (.lit (.int .i64 0))] [] false),
       q 3 39 (.mv (.t 42)),
       q 4 43 (.extract (.t 39) 0),
       q 5 44 (.extract (.t 39) 1),
       q 6 6 (.mv (.t 43)),
       q 7 7 (.mv (.t 44))]
      [1, 2, 3, 4, 5, 6, 7])
      (.seq
       (.region true 0 []
      [q 0 46 (.load (some 5) (.t 1)),
       q 1 47 (.call (.f 38) [] [] true),
       q 2 48 (.call (.f 24) [.t 46, .t 47, .c (.lit (.int .i64 3))] [] false),
       q 3 45 (.mv (.t 48)),
       q 4 49 (.extract (.t 45) 0),
       q 5 50 (.extract (.t 45) 1),
       q 6 8 (.mv (.t 49)),
       q 7 9 (.mv (.t 50))]
      [1, 2, 3, 4, 5, 6, 7, 8, 9])
       (.seq
        (.region true 0 []
      [q 0 52 (.load (some 5) (.t 1)),
       q 1 53 (.call (.f 38) [] [] true),
       q 2 54 (.call (.f 27) [.t 52, .t 53, .c (.lit (.int .i64 0)), .c (.lit (.int .i64 1)), .c (.lit (.int .i64 222))] [] false),
       q 3 51 (.mv (.t 54)),
       q 4 55 (.extract (.t 51) 0),
       q 5 56 (.extract (.t 51) 1),
       q 6 10 (.mv (.t 55)),
       q 7 11 (.mv (.t 56))]
      [1, 2, 3, 4, 5, 6, 7, 8, 9, 10, 11])
        (.seq
         (.region false 0 []
      [q 0 58 (.load (some 5) (.t 1)),
       q 1 59 (.call (.f 29) [.t 58] [] false),
       q 2 57 (.mv (.t 59)),
       q 3 60 (.extract (.t 57) 0),
       q 4 61 (.extract (.t 57) 1),
       q 5 62 (.extract (.t 57) 2),
       q 6 63 (.extract (.t 57) 3),
       q 7 12 (.mv (.t 60)),
       q 8 13 (.mv (.t 61)),
       q 9 14 (.mv (.t 62)),
       q 10 15 (.mv (.t 63))]
      [1, 2, 3, 4, 5, 6, 7, 8, 9, 10, 11, 12, 13, 14, 15])
         (.seq
          (.region false 0 []
      [q 0 65 (.load (some 5) (.t 1)),
       q 1 66 (.call (.f 31) [.t 65] [] false),
       q 2 64 (.mv (.t 66)),
       q 3 67 (.extract (.t 64) 0),
       q 4 68 (.extract (.t 64) 1),
       q 5 16 (.mv (.t 67)),
       q 6 17 (.mv (.t 68))]
      [1, 2, 3, 4, 5, 6, 7, 8, 9, 10, 11, 12, 13, 14, 15, 16, 17])
          (.seq
           (.region false 0 []
      [q 0 70 (.call (.f 72) [] [] false),
       q 1 71 (.call (.f 33) [.t 70] [] false),
       q 2 69 (.mv (.t 71)),
       q 3 72 (.extract (.t 69) 0),
       q 4 73 (.extract (.t 69) 1),
       q 5 18 (.mv (.t 72)),
       q 6 19 (.mv (.t 73))]
      [1, 2, 3, 4, 5, 6, 7, 8, 9, 10, 11, 12, 13, 14, 15, 16, 17, 18, 19])
           (.seq
            (.region false 0 []
      [q 0 75 (.load (some 5) (.t 1)),
       q 1 76 (.call (.f 33) [.t 75] [] false),
       q 2 74 (.mv (.t 76)),
       q 3 77 (.extract (.t 74) 0),
       q 4 78 (.extract (.t 74) 1),
       q 5 20 (.mv (.t 77)),
       q 6 21 (.mv (.t 78))]
      [1, 2, 3, 4, 5, 6, 7, 8, 9, 10, 11, 12, 13, 14, 15, 16, 17, 18, 19, 21])
            (.seq
             (.region false 0 []
      [q 0 80 (.load (some 5) (.t 1)),
       q 1 81 (.call (.f 35) [.t 80] [] false),
       q 2 79 (.mv (.t 81)),
       q 3 82 (.extract (.t 79) 0),
       q 4 83 (.extract (.t 79) 1),
       q 5 22 (.mv (.t 82)),
       q 6 23 (.mv (.t 83))]
      [1, 2, 3, 4, 5, 6, 7, 8, 9, 10, 11, 12, 13, 14, 15, 16, 17, 18, 19, 21, 22, 23])
             (.seq
              (.region false 0 []
      [q 0 85 (.load (some 5) (.t 1)),
       q 1 86 (.mv (.t 12)),
       q 2 87 (.call (.f 24) [.t 85, .t 86, .c (.lit (.int .i64 0))] [] false),
       q 3 84 (.mv (.t 87)),
       q 4 88 (.extract (.t 84) 0),
       q 5 89 (.extract (.t 84) 1),
       q 6 24 (.mv (.t 88)),
       q 7 25 (.mv (.t 89))]
      [2, 3, 4, 5, 6, 7, 8, 9, 10, 11, 12, 13, 14, 15, 16, 17, 18, 19, 21, 22, 23, 24, 25])
              (.seq
               (.region false 0 []
      [q 0 90 (.mv (.t 3)),
       q 1 91 (.bin .eql (.t 90) (.c (.lit (.int .i64 0)))),
       q 2 92 (.mv (.t 91)),
       ⟨some 93, .mv (.t 5), some (92, true), [], [], 0, 3⟩,
       ⟨some 94, .bin .eql (.t 93) (.c (.lit (.int .i64 0))), some (92, true), [], [], 0, 4⟩,
       q 5 95 (.pick (.t 92) (.t 94) (.c (.lit (.bool false)))),
       q 6 96 (.mv (.t 95)),
       ⟨some 97, .mv (.t 7), some (96, true), [], [], 0, 7⟩,
       ⟨some 98, .bin .eql (.t 97) (.c (.lit (.int .i64 0))), some (96, true), [], [], 0, 8⟩,
       q 9 99 (.pick (.t 96) (.t 98) (.c (.lit (.bool false)))),
       q 10 100 (.mv (.t 99)),
       ⟨some 101, .mv (.t 9), some (100, true), [], [], 0, 11⟩,
       ⟨some 102, .bin .eql (.t 101) (.c (.lit (.int .i64 0))), some (100, true), [], [], 0, 12⟩,
       q 13 103 (.pick (.t 100) (.t 102) (.c (.lit (.bool false)))),
       q 14 104 (.mv (.t 103)),
       ⟨some 105, .mv (.t 11), some (104, true), [], [], 0, 15⟩,
       ⟨some 106, .bin .eql (.t 105) (.c (.lit (.int .i64 0))), some (104, true), [], [], 0, 16⟩,
       q 17 107 (.pick (.t 104) (.t 106) (.c (.lit (.bool false)))),
       q 18 108 (.mv (.t 107)),
       ⟨some 109, .mv (.t 15), some (108, true), [], [], 0, 19⟩,
       ⟨some 110, .bin .eql (.t 109) (.c (.lit (.int .i64 0))), some (108, true), [], [], 0, 20⟩,
       q 21 111 (.pick (.t 108) (.t 110) (.c (.lit (.bool false)))),
       q 22 112 (.mv (.t 111)),
       ⟨some 113, .mv (.t 17), some (112, true), [], [], 0, 23⟩,
       ⟨some 114, .bin .eql (.t 113) (.c (.lit (.int .i64 0))), some (112, true), [], [], 0, 24⟩,
       q 25 115 (.pick (.t 112) (.t 114) (.c (.lit (.bool false)))),
       q 26 116 (.mv (.t 115)),
       ⟨some 117, .mv (.t 19), some (116, true), [], [], 0, 27⟩,
       ⟨some 118, .bin .eql (.t 117) (.c (.lit (.int .i64 0))), some (116, true), [], [], 0, 28⟩,
       q 29 119 (.pick (.t 116) (.t 118) (.c (.lit (.bool false)))),
       q 30 120 (.mv (.t 119)),
       ⟨some 121, .mv (.t 21), some (120, true), [], [], 0, 31⟩,
       ⟨some 122, .bin .eql (.t 121) (.c (.lit (.int .i64 9))), some (120, true), [], [], 0, 32⟩,
       q 33 123 (.pick (.t 120) (.t 122) (.c (.lit (.bool false)))),
       q 34 124 (.mv (.t 123)),
       ⟨some 125, .mv (.t 23), some (124, true), [], [], 0, 35⟩,
       ⟨some 126, .bin .eql (.t 125) (.c (.lit (.int .i64 0))), some (124, true), [], [], 0, 36⟩,
       q 37 127 (.pick (.t 124) (.t 126) (.c (.lit (.bool false)))),
       q 38 128 (.mv (.t 127)),
       ⟨some 129, .mv (.t 2), some (128, true), [], [], 0, 39⟩,
       ⟨some 130, .lits 1 [.lit (.int .i64 0)] 2 [(0, .c (.lit (.int .i64 2))), (1, .c (.lit (.int .i64 0)))] none, some (128, true), [], [], 0, 40⟩,
       ⟨some 131, .call (.f 20) [.t 129, .t 130] [] false, some (128, true), [], [], 0, 41⟩,
       q 42 132 (.pick (.t 128) (.t 131) (.c (.lit (.bool false)))),
       q 43 133 (.mv (.t 132)),
       ⟨some 134, .mv (.t 4), some (133, true), [], [], 0, 44⟩,
       ⟨some 135, .call (.f 39) [.c (.lit (.int .i64 160)), .c (.lit (.int .i64 180))] [] false, some (133, true), [], [], 0, 45⟩,
       ⟨some 136, .call (.f 39) [.c (.lit (.int .i64 210)), .c (.lit (.int .i64 250))] [] false, some (133, true), [], [], 0, 46⟩,
       ⟨some 137, .lits 2 [.lit (.int .i64 0), .lit (.int .i64 0)] 2 [(0, .t 135), (1, .t 136)] none, some (133, true), [], [], 0, 47⟩,
       ⟨some 138, .call (.f 23) [.t 134, .t 137] [] false, some (133, true), [], [], 0, 48⟩,
       q 49 139 (.pick (.t 133) (.t 138) (.c (.lit (.bool false)))),
       q 50 140 (.mv (.t 139)),
       ⟨some 141, .mv (.t 6), some (140, true), [], [], 0, 51⟩,
       ⟨some 142, .bin .eql (.t 141) (.c (.lit (.int .i64 1))), some (140, true), [], [], 0, 52⟩,
       q 53 143 (.pick (.t 140) (.t 142) (.c (.lit (.bool false)))),
       q 54 144 (.mv (.t 143)),
       ⟨some 145, .mv (.t 8), some (144, true), [], [], 0, 55⟩,
       ⟨some 146, .bin .eql (.t 145) (.c (.lit (.int .i64 0))), some (144, true), [], [], 0, 56⟩,
       q 57 147 (.pick (.t 144) (.t 146) (.c (.lit (.bool false)))),
       q 58 148 (.mv (.t 147)),
       ⟨some 149, .mv (.t 10), some (148, true), [], [], 0, 59⟩,
       ⟨some 150, .call (.f 39) [.c (.lit (.int .i64 160)), .c (.lit (.int .i64 172))] [] false, some (148, true), [], [], 0, 60⟩,
       ⟨some 151, .call (.f 39) [.c (.lit (.int .i64 222)), .c (.lit (.int .i64 222))] [] false, some (148, true), [], [], 0, 61⟩,
       ⟨some 152, .lits 2 [.lit (.int .i64 0), .lit (.int .i64 0)] 2 [(0, .t 150), (1, .t 151)] none, some (148, true), [], [], 0, 62⟩,
       ⟨some 153, .call (.f 23) [.t 149, .t 152] [] false, some (148, true), [], [], 0, 63⟩,
       q 64 154 (.pick (.t 148) (.t 153) (.c (.lit (.bool false)))),
       q 65 155 (.mv (.t 154)),
       ⟨some 156, .mv (.t 12), some (155, true), [], [], 0, 66⟩,
       ⟨some 157, .lits 1 [.lit (.int .i64 0)] 4 [(0, .c (.lit (.int .i64 (-1)))), (1, .c (.lit (.int .i64 0))), (2, .c (.lit (.int .i64 1))), (3, .c (.lit (.int .i64 0)))] none, some (155, true), [], [], 0, 67⟩,
       ⟨some 158, .call (.f 20) [.t 156, .t 157] [] false, some (155, true), [], [], 0, 68⟩,
       q 69 159 (.pick (.t 155) (.t 158) (.c (.lit (.bool false)))),
       q 70 160 (.mv (.t 159)),
       ⟨some 161, .mv (.t 13), some (160, true), [], [], 0, 71⟩,
       ⟨some 162, .bin .eql (.t 161) (.c (.lit (.int .i64 3))), some (160, true), [], [], 0, 72⟩,
       q 73 163 (.pick (.t 160) (.t 162) (.c (.lit (.bool false)))),
       q 74 164 (.mv (.t 163)),
       ⟨some 165, .mv (.t 14), some (164, true), [], [], 0, 75⟩,
       ⟨some 166, .bin .eql (.t 165) (.c (.lit (.int .i64 0))), some (164, true), [], [], 0, 76⟩,
       q 77 167 (.pick (.t 164) (.t 166) (.c (.lit (.bool false)))),
       q 78 168 (.mv (.t 167)),
       ⟨some 169, .mv (.t 16), some (168, true), [], [], 0, 79⟩,
       ⟨some 170, .lenL (.t 169), some (168, true), [], [], 0, 80⟩,
       ⟨some 171, .bin .eql (.t 170) (.c (.lit (.int .i64 0))), some (168, true), [], [], 0, 81⟩,
       q 82 172 (.pick (.t 168) (.t 171) (.c (.lit (.bool false)))),
       q 83 173 (.mv (.t 172)),
       ⟨some 174, .mv (.t 18), some (173, true), [], [], 0, 84⟩,
       ⟨some 175, .lits 1 [.lit (.int .i64 0)] 1 [(0, .c (.lit (.int .i64 0)))] none, some (173, true), [], [], 0, 85⟩,
       ⟨some 176, .call (.f 20) [.t 174, .t 175] [] false, some (173, true), [], [], 0, 86⟩,
       q 87 177 (.pick (.t 173) (.t 176) (.c (.lit (.bool false)))),
       q 88 178 (.mv (.t 177)),
       ⟨some 179, .mv (.t 22), some (178, true), [], [], 0, 89⟩,
       ⟨some 180, .bin .eql (.t 179) (.c (.lit (.int .i64 10))), some (178, true), [], [], 0, 90⟩,
       q 91 181 (.pick (.t 178) (.t 180) (.c (.lit (.bool false)))),
       q 92 182 (.mv (.t 181)),
       ⟨some 183, .mv (.t 25), some (182, true), [], [], 0, 93⟩,
       ⟨some 184, .bin .eql (.t 183) (.c (.lit (.int .i64 0))), some (182, true), [], [], 0, 94⟩,
       q 95 185 (.pick (.t 182) (.t 184) (.c (.lit (.bool false)))),
       q 96 186 (.mv (.t 185)),
       ⟨some 187, .mv (.t 24), some (186, true), [], [], 0, 97⟩,
       ⟨some 188, .bin .eql (.t 187) (.c (.lit (.int .i64 2))), some (186, true), [], [], 0, 98⟩,
       q 99 189 (.pick (.t 186) (.t 188) (.c (.lit (.bool false)))),
       q 100 0 (.mv (.t 189))]
      [0])
               .ret))))))))))))))
def a26 : AFunc := ⟨0, c26, [.tmp 0]⟩
/-- ceroplast/van.Told -/
def c27 : ACode :=
 (.seq
  (.region false 1 []
      [q 0 5 (.box 5 (.t 0) 0),
       q 1 10 (.mv (.c (.nils 2))),
       q 2 11 (.mv (.c (.lit (.int .i64 0))))]
      [1, 2, 3, 4, 5])
  (.seq
   (.region false 1 []
      [q 0 23 (.load (some 5) (.t 5)),
       q 1 24 (.mv (.t 1)),
       q 2 25 (.call (.f 64) [.t 23, .t 24] [] false),
       q 3 22 (.mv (.t 25)),
       q 4 26 (.extract (.t 22) 0),
       q 5 27 (.extract (.t 22) 1),
       q 6 28 (.extract (.t 22) 2),
       q 7 13 (.alloc [.lit (.int .i64 0), .lit (.int .i64 0), .lit (.int .i64 0), .lit (.int .i64 0), .lit (.int .i64 0), .lit (.int .i64 0)] [] 0),
       q 8 12 (.mv (.t 26)),
       r 9 (.store 6 (.t 13) (.t 27)),
       q 10 14 (.mv (.t 28))]
      [2, 3, 4, 5, 12, 13, 14])
   (.seq
    (.block 0
     (.seq
      (.region false 0 []
      [q 0 30 (.mv (.t 14)),
       q 1 31 (.bin .neq (.t 30) (.c (.lit (.int .i64 0)))),
       q 2 29 (.mv (.t 31))]
      [2, 3, 4, 5, 12, 13, 14, 29])
      (.cond (.t 29)
       (.seq
        (.region false 0 []
      [q 0 32 (.mv (.t 14)),
       q 1 10 (.mv (.c (.nils 2))),
       q 2 11 (.mv (.t 32))]
      [10, 11])
        .ret)
       (.seq
        (.region false 0 []
      [q 0 34 (.fieldAddr 0 (.t 5)),
       q 1 35 (.load none (.t 34)),
       q 2 36 (.lenL (.t 35)),
       q 3 37 (.bin .sub (.t 36) (.c (.lit (.int .i64 1)))),
       q 4 38 (.mv (.t 2)),
       q 5 39 (.lits 1 [.lit (.int .i64 0)] 1 [(0, .t 38)] none),
       q 6 40 (.call (.f 56) [.c (.lit (.int .i64 0)), .t 37, .t 39] [] false),
       q 7 41 (.mv (.t 40)),
       ⟨some 42, .fieldAddr 1 (.t 5), some (41, false), [], [], 0, 8⟩,
       ⟨some 43, .load none (.t 42), some (41, false), [], [], 0, 9⟩,
       ⟨some 44, .bin .sub (.t 43) (.c (.lit (.int .i64 1))), some (41, false), [], [], 0, 10⟩,
       ⟨some 45, .mv (.t 3), some (41, false), [], [], 0, 11⟩,
       ⟨some 46, .lits 1 [.lit (.int .i64 0)] 1 [(0, .t 45)] none, some (41, false), [], [], 0, 12⟩,
       ⟨some 47, .call (.f 56) [.c (.lit (.int .i64 0)), .t 44, .t 46] [] false, some (41, false), [], [], 0, 13⟩,
       q 14 48 (.pick (.t 41) (.c (.lit (.bool true))) (.t 47)),
       q 15 33 (.mv (.t 48))]
      [2, 3, 4, 5, 12, 13, 33])
        (.cond (.t 33)
         (.seq
          (.region false 0 []
      [q 0 10 (.mv (.c (.nils 2))),
       q 1 11 (.mv (.c (.lit (.int .i64 4))))]
      [10, 11])
          .ret)
         .skip)))))
    (.seq
     (.region false 1 []
      [q 0 49 (.mv (.t 12)),
       q 1 50 (.load (some 6) (.t 13)),
       q 2 51 (.mv (.t 2)),
       q 3 52 (.call (.f 68) [.t 49, .t 50, .t 51] [[(0, 0)]] false),
       q 4 15 (.mv (.t 52))]
      [2, 3, 4, 5, 12, 13, 15])
     (.seq
      (.seq
       (.region true 0 []
      [q 0 53 (.mv (.t 15)),
       q 1 54 (.mv (.t 3)),
       q 2 55 (.idxS 2 (.t 53) (.t 54)),
       q 3 56 (.fieldAddr 0 (.t 55)),
       q 4 57 (.load none (.t 56)),
       q 5 58 (.mv (.t 15)),
       q 6 59 (.mv (.t 3)),
       q 7 60 (.idxS 2 (.t 58) (.t 59)),
       q 8 61 (.fieldAddr 1 (.t 60)),
       q 9 62 (.load none (.t 61)),
       q 10 63 (.mv (.t 4)),
       q 11 64 (.lits 1 [.lit (.int .i64 0)] 1 [(0, .t 63)] none),
       q 12 65 (.call (.f 56) [.t 57, .t 62, .t 64] [] false)]
      [2, 3, 4, 5, 12, 13, 15, 65])
       (.cond (.t 65)
        (.seq
         (.region false 0 []
      [q 0 10 (.mv (.c (.nils 2))),
       q 1 11 (.mv (.c (.lit (.int .i64 8))))]
      [10, 11])
         .ret)
        .skip))
      (.seq
       (.region false 0 []
      [q 0 66 (.mv (.t 15)),
       q 1 67 (.mv (.t 3)),
       q 2 68 (.mv (.t 4)),
       q 3 69 (.mv (.t 4)),
       q 4 70 (.build [.lit (.int .i64 0), .lit (.int .i64 0)] [(0, 1, .t 68), (1, 1, .t 69)]),
       q 5 71 (.idxS 2 (.t 66) (.t 67)),
       r 6 (.store 2 (.t 71) (.t 70))]
      [2, 3, 5, 12, 13, 15])
       (.seq
        (.region true 0 []
      [q 0 72 (.mv (.t 12)),
       q 1 73 (.load (some 6) (.t 13)),
       q 2 74 (.mv (.t 2)),
       q 3 75 (.call (.f 65) [.t 72, .t 73, .t 74] [] true),
       q 4 76 (.mv (.t 12)),
       q 5 77 (.nilck (.t 76)),
       q 6 78 (.fieldAddr 0 (.t 77)),
       q 7 79 (.fieldAddr 0 (.t 78)),
       q 8 80 (.load none (.t 79)),
       q 9 81 (.mv (.t 2)),
       q 10 82 (.idxS 4 (.t 80) (.t 81)),
       q 11 83 (.fieldAddr 3 (.t 82)),
       q 12 84 (.load none (.t 83)),
       q 13 16 (.mv (.t 75)),
       q 14 17 (.mv (.t 84))]
      [3, 5, 15, 16, 17])
        (.seq
         (.seq
          (.region false 0 []
      [q 0 85 (.mv (.t 3)),
       q 1 86 (.bin .add (.t 85) (.c (.lit (.int .i64 1)))),
       q 2 18 (.mv (.t 86))]
      [3, 5, 15, 16, 17, 18])
          (.block 1
           (.loop true [3, 5, 15, 16, 17, 18]
            (.seq
             (.seq
              (.region false 0 []
      [q 0 87 (.mv (.t 18)),
       q 1 88 (.fieldAddr 1 (.t 5)),
       q 2 89 (.load none (.t 88)),
       q 3 90 (.bin .lss (.t 87) (.t 89))]
      [3, 5, 15, 16, 17, 18, 90])
              (.cond (.t 90)
               .skip
               (.exit 1)))
             (.seq
              (.block 2
               (.seq
                (.region true 0 []
      [q 0 93 (.mv (.t 16)),
       q 1 94 (.mv (.t 18)),
       q 2 95 (.bin .sub (.t 94) (.c (.lit (.int .i64 1)))),
       q 3 96 (.idxS 1 (.t 93) (.t 95)),
       q 4 97 (.load none (.t 96)),
       q 5 98 (.fieldAddr 2 (.t 5)),
       q 6 99 (.load none (.t 98)),
       q 7 100 (.bin .mul (.t 97) (.t 99)),
       q 8 19 (.mv (.t 100))]
      [3, 5, 15, 16, 17, 18, 19])
                (.region true 0 []
      [q 0 101 (.mv (.t 15)),
       q 1 102 (.mv (.t 18)),
       q 2 103 (.mv (.t 15)),
       q 3 104 (.mv (.t 18)),
       q 4 105 (.bin .sub (.t 104) (.c (.lit (.int .i64 1)))),
       q 5 106 (.idxS 2 (.t 103) (.t 105)),
       q 6 107 (.fieldAddr 0 (.t 106)),
       q 7 108 (.load none (.t 107)),
       q 8 109 (.mv (.t 19)),
       q 9 110 (.bin .add (.t 108) (.t 109)),
       q 10 111 (.mv (.t 17)),
       q 11 112 (.mv (.t 18)),
       q 12 113 (.idxS 2 (.t 111) (.t 112)),
       q 13 114 (.fieldAddr 0 (.t 113)),
       q 14 115 (.load none (.t 114)),
       q 15 116 (.bin .add (.t 110) (.t 115)),
       q 16 117 (.mv (.t 15)),
       q 17 118 (.mv (.t 18)),
       q 18 119 (.bin .sub (.t 118) (.c (.lit (.int .i64 1)))),
       q 19 120 (.idxS 2 (.t 117) (.t 119)),
       q 20 121 (.fieldAddr 1 (.t 120)),
       q 21 122 (.load none (.t 121)),
       q 22 123 (.mv (.t 19)),
       q 23 124 (.bin .add (.t 122) (.t 123)),
       q 24 125 (.mv (.t 17)),
       q 25 126 (.mv (.t 18)),
       q 26 127 (.idxS 2 (.t 125) (.t 126)),
       q 27 128 (.fieldAddr 1 (.t 127)),
       q 28 129 (.load none (.t 128)),
       q 29 130 (.bin .add (.t 124) (.t 129)),
       q 30 131 (.build [.lit (.int .i64 0), .lit (.int .i64 0)] [(0, 1, .t 116), (1, 1, .t 130)]),
       q 31 132 (.idxS 2 (.t 101) (.t 102)),
       r 32 (.store 2 (.t 132) (.t 131))]
      [3, 5, 15, 16, 17, 18])))
              (.region false 0 []
      [q 0 91 (.mv (.t 18)),
       q 1 92 (.bin .add (.t 91) (.c (.lit (.int .i64 1)))),
       q 2 18 (.mv (.t 92))]
      [3, 5, 15, 16, 17, 18]))))))
         (.seq
          (.seq
           (.region false 0 []
      [q 0 133 (.mv (.t 3)),
       q 1 134 (.bin .sub (.t 133) (.c (.lit (.int .i64 1)))),
       q 2 20 (.mv (.t 134))]
      [5, 15, 16, 17, 20])
           (.block 3
            (.loop true [5, 15, 16, 17, 20]
             (.seq
              (.seq
               (.region false 0 []
      [q 0 135 (.mv (.t 20)),
       q 1 136 (.bin .geq (.t 135) (.c (.lit (.int .i64 0))))]
      [5, 15, 16, 17, 20, 136])
               (.cond (.t 136)
                .skip
                (.exit 3)))
              (.seq
               (.block 4
                (.seq
                 (.region true 0 []
      [q 0 139 (.mv (.t 16)),
       q 1 140 (.mv (.t 20)),
       q 2 141 (.idxS 1 (.t 139) (.t 140)),
       q 3 142 (.load none (.t 141)),
       q 4 143 (.fieldAddr 2 (.t 5)),
       q 5 144 (.load none (.t 143)),
       q 6 145 (.bin .mul (.t 142) (.t 144)),
       q 7 21 (.mv (.t 145))]
      [5, 15, 16, 17, 20, 21])
                 (.region true 0 []
      [q 0 146 (.mv (.t 15)),
       q 1 147 (.mv (.t 20)),
       q 2 148 (.mv (.t 15)),
       q 3 149 (.mv (.t 20)),
       q 4 150 (.idxS 2 (.t 148) (.t 149)),
       q 5 151 (.fieldAddr 0 (.t 150)),
       q 6 152 (.load none (.t 151)),
       q 7 153 (.mv (.t 15)),
       q 8 154 (.mv (.t 20)),
       q 9 155 (.bin .add (.t 154) (.c (.lit (.int .i64 1)))),
       q 10 156 (.idxS 2 (.t 153) (.t 155)),
       q 11 157 (.fieldAddr 0 (.t 156)),
       q 12 158 (.load none (.t 157)),
       q 13 159 (.mv (.t 21)),
       q 14 160 (.bin .sub (.t 158) (.t 159)),
       q 15 161 (.mv (.t 17)),
       q 16 162 (.mv (.t 20)),
       q 17 163 (.bin .add (.t 162) (.c (.lit (.int .i64 1)))),
       q 18 164 (.idxS 2 (.t 161) (.t 163)),
       q 19 165 (.fieldAddr 1 (.t 164)),
       q 20 166 (.load none (.t 165)),
       q 21 167 (.bin .sub (.t 160) (.t 166)),
       q 22 168 (.mm true [.t 152, .t 167]),
       q 23 169 (.mv (.t 15)),
       q 24 170 (.mv (.t 20)),
       q 25 171 (.idxS 2 (.t 169) (.t 170)),
       q 26 172 (.fieldAddr 1 (.t 171)),
       q 27 173 (.load none (.t 172)),
       q 28 174 (.mv (.t 15)),
       q 29 175 (.mv (.t 20)),
       q 30 176 (.bin .add (.t 175) (.c (.lit (.int .i64 1)))),
       q 31 177 (.idxS 2 (.t 174) (.t 176)),
       q 32 178 (.fieldAddr 1 (.t 177)),
       q 33 179 (.load none (.t 178)),
       q 34 180 (.mv (.t 21)),
       q 35 181 (.bin .sub (.t 179) (.t 180)),
       q 36 182 (.mv (.t 17)),
       q 37 183 (.mv (.t 20)),
       q 38 184 (.bin .add (.t 183) (.c (.lit (.int .i64 1)))),
       q 39 185 (.idxS 2 (.t 182) (.t 184)),
       q 40 186 (.fieldAddr 0 (.t 185)),
       q 41 187 (.load none (.t 186)),
       q 42 188 (.bin .sub (.t 181) (.t 187)),
       q 43 189 (.mm false [.t 173, .t 188]),
       q 44 190 (.build [.lit (.int .i64 0), .lit (.int .i64 0)] [(0, 1, .t 168), (1, 1, .t 189)]),
       q 45 191 (.idxS 2 (.t 146) (.t 147)),
       r 46 (.store 2 (.t 191) (.t 190))]
      [5, 15, 16, 17, 20])))
               (.region false 0 []
      [q 0 137 (.mv (.t 20)),
       q 1 138 (.bin .sub (.t 137) (.c (.lit (.int .i64 1)))),
       q 2 20 (.mv (.t 138))]
      [5, 15, 16, 17, 20]))))))
          (.seq
           (.region false 0 []
      [q 0 192 (.mv (.t 15)),
       q 1 10 (.mv (.t 192)),
       q 2 11 (.mv (.c (.lit (.int .i64 0))))]
      [10, 11])
           .ret))))))))))
def a27 : AFunc := ⟨5, c27, [.tmp 10, .tmp 11]⟩
/-- ceroplast/van.Best -/
def c29 : ACode :=
 (.seq
  (.region false 2 []
      [q 0 1 (.box 5 (.t 0) 0),
       q 1 2 (.nil 1 1),
       q 2 3 (.mv (.c (.lit (.int .i64 0)))),
       q 3 4 (.mv (.c (.lit (.int .i64 0)))),
       q 4 5 (.mv (.c (.lit (.int .i64 0))))]
      [1])
  (.seq
   (.region false 1 []
      [q 0 13 (.load (some 5) (.t 1)),
       q 1 14 (.call (.f 75) [.t 13] [] false),
       q 2 12 (.mv (.t 14)),
       q 3 15 (.extract (.t 12) 0),
       q 4 16 (.extract (.t 12) 1),
       q 5 6 (.alloc [.lit (.pointer none)] [] 0),
       r 6 (.store 1 (.t 6) (.t 15)),
       q 7 5 (.mv (.t 16))]
      [1, 5, 6])
   (.seq
    (.seq
     (.region false 0 []
      [q 0 17 (.mv (.t 5)),
       q 1 18 (.bin .neq (.t 17) (.c (.lit (.int .i64 0))))]
      [1, 5, 6, 18])
     (.cond (.t 18)
      (.seq
       (.region false 1 []
      [q 0 19 (.mv (.t 5)),
       q 1 2 (.nil 1 0),
       q 2 3 (.mv (.c (.lit (.int .i64 0)))),
       q 3 4 (.mv (.c (.lit (.int .i64 0)))),
       q 4 5 (.mv (.t 19))]
      [2, 3, 4, 5])
       .ret)
      .skip))
    (.seq
     (.region false 1 []
      [q 0 7 (.alloc [.lit (.int .i64 0), .lit (.int .i64 0), .lit (.int .i64 0), .lit (.int .i64 0), .lit (.int .i64 0), .lit (.int .i64 0)] [] 0)]
      [1, 6, 7])
     (.seq
      (.region false 1 []
      [q 0 20 (.build [.lit (.int .i64 0), .lit (.int .i64 0), .lit (.int .i64 0)] [(0, 1, .c (.lit (.int .i64 (-1))))]),
       q 1 8 (.alloc [.lit (.int .i64 0), .lit (.int .i64 0), .lit (.int .i64 0)] [] 0),
       r 2 (.store 3 (.t 8) (.t 20))]
      [1, 6, 7, 8])
      (.seq
       (.seq
        (.region false 0 []
      [q 0 21 (.load none (.t 6)),
       q 1 22 (.call (.f 76) [.t 21] [] false)]
      [1, 6, 7, 8, 22])
        (.block 0
         (.rangeFunc (.t 22) [23]
          (.region false 1 []
      [q 0 9 (.alloc [.lit (.int .i64 0), .lit (.int .i64 0), .lit (.int .i64 0), .lit (.int .i64 0), .lit (.int .i64 0), .lit (.int .i64 0)] [] 0),
       r 1 (.store 6 (.t 9) (.t 23))]
      [6, 7, 8, 9])
          (.block 1
           (.seq
            (.region false 1 []
      [q 0 24 (.load none (.t 6)),
       q 1 25 (.load (some 6) (.t 9)),
       q 2 26 (.call (.f 77) [.t 24, .t 25] [] false),
       q 3 10 (.alloc [.lit (.int .i64 0), .lit (.int .i64 0), .lit (.int .i64 0)] [] 0),
       r 4 (.store 3 (.t 10) (.t 26))]
      [7, 8, 9, 10])
            (.seq
             (.region false 0 []
      [q 0 27 (.fieldAddr 0 (.t 8)),
       q 1 28 (.load none (.t 27)),
       q 2 29 (.fieldAddr 0 (.t 10)),
       q 3 30 (.load none (.t 29)),
       q 4 31 (.bin .sub (.t 28) (.t 30)),
       q 5 32 (.fieldAddr 1 (.t 10)),
       q 6 33 (.load none (.t 32)),
       q 7 34 (.fieldAddr 1 (.t 8)),
       q 8 35 (.load none (.t 34)),
       q 9 36 (.bin .sub (.t 33) (.t 35)),
       q 10 37 (.lits 1 [.lit (.int .i64 0)] 2 [(0, .t 31), (1, .t 36)] none),
       q 11 38 (.call (.f 78) [.t 37] [] false),
       q 12 39 (.bin .lss (.t 38) (.c (.lit (.int .i64 0))))]
      [7, 8, 9, 10, 39])
             (.cond (.t 39)
              (.region true 0 []
      [q 0 40 (.load (some 6) (.t 9)),
       ⟨none, .store 6 (.t 7) (.t 40), none, [], [(10, [])], 0, 2⟩,
       ⟨some 41, .load (some 3) (.t 10), none, [], [], 1, 1⟩,
       r 3 (.store 3 (.t 8) (.t 41))]
      [])
              .skip)))))))
       (.seq
        (.region false 1 []
      [q 0 42 (.fieldAddr 3 (.t 1)),
       q 1 43 (.load none (.t 42)),
       q 2 44 (.lenL (.t 43)),
       q 3 45 (.mkslice 1 8 [.lit (.int .i64 0)] (.t 44) (.t 44) 0),
       q 4 2 (.mv (.t 45))]
      [2, 7, 8])
        (.seq
         (.region false 0 []
      [q 0 46 (.mv (.t 2)),
       q 1 47 (.sliceA 1 6 (.t 7)),
       q 2 48 (.copy 1 (.t 46) (.t 47))]
      [2, 8])
         (.seq
          (.seq
           (.region false 0 []
      [q 0 49 (.mv (.t 2)),
       q 1 50 (.lenL (.t 49)),
       q 2 51 (.mv (.c (.lit (.int .i64 0))))]
      [2, 8, 50, 51])
           (.block 2
            (.loop true [2, 8, 50, 51]
             (.seq
              (.region false 0 []
      [q 0 52 (.bin .lss (.t 51) (.t 50))]
      [2, 8, 50, 51, 52])
              (.seq
               (.cond (.t 52)
                .skip
                (.exit 2))
               (.seq
                (.block 3
                 (.seq
                  (.region false 0 []
      [q 0 53 (.mv (.t 51)),
       q 1 11 (.mv (.t 53))]
      [2, 8, 11, 50, 51])
                  (.region false 0 []
      [q 0 54 (.mv (.t 2)),
       q 1 55 (.mv (.t 11)),
       q 2 56 (.idxS 1 (.t 54) (.t 55)),
       q 3 57 (.load none (.t 56)),
       q 4 58 (.bin .sub (.t 57) (.c (.lit (.int .i64 1)))),
       q 5 59 (.idxS 1 (.t 54) (.t 55)),
       r 6 (.store 1 (.t 59) (.t 58))]
      [2, 8, 50, 51])))
                (.region false 0 []
      [q 0 60 (.bin .add (.t 51) (.c (.lit (.int .i64 1)))),
       q 1 51 (.mv (.t 60))]
      [2, 8, 50, 51])))))))
          (.seq
           (.region true 0 []
      [q 0 61 (.mv (.t 2)),
       q 1 62 (.fieldAddr 0 (.t 8)),
       q 2 63 (.load none (.t 62)),
       q 3 64 (.fieldAddr 1 (.t 8)),
       q 4 65 (.load none (.t 64)),
       q 5 2 (.mv (.t 61)),
       q 6 3 (.mv (.t 63)),
       q 7 4 (.mv (.t 65)),
       q 8 5 (.mv (.c (.lit (.int .i64 0))))]
      [2, 3, 4, 5])
           .ret))))))))))
def a29 : AFunc := ⟨1, c29, [.tmp 2, .tmp 3, .tmp 4, .tmp 5]⟩
/-- ceroplast/van.Never -/
def c31 : ACode :=
 (.seq
  (.region false 2 []
      [q 0 1 (.box 5 (.t 0) 0),
       q 1 2 (.nil 1 1),
       q 2 3 (.mv (.c (.lit (.int .i64 0))))]
      [1, 2])
  (.scope
   (.seq
    (.region false 0 []
      [q 0 9 (.load (some 5) (.t 1)),
       q 1 10 (.call (.f 75) [.t 9] [] false),
       q 2 8 (.mv (.t 10)),
       q 3 11 (.extract (.t 8) 0),
       q 4 12 (.extract (.t 8) 1),
       q 5 4 (.mv (.t 11)),
       q 6 3 (.mv (.t 12))]
      [1, 2, 3, 4])
    (.seq
     (.seq
      (.region false 0 []
      [q 0 13 (.mv (.t 3)),
       q 1 14 (.bin .neq (.t 13) (.c (.lit (.int .i64 0))))]
      [1, 2, 3, 4, 14])
      (.cond (.t 14)
       (.seq
        (.region false 1 []
      [q 0 15 (.mv (.t 3)),
       q 1 2 (.nil 1 0),
       q 2 3 (.mv (.t 15))]
      [2, 3])
        .ret)
       .skip))
     (.seq
      .skip
      (.seq
       (.seq
        (.region false 0 []
      [q 0 16 (.fieldAddr 3 (.t 1)),
       q 1 17 (.load none (.t 16)),
       q 2 18 (.lenL (.t 17)),
       q 3 19 (.mv (.c (.lit (.int .i64 0))))]
      [1, 2, 4, 18, 19])
        (.block 0
         (.loop true [1, 2, 4, 18, 19]
          (.seq
           (.region false 0 []
      [q 0 20 (.bin .lss (.t 19) (.t 18))]
      [1, 2, 4, 18, 19, 20])
           (.seq
            (.cond (.t 20)
             .skip
             (.exit 0))
            (.seq
             (.block 1
              (.seq
               (.region false 0 []
      [q 0 21 (.mv (.t 19)),
       q 1 5 (.mv (.t 21))]
      [1, 2, 4, 5, 18, 19])
               (.seq
                (.seq
                 (.region false 0 []
      [q 0 22 (.fieldAddr 0 (.t 1)),
       q 1 23 (.load none (.t 22)),
       q 2 24 (.lenL (.t 23)),
       q 3 25 (.mv (.c (.lit (.int .i64 0))))]
      [1, 2, 4, 5, 18, 19, 24, 25])
                 (.block 2
                  (.loop true [1, 2, 4, 5, 18, 19, 24, 25]
                   (.seq
                    (.region false 0 []
      [q 0 26 (.bin .lss (.t 25) (.t 24))]
      [1, 2, 4, 5, 18, 19, 24, 25, 26])
                    (.seq
                     (.cond (.t 26)
                      .skip
                      (.exit 2))
                     (.seq
                      (.block 3
                       (.seq
                        (.region false 0 []
      [q 0 27 (.mv (.t 25)),
       q 1 6 (.mv (.t 27))]
      [1, 2, 4, 5, 6, 18, 19, 24, 25])
                        (.seq
                         (.region false 1 []
      [q 0 7 (.alloc [.lit (.int .i64 0), .lit (.int .i64 0), .lit (.int .i64 0), .lit (.int .i64 0), .lit (.int .i64 0), .lit (.int .i64 0)] [] 0)]
      [1, 2, 4, 5, 6, 7, 18, 19, 24, 25])
                         (.seq
                          (.region false 0 []
      [q 0 28 (.mv (.t 5)),
       q 1 29 (.mv (.t 6)),
       q 2 30 (.bin .add (.t 29) (.c (.lit (.int .i64 1)))),
       q 3 31 (.idxA 1 6 (.t 7) (.t 28)),
       r 4 (.store 1 (.t 31) (.t 30))]
      [1, 2, 4, 5, 7, 18, 19, 24, 25])
                          (.seq
                           (.region false 0 []
      [q 0 32 (.mv (.t 4)),
       q 1 33 (.load (some 6) (.t 7)),
       q 2 34 (.mv (.t 5)),
       q 3 35 (.call (.f 80) [.t 32, .t 33, .t 34] [] false),
       q 4 36 (.mv (.t 35)),
       ⟨some 37, .load (some 6) (.t 7), some (36, true), [], [], 0, 5⟩,
       ⟨some 38, .build [.lit (.int .i64 0), .lit (.int .i64 0), .lit (.int .i64 0), .lit (.int .i64 0), .lit (.int .i64 0), .lit (.int .i64 0)] [], some (36, true), [], [], 0, 6⟩,
       ⟨some 39, .cmp true [0, 0, 0, 0, 0, 0] (.t 37) (.t 38), some (36, true), [], [], 0, 7⟩,
       q 8 40 (.pick (.t 36) (.t 39) (.c (.lit (.bool false)))),
       q 9 41 (.mv (.t 40)),
       ⟨some 42, .mv (.t 4), some (41, true), [], [], 0, 10⟩,
       ⟨some 43, .load (some 6) (.t 7), some (41, true), [], [], 0, 11⟩,
       ⟨some 44, .mv (.t 5), some (41, true), [], [], 0, 12⟩,
       ⟨some 45, .call (.f 70) [.t 42, .t 43, .t 44] [] false, some (41, true), [], [], 0, 13⟩,
       ⟨some 46, .bin .eql (.t 45) (.c (.lit (.int .i64 1))), some (41, true), [], [], 0, 14⟩,
       q 15 47 (.pick (.t 41) (.t 46) (.c (.lit (.bool false))))]
      [1, 2, 4, 5, 18, 19, 24, 25, 47])
                           (.cond (.t 47)
                            (.exit 1)
                            .skip))))))
                      (.region false 0 []
      [q 0 48 (.bin .add (.t 25) (.c (.lit (.int .i64 1)))),
       q 1 25 (.mv (.t 48))]
      [1, 2, 4, 5, 18, 19, 24, 25])))))))
                (.region false 0 []
      [q 0 49 (.mv (.t 2)),
       q 1 50 (.mv (.t 5)),
       q 2 51 (.lits 1 [.lit (.int .i64 0)] 1 [(0, .t 50)] none),
       q 3 52 (.append 1 8 (.t 49) (.t 51) none false),
       q 4 2 (.mv (.t 52))]
      [1, 2, 4, 18, 19]))))
             (.region false 0 []
      [q 0 53 (.bin .add (.t 19) (.c (.lit (.int .i64 1)))),
       q 1 19 (.mv (.t 53))]
      [1, 2, 4, 18, 19])))))))
       (.seq
        (.region false 0 []
      [q 0 54 (.mv (.t 2)),
       q 1 2 (.mv (.t 54)),
       q 2 3 (.mv (.c (.lit (.int .i64 0))))]
      [2, 3])
        .ret)))))))
def a31 : AFunc := ⟨1, c31, [.tmp 2, .tmp 3]⟩
/-- ceroplast/van.Loose -/
def c33 : ACode :=
 (.seq
  (.region false 1 []
      [q 0 1 (.box 5 (.t 0) 0),
       q 1 2 (.mv (.c (.nils 1))),
       q 2 3 (.mv (.c (.lit (.int .i64 0))))]
      [1, 2])
  (.seq
   (.region false 0 []
      [q 0 10 (.load (some 5) (.t 1)),
       q 1 11 (.call (.f 75) [.t 10] [] false),
       q 2 9 (.mv (.t 11)),
       q 3 12 (.extract (.t 9) 0),
       q 4 13 (.extract (.t 9) 1),
       q 5 4 (.mv (.t 12)),
       q 6 3 (.mv (.t 13))]
      [1, 2, 3, 4])
   (.seq
    (.seq
     (.region false 0 []
      [q 0 14 (.mv (.t 3)),
       q 1 15 (.bin .neq (.t 14) (.c (.lit (.int .i64 0))))]
      [1, 2, 3, 4, 15])
     (.cond (.t 15)
      (.seq
       (.region false 0 []
      [q 0 16 (.mv (.t 3)),
       q 1 2 (.mv (.c (.nils 1))),
       q 2 3 (.mv (.t 16))]
      [2, 3])
       .ret)
      .skip))
    (.seq
     (.region false 0 []
      [q 0 5 (.mv (.c (.lit (.bool false))))]
      [1, 2, 4, 5])
     (.seq
      (.seq
       (.region false 0 []
      [q 0 17 (.fieldAddr 4 (.t 1)),
       q 1 18 (.load none (.t 17)),
       q 2 19 (.lenL (.t 18)),
       q 3 20 (.bin .shl (.c (.lit (.int .i64 1))) (.t 19)),
       q 4 21 (.mv (.c (.lit (.int .i64 0))))]
      [1, 2, 4, 5, 20, 21])
       (.block 0
        (.loop false [1, 2, 4, 5, 20, 21]
         (.seq
          (.region false 0 []
      [q 0 22 (.bin .lss (.t 21) (.t 20))]
      [1, 2, 4, 5, 20, 21, 22])
          (.seq
           (.cond (.t 22)
            .skip
            (.exit 0))
           (.seq
            (.block 1
             (.seq
              (.region false 0 []
      [q 0 23 (.mv (.t 21)),
       q 1 6 (.mv (.t 23))]
      [1, 2, 4, 5, 6, 20, 21])
              (.seq
               (.region false 1 []
      [q 0 7 (.nil 1 0)]
      [1, 2, 4, 5, 6, 7, 20, 21])
               (.seq
                (.seq
                 (.region false 0 []
      [q 0 24 (.fieldAddr 4 (.t 1)),
       q 1 25 (.load none (.t 24)),
       q 2 26 (.lenL (.t 25)),
       q 3 27 (.mv (.c (.lit (.int .i64 0))))]
      [1, 2, 4, 5, 6, 7, 20, 21, 26, 27])
                 (.block 2
                  (.loop true [1, 2, 4, 5, 6, 7, 20, 21, 26, 27]
                   (.seq
                    (.region false 0 []
      [q 0 28 (.bin .lss (.t 27) (.t 26))]
      [1, 2, 4, 5, 6, 7, 20, 21, 26, 27, 28])
                    (.seq
                     (.cond (.t 28)
                      .skip
                      (.exit 2))
                     (.seq
                      (.block 3
                       (.seq
                        (.region false 0 []
      [q 0 29 (.mv (.t 27)),
       q 1 8 (.mv (.t 29))]
      [1, 2, 4, 5, 6, 7, 8, 20, 21, 26, 27])
                        (.seq
                         (.region false 0 []
      [q 0 30 (.mv (.t 6)),
       q 1 31 (.mv (.t 8)),
       q 2 32 (.bin .shr (.t 30) (.t 31)),
       q 3 33 (.bin .and (.t 32) (.c (.lit (.int .i64 1)))),
       q 4 34 (.bin .eql (.t 33) (.c (.lit (.int .i64 1))))]
      [1, 2, 4, 5, 6, 7, 8, 20, 21, 26, 27, 34])
                         (.cond (.t 34)
                          (.region false 0 []
      [q 0 35 (.mv (.t 7)),
       q 1 36 (.mv (.t 8)),
       q 2 37 (.lits 1 [.lit (.int .i64 0)] 1 [(0, .t 36)] none),
       q 3 38 (.append 1 8 (.t 35) (.t 37) none false),
       q 4 7 (.mv (.t 38))]
      [1, 2, 4, 5, 6, 7, 20, 21, 26, 27])
                          .skip))))
                      (.region false 0 []
      [q 0 39 (.bin .add (.t 27) (.c (.lit (.int .i64 1)))),
       q 1 27 (.mv (.t 39))]
      [1, 2, 4, 5, 6, 7, 20, 21, 26, 27])))))))
                (.seq
                 (.seq
                  (.region false 0 []
      [q 0 40 (.mv (.t 5)),
       q 1 41 (.mv (.t 40)),
       ⟨some 42, .mv (.t 6), some (41, true), [], [], 0, 2⟩,
       ⟨some 43, .conv .u64 (.t 42), some (41, true), [], [], 0, 3⟩,
       ⟨some 44, .call (.f 82) [.t 43] [] false, some (41, true), [], [], 0, 4⟩,
       ⟨some 45, .mv (.t 2), some (41, true), [], [], 0, 5⟩,
       ⟨some 46, .lenL (.t 45), some (41, true), [], [], 0, 6⟩,
       ⟨some 47, .bin .gtr (.t 44) (.t 46), some (41, true), [], [], 0, 7⟩,
       ⟨some 48, .mv (.t 47), some (41, true), [], [], 0, 8⟩,
       ⟨some 49, .mv (.t 7), some (48, false), [], [], 0, 9⟩,
       ⟨some 50, .lenL (.t 49), some (48, false), [], [], 0, 10⟩,
       ⟨some 51, .mv (.t 2), some (48, false), [], [], 0, 11⟩,
       ⟨some 52, .lenL (.t 51), some (48, false), [], [], 0, 12⟩,
       ⟨some 53, .bin .eql (.t 50) (.t 52), some (48, false), [], [], 0, 13⟩,
       ⟨some 54, .mv (.t 53), some (48, false), [], [], 0, 14⟩,
       ⟨some 55, .mv (.t 7), some (54, true), [], [], 0, 15⟩,
       ⟨some 56, .mv (.t 2), some (54, true), [], [], 0, 16⟩,
       ⟨some 57, .call (.f 83) [.t 55, .t 56] [] false, some (54, true), [], [], 0, 17⟩,
       ⟨some 58, .bin .gtr (.t 57) (.c (.lit (.int .i64 0))), some (54, true), [], [], 0, 18⟩,
       ⟨some 59, .pick (.t 54) (.t 58) (.c (.lit (.bool false))), some (48, false), [], [], 0, 19⟩,
       ⟨some 60, .pick (.t 48) (.c (.lit (.bool true))) (.t 59), some (41, true), [], [], 0, 20⟩,
       q 21 61 (.pick (.t 41) (.t 60) (.c (.lit (.bool false))))]
      [1, 2, 4, 5, 6, 7, 20, 21, 61])
                  (.cond (.t 61)
                   (.exit 1)
                   .skip))
                 (.seq
                  (.region false 0 []
      [q 0 62 (.mv (.t 4)),
       q 1 63 (.mv (.t 6)),
       q 2 64 (.call (.f 84) [.t 62, .t 63] [] false)]
      [1, 2, 4, 5, 7, 20, 21, 64])
                  (.cond (.t 64)
                   (.region false 0 []
      [q 0 65 (.mv (.t 7)),
       q 1 2 (.mv (.t 65)),
       q 2 5 (.mv (.c (.lit (.bool true))))]
      [1, 2, 4, 5, 20, 21])
                   .skip)))))))
            (.region false 0 []
      [q 0 66 (.bin .add (.t 21) (.c (.lit (.int .i64 1)))),
       q 1 21 (.mv (.t 66))]
      [1, 2, 4, 5, 20, 21])))))))
      (.seq
       (.seq
        (.region false 0 []
      [q 0 67 (.mv (.t 5)),
       q 1 68 (.un .not (.t 67))]
      [2, 68])
        (.cond (.t 68)
         (.seq
          (.region false 0 []
      [q 0 2 (.mv (.c (.nils 1))),
       q 1 3 (.mv (.c (.lit (.int .i64 9))))]
      [2, 3])
          .ret)
         .skip))
       (.seq
        (.region false 0 []
      [q 0 69 (.mv (.t 2)),
       q 1 2 (.mv (.t 69)),
       q 2 3 (.mv (.c (.lit (.int .i64 0))))]
      [2, 3])
        .ret)))))))
def a33 : AFunc := ⟨1, c33, [.tmp 2, .tmp 3]⟩
/-- ceroplast/van.Earlier -/
def c35 : ACode :=
 (.seq
  (.region false 1 []
      [q 0 1 (.box 5 (.t 0) 0),
       q 1 2 (.mv (.c (.lit (.int .i64 0)))),
       q 2 3 (.mv (.c (.lit (.int .i64 0))))]
      [1])
  (.seq
   (.region false 1 []
      [q 0 9 (.load (some 5) (.t 1)),
       q 1 10 (.call (.f 75) [.t 9] [] false),
       q 2 8 (.mv (.t 10)),
       q 3 11 (.extract (.t 8) 0),
       q 4 12 (.extract (.t 8) 1),
       q 5 4 (.alloc [.lit (.pointer none)] [] 0),
       r 6 (.store 1 (.t 4) (.t 11)),
       q 7 5 (.mv (.t 12))]
      [4, 5])
   (.seq
    (.seq
     (.region false 0 []
      [q 0 13 (.mv (.t 5)),
       q 1 14 (.bin .neq (.t 13) (.c (.lit (.int .i64 0))))]
      [4, 5, 14])
     (.cond (.t 14)
      (.seq
       (.region false 0 []
      [q 0 15 (.mv (.t 5)),
       q 1 2 (.mv (.c (.lit (.int .i64 0)))),
       q 2 3 (.mv (.t 15))]
      [2, 3])
       .ret)
      .skip))
    (.seq
     (.region false 1 []
      [q 0 6 (.alloc [.lit (.int .i64 0)] [] 0),
       r 1 (.store 1 (.t 6) (.c (.lit (.int .i64 301))))]
      [4, 6])
     (.seq
      (.seq
       (.region false 0 []
      [q 0 16 (.load none (.t 4)),
       q 1 17 (.call (.f 76) [.t 16] [] false)]
      [4, 6, 17])
       (.block 0
        (.rangeFunc (.t 17) [18]
         (.region false 1 []
      [q 0 7 (.alloc [.lit (.int .i64 0), .lit (.int .i64 0), .lit (.int .i64 0), .lit (.int .i64 0), .lit (.int .i64 0), .lit (.int .i64 0)] [] 0),
       r 1 (.store 6 (.t 7) (.t 18))]
      [4, 6, 7])
         (.block 1
          (.region true 0 []
      [q 1 20 (.load none (.t 4)),
       q 2 21 (.load (some 6) (.t 7)),
       ⟨some 22, .call (.f 77) [.t 20, .t 21] [] false, none, [], [(6, [])], 0, 3⟩,
       ⟨some 19, .load none (.t 6), none, [], [], 1, 0⟩,
       q 4 23 (.field none 2 (.t 22)),
       q 5 24 (.mm false [.t 19, .t 23]),
       r 6 (.store 1 (.t 6) (.t 24))]
      [])))))
      (.seq
       (.seq
        (.region false 0 []
      [q 0 25 (.load none (.t 6)),
       q 1 26 (.bin .gtr (.t 25) (.c (.lit (.int .i64 300))))]
      [6, 26])
        (.cond (.t 26)
         (.seq
          (.region false 0 []
      [q 0 2 (.mv (.c (.lit (.int .i64 0)))),
       q 1 3 (.mv (.c (.lit (.int .i64 9))))]
      [2, 3])
          .ret)
         .skip))
       (.seq
        (.region false 0 []
      [q 0 27 (.load none (.t 6)),
       q 1 2 (.mv (.t 27)),
       q 2 3 (.mv (.c (.lit (.int .i64 0))))]
      [2, 3])
        .ret)))))))
def a35 : AFunc := ⟨1, c35, [.tmp 2, .tmp 3]⟩
/-- ceroplast/ceroplastlaw06.Train -/
def c37 : ACode :=
 (.seq
  (.region false 3 []
      [q 0 0 (.alloc [.nils 4, .lit (.int .i64 0), .lit (.int .i64 0), .nils 4, .nils 2] [(0, 0, 4), (3, 1, 4)] 2)]
      [0])
  (.seq
   (.region false 2 []
      [q 0 1 (.call (.f 39) [.c (.lit (.int .i64 60)), .c (.lit (.int .i64 80))] [] false),
       q 1 2 (.call (.f 39) [.c (.lit (.int .i64 30)), .c (.lit (.int .i64 50))] [] false),
       q 2 3 (.lits 2 [.lit (.int .i64 0), .lit (.int .i64 0)] 2 [(0, .t 1), (1, .t 2)] none),
       q 3 4 (.build [.lit (.string ⟨#[]⟩), .lit (.int .i64 0), .lit (.int .i64 0), .nils 2] [(0, 1, .c (.lit (.string ⟨#[114, 101, 100]⟩))), (1, 1, .c (.lit (.int .i64 5))), (2, 1, .c (.lit (.int .i64 100))), (3, 1, .t 3)]),
       q 4 5 (.call (.f 39) [.c (.lit (.int .i64 50)), .c (.lit (.int .i64 60))] [] false),
       q 5 6 (.call (.f 39) [.c (.lit (.int .i64 30)), .c (.lit (.int .i64 40))] [] false),
       q 6 7 (.lits 2 [.lit (.int .i64 0), .lit (.int .i64 0)] 2 [(0, .t 5), (1, .t 6)] none),
       q 7 8 (.build [.lit (.string ⟨#[]⟩), .lit (.int .i64 0), .lit (.int .i64 0), .nils 2] [(0, 1, .c (.lit (.string ⟨#[98, 108, 117, 101]⟩))), (1, 1, .c (.lit (.int .i64 4))), (2, 1, .c (.lit (.int .i64 160))), (3, 1, .t 7)]),
       q 8 9 (.lits 4 [.lit (.string ⟨#[]⟩), .lit (.int .i64 0), .lit (.int .i64 0), .nils 2] 2 [(0, .t 4), (1, .t 8)] (some 0)),
       q 9 10 (.build [.lit (.string ⟨#[]⟩), .lit (.int .i64 0), .lit (.int .i64 0), .lit (.int .i64 0)] [(0, 1, .c (.lit (.string ⟨#[104, 101, 97, 100, 115]⟩))), (1, 1, .c (.lit (.int .i64 2))), (3, 1, .c (.lit (.int .i64 190)))]),
       q 10 11 (.build [.lit (.string ⟨#[]⟩), .lit (.int .i64 0), .lit (.int .i64 0), .lit (.int .i64 0)] [(0, 1, .c (.lit (.string ⟨#[119, 105, 103, 115]⟩))), (1, 1, .c (.lit (.int .i64 1))), (2, 1, .c (.lit (.int .i64 1))), (3, 1, .c (.lit (.int .i64 250)))]),
       q 11 12 (.build [.lit (.string ⟨#[]⟩), .lit (.int .i64 0), .lit (.int .i64 0), .lit (.int .i64 0)] [(0, 1, .c (.lit (.string ⟨#[119, 97, 120]⟩))), (1, 1, .c (.lit (.int .i64 3))), (3, 1, .c (.lit (.int .i64 230)))]),
       q 12 13 (.build [.lit (.string ⟨#[]⟩), .lit (.int .i64 0), .lit (.int .i64 0), .lit (.int .i64 0)] [(0, 1, .c (.lit (.string ⟨#[103, 108, 97, 115, 115]⟩))), (1, 1, .c (.lit (.int .i64 2))), (2, 1, .c (.lit (.int .i64 1))), (3, 1, .c (.lit (.int .i64 240)))]),
       q 13 14 (.lits 4 [.lit (.string ⟨#[]⟩), .lit (.int .i64 0), .lit (.int .i64 0), .lit (.int .i64 0)] 4 [(0, .t 10), (1, .t 11), (2, .t 12), (3, .t 13)] (some 1)),
       q 14 15 (.build [.lit (.int .i64 0), .lit (.int .i64 0)] [(0, 1, .c (.lit (.int .i64 0))), (1, 1, .c (.lit (.int .i64 2)))]),
       q 15 16 (.lits 2 [.lit (.int .i64 0), .lit (.int .i64 0)] 1 [(0, .t 15)] none),
       q 16 17 (.build [.nils 4, .lit (.int .i64 0), .lit (.int .i64 0), .nils 4, .nils 2] [(0, 1, .t 9), (1, 1, .c (.lit (.int .i64 2))), (2, 1, .c (.lit (.int .i64 10))), (3, 1, .t 14), (4, 1, .t 16)]),
       r 17 (.store 5 (.t 0) (.t 17))]
      [0])
   .ret))
def a37 : AFunc := ⟨0, c37, [.cell 0 (some 5)]⟩
/-- ceroplast/ceroplastlaw06.Plan -/
def c38 : ACode :=
 (.seq
  (.region false 0 []
      [q 0 0 (.mv (.c (.nils 1)))]
      [])
  (.seq
   (.region false 0 []
      [q 0 1 (.lits 1 [.lit (.int .i64 0)] 4 [(0, .c (.lit (.int .i64 0))), (1, .c (.lit (.int .i64 0))), (2, .c (.lit (.int .i64 1))), (3, .c (.lit (.int .i64 0)))] none),
       q 1 0 (.mv (.t 1))]
      [0])
   .ret))
def a38 : AFunc := ⟨0, c38, [.tmp 0]⟩
/-- ceroplast/ceroplastlaw06.span -/
def c39 : ACode :=
 (.seq
  (.region false 1 []
      [q 0 4 (.alloc [.lit (.int .i64 0), .lit (.int .i64 0)] [] 0)]
      [0, 1, 4])
  (.seq
   (.region false 0 []
      [q 0 5 (.mv (.t 0)),
       q 1 6 (.mv (.t 1)),
       q 2 7 (.build [.lit (.int .i64 0), .lit (.int .i64 0)] [(0, 1, .t 5), (1, 1, .t 6)]),
       r 3 (.store 2 (.t 4) (.t 7))]
      [4])
   .ret))
def a39 : AFunc := ⟨2, c39, [.cell 4 (some 2)]⟩
/-- ceroplast/van.outside -/
def c56 : ACode :=
 (.seq
  (.region false 2 []
      [q 0 3 (.box 1 (.t 0) 0),
       q 1 4 (.box 1 (.t 1) 1),
       q 2 6 (.mv (.c (.lit (.bool false))))]
      [2, 3, 4])
  (.seq
   (.region false 0 []
      [q 0 7 (.mv (.t 2)),
       q 1 8 (.mkfn (.func 91) [] [.t 3, .t 4]),
       q 2 9 (.call (.f 90) [.t 7, .t 8] [] false),
       q 3 6 (.mv (.t 9))]
      [6])
   .ret))
def a56 : AFunc := ⟨3, c56, [.tmp 6]⟩
/-- (*ceroplast/van.train).van -/
def c57 : ACode :=
 (.seq
  (.region false 0 []
      [q 0 4 (.mv (.c (.lit (.int .i64 0))))]
      [0, 1])
  (.seq
   (.region false 1 []
      [q 0 9 (.mv (.t 0)),
       q 1 10 (.nilck (.t 9)),
       q 2 11 (.fieldAddr 0 (.t 10)),
       q 3 12 (.fieldAddr 0 (.t 11)),
       q 4 13 (.load none (.t 12)),
       q 5 14 (.mv (.t 1)),
       q 6 15 (.idxS 4 (.t 13) (.t 14)),
       q 7 16 (.load (some 4) (.t 15)),
       q 8 5 (.alloc [.lit (.string ⟨#[]⟩), .lit (.int .i64 0), .lit (.int .i64 0), .nils 2] [] 0),
       r 9 (.store 4 (.t 5) (.t 16))]
      [0, 1, 5])
   (.seq
    (.region false 0 []
      [q 0 17 (.mv (.t 0)),
       q 1 18 (.nilck (.t 17)),
       q 2 19 (.fieldAddr 0 (.t 18)),
       q 3 20 (.fieldAddr 0 (.t 19)),
       q 4 21 (.load none (.t 20)),
       q 5 22 (.mv (.t 1)),
       q 6 23 (.call (.f 92) [.t 21, .t 22, .f 93] [] false),
       q 7 6 (.mv (.t 23))]
      [0, 5, 6])
    (.seq
     (.block 0
      (.seq
       (.region false 0 []
      [q 0 25 (.mv (.t 6)),
       q 1 26 (.bin .neq (.t 25) (.c (.lit (.int .i64 0)))),
       q 2 24 (.mv (.t 26))]
      [0, 5, 6, 24])
       (.cond (.t 24)
        (.seq
         (.region false 0 []
      [q 0 27 (.mv (.t 6)),
       q 1 4 (.mv (.t 27))]
      [4])
         .ret)
        (.seq
         (.region false 0 []
      [q 0 29 (.fieldAddr 1 (.t 5)),
       q 1 30 (.load none (.t 29)),
       q 2 31 (.lits 1 [.lit (.int .i64 0)] 1 [(0, .t 30)] none),
       q 3 32 (.call (.f 56) [.c (.lit (.int .i64 0)), .c (.lit (.int .i64 20)), .t 31] [] false),
       q 4 33 (.mv (.t 32)),
       ⟨some 34, .fieldAddr 2 (.t 5), some (33, false), [], [], 0, 5⟩,
       ⟨some 35, .load none (.t 34), some (33, false), [], [], 0, 6⟩,
       ⟨some 36, .lits 1 [.lit (.int .i64 0)] 1 [(0, .t 35)] none, some (33, false), [], [], 0, 7⟩,
       ⟨some 37, .call (.f 56) [.c (.lit (.int .i64 0)), .c (.lit (.int .i64 5000)), .t 36] [] false, some (33, false), [], [], 0, 8⟩,
       q 9 38 (.pick (.t 33) (.c (.lit (.bool true))) (.t 37)),
       q 10 28 (.mv (.t 38))]
      [0, 5, 28])
         (.cond (.t 28)
          (.seq
           (.region false 0 []
      [q 0 4 (.mv (.c (.lit (.int .i64 7))))]
      [4])
           .ret)
          (.seq
           (.region true 0 []
      [q 0 40 (.fieldAddr 3 (.t 5)),
       q 1 41 (.load none (.t 40)),
       q 2 42 (.lenL (.t 41)),
       q 3 43 (.mv (.t 0)),
       q 4 44 (.nilck (.t 43)),
       q 5 45 (.fieldAddr 0 (.t 44)),
       q 6 46 (.fieldAddr 1 (.t 45)),
       q 7 47 (.load none (.t 46)),
       q 8 48 (.bin .neq (.t 42) (.t 47)),
       q 9 39 (.mv (.t 48))]
      [5, 39])
           (.cond (.t 39)
            (.seq
             (.region false 0 []
      [q 0 4 (.mv (.c (.lit (.int .i64 3))))]
      [4])
             .ret)
            .skip)))))))
     (.seq
      (.seq
       (.region false 0 []
      [q 0 49 (.fieldAddr 3 (.t 5)),
       q 1 50 (.load none (.t 49)),
       q 2 51 (.lenL (.t 50)),
       q 3 52 (.mv (.c (.lit (.int .i64 0))))]
      [50, 51, 52])
       (.block 1
        (.loop true [50, 51, 52]
         (.seq
          (.region false 0 []
      [q 0 53 (.bin .lss (.t 52) (.t 51))]
      [50, 51, 52, 53])
          (.seq
           (.cond (.t 53)
            .skip
            (.exit 1))
           (.seq
            (.block 2
             (.seq
              (.region false 1 []
      [q 0 54 (.idxS 2 (.t 50) (.t 52)),
       q 1 55 (.load (some 2) (.t 54)),
       q 2 8 (.alloc [.lit (.int .i64 0), .lit (.int .i64 0)] [] 0),
       r 3 (.store 2 (.t 8) (.t 55))]
      [8, 50, 51, 52])
              (.block 3
               (.seq
                (.region false 0 []
      [q 0 57 (.fieldAddr 0 (.t 8)),
       q 1 58 (.load none (.t 57)),
       q 2 59 (.fieldAddr 1 (.t 8)),
       q 3 60 (.load none (.t 59)),
       q 4 61 (.lits 1 [.lit (.int .i64 0)] 2 [(0, .t 58), (1, .t 60)] none),
       q 5 62 (.call (.f 56) [.c (.lit (.int .i64 0)), .c (.lit (.int .i64 600)), .t 61] [] false),
       q 6 56 (.mv (.t 62))]
      [8, 50, 51, 52, 56])
                (.cond (.t 56)
                 (.seq
                  (.region false 0 []
      [q 0 4 (.mv (.c (.lit (.int .i64 7))))]
      [4])
                  .ret)
                 (.seq
                  (.region false 0 []
      [q 0 64 (.fieldAddr 0 (.t 8)),
       q 1 65 (.load none (.t 64)),
       q 2 66 (.fieldAddr 1 (.t 8)),
       q 3 67 (.load none (.t 66)),
       q 4 68 (.bin .gtr (.t 65) (.t 67)),
       q 5 63 (.mv (.t 68))]
      [50, 51, 52, 63])
                  (.cond (.t 63)
                   (.seq
                    (.region false 0 []
      [q 0 4 (.mv (.c (.lit (.int .i64 2))))]
      [4])
                    .ret)
                   .skip)))))))
            (.region false 0 []
      [q 0 69 (.bin .add (.t 52) (.c (.lit (.int .i64 1)))),
       q 1 52 (.mv (.t 69))]
      [50, 51, 52])))))))
      (.seq
       (.region false 0 []
      [q 0 4 (.mv (.c (.lit (.int .i64 0))))]
      [4])
       .ret))))))
def a57 : AFunc := ⟨2, c57, [.tmp 4]⟩
/-- (*ceroplast/van.train).crate -/
def c58 : ACode :=
 (.seq
  (.region false 0 []
      [q 0 4 (.mv (.c (.lit (.int .i64 0))))]
      [0, 1])
  (.seq
   (.region false 1 []
      [q 0 7 (.mv (.t 0)),
       q 1 8 (.nilck (.t 7)),
       q 2 9 (.fieldAddr 0 (.t 8)),
       q 3 10 (.fieldAddr 3 (.t 9)),
       q 4 11 (.load none (.t 10)),
       q 5 12 (.mv (.t 1)),
       q 6 13 (.idxS 4 (.t 11) (.t 12)),
       q 7 14 (.load (some 4) (.t 13)),
       q 8 5 (.alloc [.lit (.string ⟨#[]⟩), .lit (.int .i64 0), .lit (.int .i64 0), .lit (.int .i64 0)] [] 0),
       r 9 (.store 4 (.t 5) (.t 14))]
      [0, 1, 5])
   (.seq
    (.region false 0 []
      [q 0 15 (.mv (.t 0)),
       q 1 16 (.nilck (.t 15)),
       q 2 17 (.fieldAddr 0 (.t 16)),
       q 3 18 (.fieldAddr 3 (.t 17)),
       q 4 19 (.load none (.t 18)),
       q 5 20 (.mv (.t 1)),
       q 6 21 (.call (.f 94) [.t 19, .t 20, .f 95] [] false),
       q 7 6 (.mv (.t 21))]
      [0, 5, 6])
    (.seq
     (.seq
      (.region true 0 []
      [q 0 22 (.mv (.t 6)),
       q 1 23 (.bin .eql (.t 22) (.c (.lit (.int .i64 0)))),
       q 2 24 (.mv (.t 23)),
       ⟨some 25, .fieldAddr 1 (.t 5), some (24, true), [], [], 0, 3⟩,
       ⟨some 26, .load none (.t 25), some (24, true), [], [], 0, 4⟩,
       ⟨some 27, .lits 1 [.lit (.int .i64 0)] 1 [(0, .t 26)] none, some (24, true), [], [], 0, 5⟩,
       ⟨some 28, .call (.f 56) [.c (.lit (.int .i64 1)), .c (.lit (.int .i64 9)), .t 27] [] false, some (24, true), [], [], 0, 6⟩,
       ⟨some 29, .mv (.t 28), some (24, true), [], [], 0, 7⟩,
       ⟨some 30, .mv (.t 0), some (29, false), [], [], 0, 8⟩,
       ⟨some 31, .nilck (.t 30), some (29, false), [], [], 0, 9⟩,
       ⟨some 32, .fieldAddr 0 (.t 31), some (29, false), [], [], 0, 10⟩,
       ⟨some 33, .fieldAddr 1 (.t 32), some (29, false), [], [], 0, 11⟩,
       ⟨some 34, .load none (.t 33), some (29, false), [], [], 0, 12⟩,
       ⟨some 35, .bin .sub (.t 34) (.c (.lit (.int .i64 1))), some (29, false), [], [], 0, 13⟩,
       ⟨some 36, .fieldAddr 2 (.t 5), some (29, false), [], [], 0, 14⟩,
       ⟨some 37, .load none (.t 36), some (29, false), [], [], 0, 15⟩,
       ⟨some 38, .lits 1 [.lit (.int .i64 0)] 1 [(0, .t 37)] none, some (29, false), [], [], 0, 16⟩,
       ⟨some 39, .call (.f 56) [.c (.lit (.int .i64 0)), .t 35, .t 38] [] false, some (29, false), [], [], 0, 17⟩,
       ⟨some 40, .pick (.t 29) (.c (.lit (.bool true))) (.t 39), some (24, true), [], [], 0, 18⟩,
       ⟨some 41, .mv (.t 40), some (24, true), [], [], 0, 19⟩,
       ⟨some 42, .fieldAddr 3 (.t 5), some (41, false), [], [], 0, 20⟩,
       ⟨some 43, .load none (.t 42), some (41, false), [], [], 0, 21⟩,
       ⟨some 44, .lits 1 [.lit (.int .i64 0)] 1 [(0, .t 43)] none, some (41, false), [], [], 0, 22⟩,
       ⟨some 45, .call (.f 56) [.c (.lit (.int .i64 0)), .c (.lit (.int .i64 5000)), .t 44] [] false, some (41, false), [], [], 0, 23⟩,
       ⟨some 46, .pick (.t 41) (.c (.lit (.bool true))) (.t 45), some (24, true), [], [], 0, 24⟩,
       q 25 47 (.pick (.t 24) (.t 46) (.c (.lit (.bool false))))]
      [6, 47])
      (.cond (.t 47)
       (.seq
        (.region false 0 []
      [q 0 4 (.mv (.c (.lit (.int .i64 7))))]
      [4])
        .ret)
       .skip))
     (.seq
      (.region false 0 []
      [q 0 48 (.mv (.t 6)),
       q 1 4 (.mv (.t 48))]
      [4])
      .ret)))))
def a58 : AFunc := ⟨2, c58, [.tmp 4]⟩
/-- (*ceroplast/van.train).pair -/
def c59 : ACode :=
 (.seq
  (.region false 0 []
      [q 0 4 (.mv (.c (.lit (.int .i64 0))))]
      [0, 1])
  (.seq
   (.region false 1 []
      [q 0 6 (.mv (.t 0)),
       q 1 7 (.nilck (.t 6)),
       q 2 8 (.fieldAddr 0 (.t 7)),
       q 3 9 (.fieldAddr 4 (.t 8)),
       q 4 10 (.load none (.t 9)),
       q 5 11 (.mv (.t 1)),
       q 6 12 (.idxS 2 (.t 10) (.t 11)),
       q 7 13 (.load (some 2) (.t 12)),
       q 8 5 (.alloc [.lit (.int .i64 0), .lit (.int .i64 0)] [] 0),
       r 9 (.store 2 (.t 5) (.t 13))]
      [0, 5])
   (.seq
    (.block 0
     (.seq
      (.region true 0 []
      [q 0 15 (.mv (.t 0)),
       q 1 16 (.nilck (.t 15)),
       q 2 17 (.fieldAddr 0 (.t 16)),
       q 3 18 (.fieldAddr 3 (.t 17)),
       q 4 19 (.load none (.t 18)),
       q 5 20 (.lenL (.t 19)),
       q 6 21 (.bin .sub (.t 20) (.c (.lit (.int .i64 1)))),
       q 7 22 (.fieldAddr 0 (.t 5)),
       q 8 23 (.load none (.t 22)),
       q 9 24 (.fieldAddr 1 (.t 5)),
       q 10 25 (.load none (.t 24)),
       q 11 26 (.lits 1 [.lit (.int .i64 0)] 2 [(0, .t 23), (1, .t 25)] none),
       q 12 27 (.call (.f 56) [.c (.lit (.int .i64 0)), .t 21, .t 26] [] false),
       q 13 14 (.mv (.t 27))]
      [5, 14])
      (.cond (.t 14)
       (.seq
        (.region false 0 []
      [q 0 4 (.mv (.c (.lit (.int .i64 4))))]
      [4])
        .ret)
       (.seq
        (.region false 0 []
      [q 0 29 (.fieldAddr 0 (.t 5)),
       q 1 30 (.load none (.t 29)),
       q 2 31 (.fieldAddr 1 (.t 5)),
       q 3 32 (.load none (.t 31)),
       q 4 33 (.bin .geq (.t 30) (.t 32)),
       q 5 28 (.mv (.t 33))]
      [28])
        (.cond (.t 28)
         (.seq
          (.region false 0 []
      [q 0 4 (.mv (.c (.lit (.int .i64 2))))]
      [4])
          .ret)
         .skip)))))
    (.seq
     (.region false 0 []
      [q 0 4 (.mv (.c (.lit (.int .i64 0))))]
      [4])
     .ret))))
def a59 : AFunc := ⟨2, c59, [.tmp 4]⟩
/-- ceroplast/van.planned -/
def c64 : ACode :=
 (.seq
  (.region false 2 []
      [q 0 2 (.box 5 (.t 0) 0),
       q 1 4 (.mv (.c (.lit (.pointer none)))),
       q 2 5 (.alloc [.lit (.int .i64 0), .lit (.int .i64 0), .lit (.int .i64 0), .lit (.int .i64 0), .lit (.int .i64 0), .lit (.int .i64 0)] [] 1),
       q 3 6 (.mv (.c (.lit (.int .i64 0))))]
      [1, 2, 5])
  (.seq
   (.region false 0 []
      [q 0 11 (.load (some 5) (.t 2)),
       q 1 12 (.call (.f 75) [.t 11] [] false),
       q 2 10 (.mv (.t 12)),
       q 3 13 (.extract (.t 10) 0),
       q 4 14 (.extract (.t 10) 1),
       q 5 4 (.mv (.t 13)),
       q 6 6 (.mv (.t 14))]
      [1, 2, 4, 5, 6])
   (.seq
    (.block 0
     (.seq
      (.region false 0 []
      [q 0 16 (.mv (.t 6)),
       q 1 17 (.bin .neq (.t 16) (.c (.lit (.int .i64 0)))),
       q 2 15 (.mv (.t 17))]
      [1, 2, 4, 5, 6, 15])
      (.cond (.t 15)
       (.seq
        (.region true 0 []
      [q 0 18 (.load (some 6) (.t 5)),
       q 2 4 (.mv (.c (.lit (.pointer none)))),
       r 3 (.store 6 (.t 5) (.t 18)),
       q 1 19 (.mv (.t 6)),
       q 4 6 (.mv (.t 19))]
      [4, 5, 6])
        .ret)
       (.seq
        (.region false 0 []
      [q 0 21 (.mv (.t 1)),
       q 1 22 (.lenL (.t 21)),
       q 2 23 (.fieldAddr 3 (.t 2)),
       q 3 24 (.load none (.t 23)),
       q 4 25 (.lenL (.t 24)),
       q 5 26 (.bin .neq (.t 22) (.t 25)),
       q 6 20 (.mv (.t 26))]
      [1, 2, 4, 5, 20])
        (.cond (.t 20)
         (.seq
          (.region true 0 []
      [q 0 27 (.load (some 6) (.t 5)),
       q 1 4 (.mv (.c (.lit (.pointer none)))),
       r 2 (.store 6 (.t 5) (.t 27)),
       q 3 6 (.mv (.c (.lit (.int .i64 3))))]
      [4, 5, 6])
          .ret)
         (.seq
          (.region false 0 []
      [q 0 29 (.fieldAddr 0 (.t 2)),
       q 1 30 (.load none (.t 29)),
       q 2 31 (.lenL (.t 30)),
       q 3 32 (.bin .sub (.t 31) (.c (.lit (.int .i64 1)))),
       q 4 33 (.mv (.t 1)),
       q 5 34 (.call (.f 56) [.c (.lit (.int .i64 (-1))), .t 32, .t 33] [] false),
       q 6 28 (.mv (.t 34))]
      [1, 4, 5, 28])
          (.cond (.t 28)
           (.seq
            (.region true 0 []
      [q 0 35 (.load (some 6) (.t 5)),
       q 1 4 (.mv (.c (.lit (.pointer none)))),
       r 2 (.store 6 (.t 5) (.t 35)),
       q 3 6 (.mv (.c (.lit (.int .i64 4))))]
      [4, 5, 6])
            .ret)
           .skip)))))))
    (.seq
     (.seq
      (.region false 0 []
      [q 0 36 (.mv (.t 1)),
       q 1 37 (.lenL (.t 36)),
       q 2 38 (.mv (.c (.lit (.int .i64 0))))]
      [1, 4, 5, 36, 37, 38])
      (.block 1
       (.loop true [1, 4, 5, 36, 37, 38]
        (.seq
         (.region false 0 []
      [q 0 39 (.bin .lss (.t 38) (.t 37))]
      [1, 4, 5, 36, 37, 38, 39])
         (.seq
          (.cond (.t 39)
           .skip
           (.exit 1))
          (.seq
           (.block 2
            (.seq
             (.region false 0 []
      [q 0 40 (.mv (.t 38)),
       q 1 41 (.idxS 1 (.t 36) (.t 38)),
       q 2 42 (.load none (.t 41)),
       q 3 7 (.mv (.t 40)),
       q 4 8 (.mv (.t 42))]
      [1, 4, 5, 7, 8, 36, 37, 38])
             (.region false 0 []
      [q 0 43 (.mv (.t 7)),
       q 1 44 (.mv (.t 8)),
       q 2 45 (.bin .add (.t 44) (.c (.lit (.int .i64 1)))),
       q 3 46 (.idxA 1 6 (.t 5) (.t 43)),
       r 4 (.store 1 (.t 46) (.t 45))]
      [1, 4, 5, 36, 37, 38])))
           (.region false 0 []
      [q 0 47 (.bin .add (.t 38) (.c (.lit (.int .i64 1)))),
       q 1 38 (.mv (.t 47))]
      [1, 4, 5, 36, 37, 38])))))))
     (.seq
      (.seq
       (.region false 0 []
      [q 0 48 (.mv (.t 1)),
       q 1 49 (.lenL (.t 48)),
       q 2 50 (.mv (.c (.lit (.int .i64 0))))]
      [4, 5, 49, 50])
       (.block 3
        (.loop true [4, 5, 49, 50]
         (.seq
          (.region false 0 []
      [q 0 51 (.bin .lss (.t 50) (.t 49))]
      [4, 5, 49, 50, 51])
          (.seq
           (.cond (.t 51)
            .skip
            (.exit 3))
           (.seq
            (.block 4
             (.seq
              (.region false 0 []
      [q 0 52 (.mv (.t 50)),
       q 1 9 (.mv (.t 52))]
      [4, 5, 9, 49, 50])
              (.seq
               (.region false 0 []
      [q 0 53 (.mv (.t 4)),
       q 1 54 (.load (some 6) (.t 5)),
       q 2 55 (.mv (.t 9)),
       q 3 56 (.call (.f 80) [.t 53, .t 54, .t 55] [] false),
       q 4 57 (.un .not (.t 56))]
      [4, 5, 49, 50, 57])
               (.cond (.t 57)
                (.seq
                 (.region true 0 []
      [q 0 58 (.load (some 6) (.t 5)),
       q 1 4 (.mv (.c (.lit (.pointer none)))),
       r 2 (.store 6 (.t 5) (.t 58)),
       q 3 6 (.mv (.c (.lit (.int .i64 9))))]
      [4, 5, 6])
                 .ret)
                .skip))))
            (.region false 0 []
      [q 0 59 (.bin .add (.t 50) (.c (.lit (.int .i64 1)))),
       q 1 50 (.mv (.t 59))]
      [4, 5, 49, 50])))))))
      (.seq
       (.region true 0 []
      [q 0 60 (.mv (.t 4)),
       q 1 61 (.load (some 6) (.t 5)),
       q 2 4 (.mv (.t 60)),
       r 3 (.store 6 (.t 5) (.t 61)),
       q 4 6 (.mv (.c (.lit (.int .i64 0))))]
      [4, 5, 6])
       .ret))))))
def a64 : AFunc := ⟨2, c64, [.tmp 4, .cell 5 (some 6), .tmp 6]⟩
/-- (*ceroplast/van.train).twice -/
def c65 : ACode :=
 (.seq
  (.region false 1 []
      [q 0 4 (.box 6 (.t 1) 0),
       q 1 6 (.mv (.c (.nils 1)))]
      [0, 2, 4])
  (.seq
   (.region false 1 []
      [q 0 13 (.mv (.t 0)),
       q 1 14 (.nilck (.t 13)),
       q 2 15 (.fieldAddr 0 (.t 14)),
       q 3 16 (.fieldAddr 1 (.t 15)),
       q 4 17 (.load none (.t 16)),
       q 5 18 (.mkslice 1 8 [.lit (.int .i64 0)] (.t 17) (.t 17) 0),
       q 6 7 (.mv (.t 18))]
      [0, 2, 4, 7])
   (.seq
    (.seq
     (.region false 0 []
      [q 0 19 (.mv (.t 0)),
       q 1 20 (.nilck (.t 19)),
       q 2 21 (.fieldAddr 0 (.t 20)),
       q 3 22 (.fieldAddr 3 (.t 21)),
       q 4 23 (.load none (.t 22)),
       q 5 24 (.lenL (.t 23)),
       q 6 25 (.mv (.c (.lit (.int .i64 0))))]
      [0, 2, 4, 7, 23, 24, 25])
     (.block 0
      (.loop true [0, 2, 4, 7, 23, 24, 25]
       (.seq
        (.region false 0 []
      [q 0 26 (.bin .lss (.t 25) (.t 24))]
      [0, 2, 4, 7, 23, 24, 25, 26])
        (.seq
         (.cond (.t 26)
          .skip
          (.exit 0))
         (.seq
          (.block 1
           (.seq
            (.region false 1 []
      [q 0 27 (.mv (.t 25)),
       q 1 28 (.idxS 4 (.t 23) (.t 25)),
       q 2 29 (.load (some 4) (.t 28)),
       q 3 9 (.alloc [.lit (.string ⟨#[]⟩), .lit (.int .i64 0), .lit (.int .i64 0), .lit (.int .i64 0)] [] 0),
       q 4 8 (.mv (.t 27)),
       r 5 (.store 4 (.t 9) (.t 29))]
      [0, 2, 4, 7, 8, 9, 23, 24, 25])
            (.seq
             (.seq
              (.region false 0 []
      [q 0 30 (.mv (.t 8)),
       q 1 31 (.idxA 1 6 (.t 4) (.t 30)),
       q 2 32 (.load none (.t 31)),
       q 3 33 (.mv (.t 2)),
       q 4 34 (.bin .add (.t 33) (.c (.lit (.int .i64 1)))),
       q 5 35 (.bin .neq (.t 32) (.t 34))]
      [0, 2, 4, 7, 8, 9, 23, 24, 25, 35])
              (.cond (.t 35)
               (.exit 1)
               .skip))
             (.seq
              (.region false 0 []
      [q 0 10 (.mv (.c (.lit (.int .i64 0))))]
      [0, 2, 4, 7, 8, 9, 10, 23, 24, 25])
              (.seq
               (.region false 0 []
      [q 0 36 (.mv (.t 0)),
       q 1 37 (.nilck (.t 36)),
       q 2 38 (.fieldAddr 0 (.t 37)),
       q 3 39 (.fieldAddr 3 (.t 38)),
       q 4 40 (.load none (.t 39)),
       q 5 41 (.mv (.t 8)),
       q 6 42 (.sliceQ 4 (.t 40) none (some (.t 41))),
       q 7 43 (.lenL (.t 42)),
       q 8 44 (.mv (.c (.lit (.int .i64 0))))]
      [0, 2, 4, 7, 9, 10, 23, 24, 25, 42, 43, 44])
               (.block 2
                (.loop true [0, 2, 4, 7, 9, 10, 23, 24, 25, 42, 43, 44]
                 (.seq
                  (.region false 0 []
      [q 0 45 (.bin .lss (.t 44) (.t 43))]
      [0, 2, 4, 7, 9, 10, 23, 24, 25, 42, 43, 44, 45])
                  (.seq
                   (.cond (.t 45)
                    .skip
                    (.exit 2))
                   (.seq
                    (.block 3
                     (.seq
                      (.region false 1 []
      [q 0 46 (.mv (.t 44)),
       q 1 47 (.idxS 4 (.t 42) (.t 44)),
       q 2 48 (.load (some 4) (.t 47)),
       q 3 12 (.alloc [.lit (.string ⟨#[]⟩), .lit (.int .i64 0), .lit (.int .i64 0), .lit (.int .i64 0)] [] 0),
       q 4 11 (.mv (.t 46)),
       r 5 (.store 4 (.t 12) (.t 48))]
      [0, 2, 4, 7, 9, 10, 11, 12, 23, 24, 25, 42, 43, 44])
                      (.seq
                       (.region false 0 []
      [q 0 49 (.mv (.t 11)),
       q 1 50 (.idxA 1 6 (.t 4) (.t 49)),
       q 2 51 (.load none (.t 50)),
       q 3 52 (.mv (.t 2)),
       q 4 53 (.bin .add (.t 52) (.c (.lit (.int .i64 1)))),
       q 5 54 (.bin .eql (.t 51) (.t 53)),
       q 6 55 (.mv (.t 54)),
       ⟨some 56, .fieldAddr 2 (.t 12), some (55, true), [], [], 0, 7⟩,
       ⟨some 57, .load none (.t 56), some (55, true), [], [], 0, 8⟩,
       ⟨some 58, .fieldAddr 2 (.t 9), some (55, true), [], [], 0, 9⟩,
       ⟨some 59, .load none (.t 58), some (55, true), [], [], 0, 10⟩,
       ⟨some 60, .bin .lss (.t 57) (.t 59), some (55, true), [], [], 0, 11⟩,
       q 12 61 (.pick (.t 55) (.t 60) (.c (.lit (.bool false)))),
       q 13 62 (.mv (.t 61)),
       ⟨some 63, .mv (.t 10), some (62, true), [], [], 0, 14⟩,
       ⟨some 64, .fieldAddr 2 (.t 12), some (62, true), [], [], 0, 15⟩,
       ⟨some 65, .load none (.t 64), some (62, true), [], [], 0, 16⟩,
       ⟨some 66, .bin .shr (.t 63) (.t 65), some (62, true), [], [], 0, 17⟩,
       ⟨some 67, .bin .and (.t 66) (.c (.lit (.int .i64 1))), some (62, true), [], [], 0, 18⟩,
       ⟨some 68, .bin .eql (.t 67) (.c (.lit (.int .i64 0))), some (62, true), [], [], 0, 19⟩,
       q 20 69 (.pick (.t 62) (.t 68) (.c (.lit (.bool false))))]
      [0, 2, 4, 7, 9, 10, 12, 23, 24, 25, 42, 43, 44, 69])
                       (.cond (.t 69)
                        (.seq
                         (.region false 0 []
      [q 0 70 (.mv (.t 10)),
       q 1 71 (.fieldAddr 2 (.t 12)),
       q 2 72 (.load none (.t 71)),
       q 3 73 (.bin .shl (.c (.lit (.int .i64 1))) (.t 72)),
       q 4 74 (.bin .or (.t 70) (.t 73)),
       q 5 10 (.mv (.t 74))]
      [0, 2, 4, 7, 9, 10, 12, 23, 24, 25, 42, 43, 44])
                         (.region false 0 []
      [q 0 75 (.mv (.t 7)),
       q 1 76 (.fieldAddr 2 (.t 12)),
       q 2 77 (.load none (.t 76)),
       q 3 78 (.idxS 1 (.t 75) (.t 77)),
       q 4 79 (.load none (.t 78)),
       q 5 80 (.bin .add (.t 79) (.c (.lit (.int .i64 1)))),
       q 6 81 (.idxS 1 (.t 75) (.t 77)),
       r 7 (.store 1 (.t 81) (.t 80))]
      [0, 2, 4, 7, 9, 10, 23, 24, 25, 42, 43, 44]))
                        .skip))))
                    (.region false 0 []
      [q 0 82 (.bin .add (.t 44) (.c (.lit (.int .i64 1)))),
       q 1 44 (.mv (.t 82))]
      [0, 2, 4, 7, 9, 10, 23, 24, 25, 42, 43, 44])))))))))))
          (.region false 0 []
      [q 0 83 (.bin .add (.t 25) (.c (.lit (.int .i64 1)))),
       q 1 25 (.mv (.t 83))]
      [0, 2, 4, 7, 23, 24, 25])))))))
    (.seq
     (.region false 0 []
      [q 0 84 (.mv (.t 7)),
       q 1 6 (.mv (.t 84))]
      [6])
     .ret))))
def a65 : AFunc := ⟨3, c65, [.tmp 6]⟩
/-- (*ceroplast/van.train).times -/
def c68 : ACode :=
 (.seq
  (.region false 2 []
      [q 0 4 (.box 6 (.t 1) 0),
       q 1 6 (.nil 2 1)]
      [0, 2, 4])
  (.seq
   (.region true 1 []
      [q 0 11 (.mv (.t 0)),
       q 1 12 (.nilck (.t 11)),
       q 2 13 (.fieldAddr 0 (.t 12)),
       q 3 14 (.fieldAddr 0 (.t 13)),
       ⟨some 15, .load none (.t 14), none, [0], [], 0, 4⟩,
       q 5 16 (.mv (.t 2)),
       ⟨some 17, .idxS 4 (.t 15) (.t 16), none, [0], [], 0, 6⟩,
       q 7 18 (.fieldAddr 2 (.t 17)),
       ⟨some 19, .load none (.t 18), none, [0], [], 0, 8⟩,
       q 9 20 (.mv (.t 0)),
       q 10 21 (.nilck (.t 20)),
       q 11 22 (.fieldAddr 0 (.t 21)),
       q 12 23 (.fieldAddr 0 (.t 22)),
       ⟨some 24, .load none (.t 23), none, [0], [], 0, 13⟩,
       q 14 25 (.mv (.t 2)),
       ⟨some 26, .idxS 4 (.t 24) (.t 25), none, [0], [], 0, 15⟩,
       q 16 27 (.fieldAddr 2 (.t 26)),
       ⟨some 28, .load none (.t 27), none, [0], [], 0, 17⟩,
       q 18 29 (.build [.lit (.int .i64 0), .lit (.int .i64 0)] [(0, 1, .t 19), (1, 1, .t 28)]),
       q 19 7 (.alloc [.lit (.int .i64 0), .lit (.int .i64 0)] [] 0),
       r 20 (.store 2 (.t 7) (.t 29))]
      [0, 2, 4, 7])
   (.seq
    (.region false 1 []
      [q 0 8 (.nil 2 0)]
      [0, 2, 4, 7, 8])
    (.seq
     (.seq
      (.region false 0 []
      [q 0 30 (.mv (.t 0)),
       q 1 31 (.load (some 6) (.t 4)),
       q 2 32 (.mv (.t 2)),
       q 3 33 (.call (.f 65) [.t 30, .t 31, .t 32] [] false),
       q 4 34 (.lenL (.t 33)),
       q 5 35 (.mv (.c (.lit (.int .i64 0))))]
      [0, 2, 7, 8, 33, 34, 35])
      (.block 0
       (.loop true [0, 2, 7, 8, 33, 34, 35]
        (.seq
         (.region false 0 []
      [q 0 36 (.bin .lss (.t 35) (.t 34))]
      [0, 2, 7, 8, 33, 34, 35, 36])
         (.seq
          (.cond (.t 36)
           .skip
           (.exit 0))
          (.seq
           (.block 1
            (.seq
             (.region false 0 []
      [q 0 37 (.mv (.t 35)),
       q 1 38 (.idxS 1 (.t 33) (.t 35)),
       q 2 39 (.load none (.t 38)),
       q 3 9 (.mv (.t 37)),
       q 4 10 (.mv (.t 39))]
      [0, 2, 7, 8, 9, 10, 33, 34, 35])
             (.seq
              (.region true 0 []
      [q 0 40 (.fieldAddr 0 (.t 7)),
       q 1 41 (.load none (.t 40)),
       q 2 42 (.mv (.t 0)),
       q 3 43 (.nilck (.t 42)),
       q 4 44 (.fieldAddr 0 (.t 43)),
       q 5 45 (.fieldAddr 0 (.t 44)),
       q 6 46 (.load none (.t 45)),
       q 7 47 (.mv (.t 2)),
       q 8 48 (.idxS 4 (.t 46) (.t 47)),
       q 9 49 (.fieldAddr 3 (.t 48)),
       q 10 50 (.load none (.t 49)),
       q 11 51 (.mv (.t 9)),
       q 12 52 (.idxS 2 (.t 50) (.t 51)),
       q 13 53 (.fieldAddr 0 (.t 52)),
       q 14 54 (.load none (.t 53)),
       q 15 55 (.bin .add (.t 41) (.t 54)),
       q 16 56 (.fieldAddr 0 (.t 7)),
       r 17 (.store 1 (.t 56) (.t 55))]
      [0, 2, 7, 8, 9, 10, 33, 34, 35])
              (.seq
               (.region true 0 []
      [q 0 57 (.fieldAddr 1 (.t 7)),
       q 1 58 (.load none (.t 57)),
       q 2 59 (.mv (.t 0)),
       q 3 60 (.nilck (.t 59)),
       q 4 61 (.fieldAddr 0 (.t 60)),
       q 5 62 (.fieldAddr 0 (.t 61)),
       q 6 63 (.load none (.t 62)),
       q 7 64 (.mv (.t 2)),
       q 8 65 (.idxS 4 (.t 63) (.t 64)),
       q 9 66 (.fieldAddr 3 (.t 65)),
       q 10 67 (.load none (.t 66)),
       q 11 68 (.mv (.t 9)),
       q 12 69 (.idxS 2 (.t 67) (.t 68)),
       q 13 70 (.fieldAddr 1 (.t 69)),
       q 14 71 (.load none (.t 70)),
       q 15 72 (.bin .add (.t 58) (.t 71)),
       q 16 73 (.fieldAddr 1 (.t 7)),
       r 17 (.store 1 (.t 73) (.t 72))]
      [0, 2, 7, 8, 10, 33, 34, 35])
               (.seq
                (.region false 0 []
      [q 0 74 (.mv (.t 8)),
       q 1 75 (.load (some 2) (.t 7)),
       q 2 76 (.lits 2 [.lit (.int .i64 0), .lit (.int .i64 0)] 1 [(0, .t 75)] none),
       q 3 77 (.append 2 16 (.t 74) (.t 76) none false),
       q 4 8 (.mv (.t 77))]
      [0, 2, 7, 8, 10, 33, 34, 35])
                (.seq
                 (.region true 0 []
      [q 0 78 (.fieldAddr 0 (.t 7)),
       q 1 79 (.load none (.t 78)),
       q 2 80 (.mv (.t 10)),
       q 3 81 (.mv (.t 0)),
       q 4 82 (.nilck (.t 81)),
       q 5 83 (.fieldAddr 0 (.t 82)),
       q 6 84 (.fieldAddr 2 (.t 83)),
       q 7 85 (.load none (.t 84)),
       q 8 86 (.bin .mul (.t 80) (.t 85)),
       q 9 87 (.bin .add (.t 79) (.t 86)),
       q 10 88 (.fieldAddr 0 (.t 7)),
       r 11 (.store 1 (.t 88) (.t 87))]
      [0, 2, 7, 8, 10, 33, 34, 35])
                 (.region true 0 []
      [q 0 89 (.fieldAddr 1 (.t 7)),
       q 1 90 (.load none (.t 89)),
       q 2 91 (.mv (.t 10)),
       q 3 92 (.mv (.t 0)),
       q 4 93 (.nilck (.t 92)),
       q 5 94 (.fieldAddr 0 (.t 93)),
       q 6 95 (.fieldAddr 2 (.t 94)),
       q 7 96 (.load none (.t 95)),
       q 8 97 (.bin .mul (.t 91) (.t 96)),
       q 9 98 (.bin .add (.t 90) (.t 97)),
       q 10 99 (.fieldAddr 1 (.t 7)),
       r 11 (.store 1 (.t 99) (.t 98))]
      [0, 2, 7, 8, 33, 34, 35])))))))
           (.region false 0 []
      [q 0 100 (.bin .add (.t 35) (.c (.lit (.int .i64 1)))),
       q 1 35 (.mv (.t 100))]
      [0, 2, 7, 8, 33, 34, 35])))))))
     (.seq
      (.region false 0 []
      [q 0 101 (.mv (.t 8)),
       q 1 6 (.mv (.t 101))]
      [6])
      .ret)))))
def a68 : AFunc := ⟨3, c68, [.tmp 6]⟩
/-- (*ceroplast/van.train).there -/
def c70 : ACode :=
 (.seq
  (.region false 1 []
      [q 0 4 (.box 6 (.t 1) 0),
       q 1 6 (.mv (.c (.lit (.int .i64 0))))]
      [0, 2, 4])
  (.seq
   (.seq
    (.region false 0 []
      [q 0 9 (.mv (.t 2)),
       q 1 10 (.idxA 1 6 (.t 4) (.t 9)),
       q 2 11 (.load none (.t 10)),
       q 3 12 (.bin .eql (.t 11) (.c (.lit (.int .i64 0))))]
      [0, 2, 4, 12])
    (.cond (.t 12)
     (.seq
      (.region false 0 []
      [q 0 6 (.mv (.c (.lit (.int .i64 2))))]
      [6])
      .ret)
     .skip))
   (.seq
    (.region false 1 []
      [q 0 13 (.mv (.t 0)),
       q 1 14 (.nilck (.t 13)),
       q 2 15 (.fieldAddr 0 (.t 14)),
       q 3 16 (.fieldAddr 3 (.t 15)),
       q 4 17 (.load none (.t 16)),
       q 5 18 (.mv (.t 2)),
       q 6 19 (.idxS 4 (.t 17) (.t 18)),
       q 7 20 (.load (some 4) (.t 19)),
       q 8 7 (.alloc [.lit (.string ⟨#[]⟩), .lit (.int .i64 0), .lit (.int .i64 0), .lit (.int .i64 0)] [] 0),
       r 9 (.store 4 (.t 7) (.t 20))]
      [0, 2, 4, 7])
    (.seq
     (.seq
      (.region true 1 []
      [q 0 21 (.mv (.t 0)),
       ⟨some 22, .load (some 6) (.t 4), none, [0], [], 0, 1⟩,
       q 2 23 (.mv (.t 2)),
       q 3 24 (.idxA 1 6 (.t 4) (.t 23)),
       ⟨some 25, .load none (.t 24), none, [0], [], 0, 4⟩,
       q 5 26 (.bin .sub (.t 25) (.c (.lit (.int .i64 1)))),
       ⟨some 27, .call (.f 68) [.t 21, .t 22, .t 26] [] true, none, [0], [], 0, 6⟩,
       q 7 28 (.fieldAddr 2 (.t 7)),
       ⟨some 29, .load none (.t 28), none, [0], [], 0, 8⟩,
       ⟨some 30, .idxS 2 (.t 27) (.t 29), none, [0], [], 0, 9⟩,
       ⟨some 31, .load (some 2) (.t 30), none, [0], [], 0, 10⟩,
       q 11 8 (.alloc [.lit (.int .i64 0), .lit (.int .i64 0)] [] 0),
       r 12 (.store 2 (.t 8) (.t 31))]
      [7, 8])
      (.block 0
       (.seq
        (.region false 0 []
      [q 0 33 (.fieldAddr 1 (.t 8)),
       q 1 34 (.load none (.t 33)),
       q 2 35 (.fieldAddr 3 (.t 7)),
       q 3 36 (.load none (.t 35)),
       q 4 37 (.bin .leq (.t 34) (.t 36)),
       q 5 32 (.mv (.t 37))]
      [7, 8, 32])
        (.cond (.t 32)
         (.seq
          (.region false 0 []
      [q 0 6 (.mv (.c (.lit (.int .i64 1))))]
      [6])
          .ret)
         (.seq
          (.region false 0 []
      [q 0 39 (.fieldAddr 0 (.t 8)),
       q 1 40 (.load none (.t 39)),
       q 2 41 (.fieldAddr 3 (.t 7)),
       q 3 42 (.load none (.t 41)),
       q 4 43 (.bin .gtr (.t 40) (.t 42)),
       q 5 38 (.mv (.t 43))]
      [38])
          (.cond (.t 38)
           (.seq
            (.region false 0 []
      [q 0 6 (.mv (.c (.lit (.int .i64 2))))]
      [6])
            .ret)
           .skip))))))
     (.seq
      (.region false 0 []
      [q 0 6 (.mv (.c (.lit (.int .i64 0))))]
      [6])
      .ret)))))
def a70 : AFunc := ⟨3, c70, [.tmp 6]⟩
/-- ceroplast/ceroplastlaw06.Lone -/
def c72 : ACode :=
 (.seq
  (.region false 1 []
      [q 0 0 (.alloc [.nils 4, .lit (.int .i64 0), .lit (.int .i64 0), .nils 4, .nils 2] [] 0)]
      [0])
  (.seq
   (.region false 5 []
      [q 0 3 (.call (.f 37) [] [[(0, 0), (3, 1)]] false),
       q 1 1 (.alloc [.nils 4, .lit (.int .i64 0), .lit (.int .i64 0), .nils 4, .nils 2] [(0, 2, 4), (3, 3, 4)] 4),
       r 2 (.store 5 (.t 1) (.t 3))]
      [0, 1])
   (.seq
    (.region false 1 []
      [q 0 4 (.fieldAddr 0 (.t 1)),
       q 1 5 (.load none (.t 4)),
       q 2 6 (.cut 4 (.t 5) (some (.c (.lit (.int .i64 1)))) 0),
       q 3 7 (.fieldAddr 0 (.t 1)),
       r 4 (.store 1 (.t 7) (.t 6))]
      [0, 1])
    (.seq
     (.region false 0 []
      [q 0 8 (.fieldAddr 0 (.t 1)),
       q 1 9 (.load none (.t 8)),
       q 2 10 (.idxS 4 (.t 9) (.c (.lit (.int .i64 0)))),
       q 3 11 (.fieldAddr 1 (.t 10)),
       r 4 (.store 1 (.t 11) (.c (.lit (.int .i64 9))))]
      [0, 1])
     (.seq
      (.seq
       (.region false 0 []
      [q 0 2 (.mv (.c (.lit (.int .i64 0))))]
      [0, 1, 2])
       (.block 0
        (.loop true [0, 1, 2]
         (.seq
          (.seq
           (.region false 0 []
      [q 0 12 (.mv (.t 2)),
       q 1 13 (.fieldAddr 3 (.t 1)),
       q 2 14 (.load none (.t 13)),
       q 3 15 (.lenL (.t 14)),
       q 4 16 (.bin .lss (.t 12) (.t 15))]
      [0, 1, 2, 16])
           (.cond (.t 16)
            .skip
            (.exit 0)))
          (.seq
           (.block 1
            (.region false 0 []
      [q 0 19 (.fieldAddr 3 (.t 1)),
       q 1 20 (.load none (.t 19)),
       q 2 21 (.mv (.t 2)),
       q 3 22 (.idxS 4 (.t 20) (.t 21)),
       q 4 23 (.fieldAddr 3 (.t 22)),
       r 5 (.store 1 (.t 23) (.c (.lit (.int .i64 400))))]
      [0, 1, 2]))
           (.region false 0 []
      [q 0 17 (.mv (.t 2)),
       q 1 18 (.bin .add (.t 17) (.c (.lit (.int .i64 1)))),
       q 2 2 (.mv (.t 18))]
      [0, 1, 2]))))))
      (.seq
       (.region false 0 []
      [q 0 24 (.load (some 5) (.t 1)),
       r 1 (.store 5 (.t 0) (.t 24))]
      [0])
       .ret))))))
def a72 : AFunc := ⟨0, c72, [.cell 0 (some 5)]⟩
/-- ceroplast/van.enter -/
def c75 : ACode :=
 (.seq
  (.region false 1 []
      [q 0 1 (.box 5 (.t 0) 0),
       q 1 2 (.mv (.c (.lit (.pointer none)))),
       q 2 3 (.mv (.c (.lit (.int .i64 0))))]
      [1])
  (.seq
   (.seq
    (.region false 0 []
      [q 0 8 (.load (some 5) (.t 1)),
       q 1 9 (.call (.f 16) [.t 8] [] false),
       q 2 7 (.mv (.t 9)),
       q 3 10 (.extract (.t 7) 0),
       q 4 11 (.extract (.t 7) 1),
       q 5 12 (.extract (.t 7) 2),
       q 6 4 (.mv (.t 10)),
       q 7 5 (.mv (.t 11)),
       q 8 6 (.mv (.t 12))]
      [1, 6])
    (.seq
     (.region false 0 []
      [q 0 13 (.mv (.t 6)),
       q 1 14 (.bin .neq (.t 13) (.c (.lit (.int .i64 0))))]
      [1, 6, 14])
     (.cond (.t 14)
      (.seq
       (.region false 0 []
      [q 0 15 (.mv (.t 6)),
       q 1 2 (.mv (.c (.lit (.pointer none)))),
       q 2 3 (.mv (.t 15))]
      [2, 3])
       .ret)
      .skip)))
   (.seq
    (.region false 2 []
      [q 0 16 (.load (some 5) (.t 1)),
       q 1 17 (.mkmap 0),
       q 2 18 (.build [.nils 4, .lit (.int .i64 0), .lit (.int .i64 0), .nils 4, .nils 2, .lit (.map none)] [(0, 5, .t 16), (5, 1, .t 17)]),
       q 3 19 (.box 6 (.t 18) 1),
       q 4 2 (.mv (.t 19)),
       q 5 3 (.mv (.c (.lit (.int .i64 0))))]
      [2, 3])
    .ret)))
def a75 : AFunc := ⟨1, c75, [.tmp 2, .tmp 3]⟩
/-- (*ceroplast/van.train).plans -/
def c76 : ACode :=
 (.seq
  (.region false 1 []
      [q 0 1 (.box 1 (.t 0) 0),
       q 1 2 (.mv (.c (.lit .nilFunc)))]
      [1])
  (.seq
   (.region false 0 []
      [q 0 3 (.mkfn (.func 98) [] [.t 1]),
       q 1 2 (.mv (.t 3))]
      [2])
   .ret))
def a76 : AFunc := ⟨1, c76, [.tmp 2]⟩
/-- (*ceroplast/van.train).look -/
def c77 : ACode :=
 (.seq
  (.region false 2 []
      [q 0 3 (.box 6 (.t 1) 0),
       q 1 4 (.alloc [.lit (.int .i64 0), .lit (.int .i64 0), .lit (.int .i64 0)] [] 1)]
      [0, 3, 4])
  (.seq
   (.seq
    (.region true 1 []
      [q 0 16 (.mv (.t 0)),
       q 1 17 (.nilck (.t 16)),
       q 2 18 (.fieldAddr 5 (.t 17)),
       ⟨some 19, .load none (.t 18), none, [0], [], 0, 3⟩,
       ⟨some 20, .load (some 6) (.t 3), none, [0], [], 0, 4⟩,
       ⟨some 21, .lookup (.agg [.lit (.int .i64 0), .lit (.int .i64 0), .lit (.int .i64 0)]) true [0, 0, 0, 0, 0, 0] (.t 19) (.t 20) true, none, [0], [], 0, 5⟩,
       q 6 15 (.mv (.t 21)),
       q 7 22 (.extract (.t 15) 0),
       q 9 5 (.alloc [.lit (.int .i64 0), .lit (.int .i64 0), .lit (.int .i64 0)] [] 0),
       r 10 (.store 3 (.t 5) (.t 22)),
       q 8 23 (.extract (.t 15) 1),
       q 11 6 (.mv (.t 23))]
      [0, 3, 4, 5, 6])
    (.seq
     (.region false 0 []
      [q 0 24 (.mv (.t 6))]
      [0, 3, 4, 5, 24])
     (.cond (.t 24)
      (.seq
       (.region false 0 []
      [q 0 25 (.load (some 3) (.t 5)),
       r 1 (.store 3 (.t 4) (.t 25))]
      [4])
       .ret)
      .skip)))
   (.seq
    (.region false 1 []
      [q 0 7 (.alloc [.lit (.int .i64 0), .lit (.int .i64 0), .lit (.int .i64 0)] [] 0)]
      [0, 3, 4, 7])
    (.seq
     (.region false 0 []
      [q 0 26 (.mv (.t 0)),
       q 1 27 (.mkfn (.func 70) [.t 26] []),
       q 2 8 (.mv (.t 27))]
      [0, 3, 4, 7, 8])
     (.seq
      (.region false 1 []
      [q 0 9 (.alloc [.nils 2, .nils 2, .nils 2] [] 0)]
      [0, 3, 4, 7, 8, 9])
      (.seq
       (.seq
        (.region false 0 []
      [q 0 28 (.mv (.t 0)),
       q 1 29 (.nilck (.t 28)),
       q 2 30 (.fieldAddr 0 (.t 29)),
       q 3 31 (.fieldAddr 0 (.t 30)),
       q 4 32 (.load none (.t 31)),
       q 5 33 (.lenL (.t 32)),
       q 6 34 (.mv (.c (.lit (.int .i64 0))))]
      [0, 3, 4, 7, 8, 9, 33, 34])
        (.block 0
         (.loop true [0, 3, 4, 7, 8, 9, 33, 34]
          (.seq
           (.region false 0 []
      [q 0 35 (.bin .lss (.t 34) (.t 33))]
      [0, 3, 4, 7, 8, 9, 33, 34, 35])
           (.seq
            (.cond (.t 35)
             .skip
             (.exit 0))
            (.seq
             (.block 1
              (.seq
               (.region false 0 []
      [q 0 36 (.mv (.t 34)),
       q 1 10 (.mv (.t 36))]
      [0, 3, 4, 7, 8, 9, 10, 33, 34])
               (.seq
                (.region false 0 []
      [q 0 37 (.mv (.t 10)),
       q 1 38 (.mv (.t 0)),
       q 2 39 (.load (some 6) (.t 3)),
       q 3 40 (.mv (.t 10)),
       q 4 41 (.call (.f 68) [.t 38, .t 39, .t 40] [] false),
       q 5 42 (.idxA 1 3 (.t 9) (.t 37)),
       r 6 (.store 1 (.t 42) (.t 41))]
      [0, 3, 4, 7, 8, 9, 10, 33, 34])
                (.seq
                 (.region false 0 []
      [q 0 43 (.mv (.t 0)),
       q 1 44 (.load (some 6) (.t 3)),
       q 2 45 (.mv (.t 10)),
       q 3 46 (.call (.f 65) [.t 43, .t 44, .t 45] [] false),
       q 4 47 (.lenL (.t 46)),
       q 5 48 (.mv (.c (.lit (.int .i64 0))))]
      [0, 3, 4, 7, 8, 9, 33, 34, 46, 47, 48])
                 (.block 2
                  (.loop true [0, 3, 4, 7, 8, 9, 33, 34, 46, 47, 48]
                   (.seq
                    (.region false 0 []
      [q 0 49 (.bin .lss (.t 48) (.t 47))]
      [0, 3, 4, 7, 8, 9, 33, 34, 46, 47, 48, 49])
                    (.seq
                     (.cond (.t 49)
                      .skip
                      (.exit 2))
                     (.seq
                      (.block 3
                       (.seq
                        (.region false 0 []
      [q 0 50 (.idxS 1 (.t 46) (.t 48)),
       q 1 51 (.load none (.t 50)),
       q 2 12 (.mv (.t 51))]
      [0, 3, 4, 7, 8, 9, 12, 33, 34, 46, 47, 48])
                        (.region false 0 []
      [q 0 52 (.fieldAddr 1 (.t 7)),
       q 1 53 (.load none (.t 52)),
       q 2 54 (.mv (.t 12)),
       q 3 55 (.bin .add (.t 53) (.t 54)),
       q 4 56 (.fieldAddr 1 (.t 7)),
       r 5 (.store 1 (.t 56) (.t 55))]
      [0, 3, 4, 7, 8, 9, 33, 34, 46, 47, 48])))
                      (.region false 0 []
      [q 0 57 (.bin .add (.t 48) (.c (.lit (.int .i64 1)))),
       q 1 48 (.mv (.t 57))]
      [0, 3, 4, 7, 8, 9, 33, 34, 46, 47, 48]))))))))))
             (.region false 0 []
      [q 0 58 (.bin .add (.t 34) (.c (.lit (.int .i64 1)))),
       q 1 34 (.mv (.t 58))]
      [0, 3, 4, 7, 8, 9, 33, 34])))))))
       (.seq
        (.seq
         (.region false 0 []
      [q 0 59 (.mv (.t 0)),
       q 1 60 (.nilck (.t 59)),
       q 2 61 (.fieldAddr 0 (.t 60)),
       q 3 62 (.fieldAddr 3 (.t 61)),
       q 4 63 (.load none (.t 62)),
       q 5 64 (.lenL (.t 63)),
       q 6 65 (.mv (.c (.lit (.int .i64 0))))]
      [0, 3, 4, 7, 8, 9, 63, 64, 65])
         (.block 4
          (.loop true [0, 3, 4, 7, 8, 9, 63, 64, 65]
           (.seq
            (.region false 0 []
      [q 0 66 (.bin .lss (.t 65) (.t 64))]
      [0, 3, 4, 7, 8, 9, 63, 64, 65, 66])
            (.seq
             (.cond (.t 66)
              .skip
              (.exit 4))
             (.seq
              (.block 5
               (.seq
                (.region false 1 []
      [q 0 67 (.mv (.t 65)),
       q 1 68 (.idxS 4 (.t 63) (.t 65)),
       q 2 69 (.load (some 4) (.t 68)),
       q 3 14 (.alloc [.lit (.string ⟨#[]⟩), .lit (.int .i64 0), .lit (.int .i64 0), .lit (.int .i64 0)] [] 0),
       q 4 13 (.mv (.t 67)),
       r 5 (.store 4 (.t 14) (.t 69))]
      [0, 3, 4, 7, 8, 9, 13, 14, 63, 64, 65])
                (.seq
                 (.seq
                  (.region false 0 []
      [q 0 70 (.mv (.t 8)),
       q 1 71 (.load (some 6) (.t 3)),
       q 2 72 (.mv (.t 13)),
       q 3 73 (.call (.t 70) [.t 71, .t 72] [] false),
       q 4 74 (.bin .eql (.t 73) (.c (.lit (.int .i64 1))))]
      [0, 3, 4, 7, 8, 9, 13, 14, 63, 64, 65, 74])
                  (.cond (.t 74)
                   (.region false 0 []
      [q 0 75 (.fieldAddr 0 (.t 7)),
       q 1 76 (.load none (.t 75)),
       q 2 77 (.bin .add (.t 76) (.c (.lit (.int .i64 1)))),
       q 3 78 (.fieldAddr 0 (.t 7)),
       r 4 (.store 1 (.t 78) (.t 77))]
      [0, 3, 4, 7, 8, 9, 13, 14, 63, 64, 65])
                   .skip))
                 (.seq
                  (.region false 0 []
      [q 0 79 (.mv (.t 13)),
       q 1 80 (.idxA 1 6 (.t 3) (.t 79)),
       q 2 81 (.load none (.t 80)),
       q 3 82 (.bin .eql (.t 81) (.c (.lit (.int .i64 0))))]
      [0, 3, 4, 7, 8, 9, 13, 14, 63, 64, 65, 82])
                  (.cond (.t 82)
                   (.region false 0 []
      [q 0 83 (.fieldAddr 2 (.t 7)),
       r 1 (.store 1 (.t 83) (.c (.lit (.int .i64 301))))]
      [0, 3, 4, 7, 8, 9, 63, 64, 65])
                   (.region true 0 []
      [q 0 84 (.fieldAddr 2 (.t 7)),
       q 1 85 (.load none (.t 84)),
       q 2 86 (.mv (.t 13)),
       q 3 87 (.idxA 1 6 (.t 3) (.t 86)),
       q 4 88 (.load none (.t 87)),
       q 5 89 (.bin .sub (.t 88) (.c (.lit (.int .i64 1)))),
       q 6 90 (.idxA 1 3 (.t 9) (.t 89)),
       q 7 91 (.load none (.t 90)),
       q 8 92 (.fieldAddr 2 (.t 14)),
       q 9 93 (.load none (.t 92)),
       q 10 94 (.idxS 2 (.t 91) (.t 93)),
       q 11 95 (.fieldAddr 1 (.t 94)),
       q 12 96 (.load none (.t 95)),
       q 13 97 (.fieldAddr 3 (.t 14)),
       q 14 98 (.load none (.t 97)),
       q 15 99 (.bin .sub (.t 96) (.t 98)),
       q 16 100 (.mm true [.t 85, .t 99]),
       q 17 101 (.fieldAddr 2 (.t 7)),
       r 18 (.store 1 (.t 101) (.t 100))]
      [0, 3, 4, 7, 8, 9, 63, 64, 65]))))))
              (.region false 0 []
      [q 0 102 (.bin .add (.t 65) (.c (.lit (.int .i64 1)))),
       q 1 65 (.mv (.t 102))]
      [0, 3, 4, 7, 8, 9, 63, 64, 65])))))))
        (.seq
         (.region true 0 []
      [q 0 103 (.mv (.t 0)),
       q 1 104 (.nilck (.t 103)),
       q 2 105 (.fieldAddr 5 (.t 104)),
       q 3 106 (.load none (.t 105)),
       q 4 107 (.load (some 6) (.t 3)),
       q 5 108 (.load (some 3) (.t 7)),
       r 6 (.mupd true [0, 0, 0, 0, 0, 0] (.t 106) (.t 107) (.t 108))]
      [4, 7])
         (.seq
          (.region false 0 []
      [q 0 109 (.load (some 3) (.t 7)),
       r 1 (.store 3 (.t 4) (.t 109))]
      [4])
          .ret)))))))))
def a77 : AFunc := ⟨2, c77, [.cell 4 (some 3)]⟩
/-- cmp.Or(int) -/
def c78 : ACode :=
 (.seq
  (.region false 0 []
      [q 0 2 (.mv (.c (.lit (.int .i64 0))))]
      [0])
  (.seq
   (.region false 0 []
      [q 0 3 (.mv (.c (.lit (.int .i64 0))))]
      [0, 3])
   (.seq
    (.seq
     (.region false 0 []
      [q 0 6 (.mv (.t 0)),
       q 1 7 (.lenL (.t 6)),
       q 2 8 (.mv (.c (.lit (.int .i64 0))))]
      [3, 6, 7, 8])
     (.block 0
      (.loop true [3, 6, 7, 8]
       (.seq
        (.region false 0 []
      [q 0 9 (.bin .lss (.t 8) (.t 7))]
      [3, 6, 7, 8, 9])
        (.seq
         (.cond (.t 9)
          .skip
          (.exit 0))
         (.seq
          (.block 1
           (.seq
            (.region false 0 []
      [q 0 10 (.idxS 1 (.t 6) (.t 8)),
       q 1 11 (.load none (.t 10)),
       q 2 5 (.mv (.t 11))]
      [3, 5, 6, 7, 8])
            (.seq
             (.region false 0 []
      [q 0 12 (.mv (.t 5)),
       q 1 13 (.mv (.t 3)),
       q 2 14 (.bin .neq (.t 12) (.t 13))]
      [3, 5, 6, 7, 8, 14])
             (.cond (.t 14)
              (.seq
               (.region false 0 []
      [q 0 15 (.mv (.t 5)),
       q 1 2 (.mv (.t 15))]
      [2])
               .ret)
              .skip))))
          (.region false 0 []
      [q 0 16 (.bin .add (.t 8) (.c (.lit (.int .i64 1)))),
       q 1 8 (.mv (.t 16))]
      [3, 6, 7, 8])))))))
    (.seq
     (.region false 0 []
      [q 0 17 (.mv (.t 3)),
       q 1 2 (.mv (.t 17))]
      [2])
     .ret))))
def a78 : AFunc := ⟨1, c78, [.tmp 2]⟩
/-- (*ceroplast/van.train).allowed -/
def c80 : ACode :=
 (.seq
  (.region false 2 []
      [q 0 4 (.box 6 (.t 1) 0),
       q 1 5 (.box 1 (.t 2) 1),
       q 2 6 (.mv (.c (.lit (.bool false))))]
      [0, 4, 5])
  (.seq
   (.region false 0 []
      [q 0 10 (.load none (.t 5)),
       q 1 11 (.idxA 1 6 (.t 4) (.t 10)),
       q 2 12 (.load none (.t 11)),
       q 3 7 (.mv (.t 12))]
      [0, 4, 5, 7])
   (.seq
    (.seq
     (.region false 0 []
      [q 0 13 (.mv (.t 7)),
       q 1 14 (.bin .eql (.t 13) (.c (.lit (.int .i64 0))))]
      [0, 4, 5, 7, 14])
     (.cond (.t 14)
      (.seq
       (.region false 0 []
      [q 0 6 (.mv (.c (.lit (.bool true))))]
      [6])
       .ret)
      .skip))
    (.seq
     (.region false 0 []
      [q 0 8 (.mv (.c (.lit (.int .i64 0))))]
      [0, 4, 5, 7, 8])
     (.seq
      (.seq
       (.region false 0 []
      [q 0 15 (.load none (.t 5)),
       q 1 16 (.bin .add (.t 15) (.c (.lit (.int .i64 1)))),
       q 2 17 (.mv (.c (.lit (.int .i64 0))))]
      [0, 4, 5, 7, 8, 16, 17])
       (.block 0
        (.loop true [0, 4, 5, 7, 8, 16, 17]
         (.seq
          (.region false 0 []
      [q 0 18 (.bin .lss (.t 17) (.t 16))]
      [0, 4, 5, 7, 8, 16, 17, 18])
          (.seq
           (.cond (.t 18)
            .skip
            (.exit 0))
           (.seq
            (.block 1
             (.seq
              (.region false 1 []
      [q 0 19 (.mv (.t 17)),
       q 1 9 (.alloc [.lit (.int .i64 0)] [] 0),
       r 2 (.store 1 (.t 9) (.t 19))]
      [0, 4, 5, 7, 8, 9, 16, 17])
              (.seq
               (.seq
                (.region false 0 []
      [q 0 20 (.load none (.t 9)),
       q 1 21 (.idxA 1 6 (.t 4) (.t 20)),
       q 2 22 (.load none (.t 21)),
       q 3 23 (.mv (.t 7)),
       q 4 24 (.bin .neq (.t 22) (.t 23))]
      [0, 4, 5, 7, 8, 9, 16, 17, 24])
                (.cond (.t 24)
                 (.exit 1)
                 .skip))
               (.seq
                (.region true 0 []
      [q 0 25 (.mv (.t 8)),
       q 1 26 (.mv (.t 0)),
       q 2 27 (.nilck (.t 26)),
       q 3 28 (.fieldAddr 0 (.t 27)),
       q 4 29 (.fieldAddr 3 (.t 28)),
       q 5 30 (.load none (.t 29)),
       q 6 31 (.load none (.t 9)),
       q 7 32 (.idxS 4 (.t 30) (.t 31)),
       q 8 33 (.fieldAddr 1 (.t 32)),
       q 9 34 (.load none (.t 33)),
       q 10 35 (.bin .add (.t 25) (.t 34)),
       q 11 8 (.mv (.t 35))]
      [0, 4, 5, 7, 8, 9, 16, 17])
                (.seq
                 (.region false 0 []
      [q 0 36 (.mv (.t 0)),
       q 1 37 (.nilck (.t 36)),
       q 2 38 (.fieldAddr 0 (.t 37)),
       q 3 39 (.fieldAddr 4 (.t 38)),
       q 4 40 (.load none (.t 39)),
       q 5 41 (.mkfn (.func 101) [] [.t 9, .t 5]),
       q 6 42 (.call (.f 100) [.t 40, .t 41] [] false)]
      [0, 4, 5, 7, 8, 16, 17, 42])
                 (.cond (.t 42)
                  (.seq
                   (.region false 0 []
      [q 0 6 (.mv (.c (.lit (.bool false))))]
      [6])
                   .ret)
                  .skip))))))
            (.region false 0 []
      [q 0 43 (.bin .add (.t 17) (.c (.lit (.int .i64 1)))),
       q 1 17 (.mv (.t 43))]
      [0, 4, 5, 7, 8, 16, 17])))))))
      (.seq
       (.region false 0 []
      [q 0 44 (.mv (.t 8)),
       q 1 45 (.mv (.t 0)),
       q 2 46 (.nilck (.t 45)),
       q 3 47 (.fieldAddr 0 (.t 46)),
       q 4 48 (.fieldAddr 0 (.t 47)),
       q 5 49 (.load none (.t 48)),
       q 6 50 (.mv (.t 7)),
       q 7 51 (.bin .sub (.t 50) (.c (.lit (.int .i64 1)))),
       q 8 52 (.idxS 4 (.t 49) (.t 51)),
       q 9 53 (.fieldAddr 1 (.t 52)),
       q 10 54 (.load none (.t 53)),
       q 11 55 (.bin .leq (.t 44) (.t 54)),
       q 12 6 (.mv (.t 55))]
      [6])
       .ret))))))
def a80 : AFunc := ⟨3, c80, [.tmp 6]⟩
/-- math/bits.OnesCount -/
def c82 : ACode :=
 (.seq
  (.region false 0 []
      [q 0 2 (.mv (.c (.lit (.int .i64 0))))]
      [0])
  (.seq
   (.cond (.c (.lit (.bool false)))
    (.seq
     (.region false 0 []
      [q 0 3 (.mv (.t 0)),
       q 1 4 (.conv .u32 (.t 3)),
       q 2 5 (.call (.f 102) [.t 4] [] false),
       q 3 2 (.mv (.t 5))]
      [2])
     .ret)
    .skip)
   (.seq
    (.region false 0 []
      [q 0 6 (.mv (.t 0)),
       q 1 7 (.call (.f 103) [.t 6] [] false),
       q 2 2 (.mv (.t 7))]
      [2])
    .ret)))
def a82 : AFunc := ⟨1, c82, [.tmp 2]⟩
/-- slices.Compare(()int,int) -/
def c83 : ACode :=
 (.seq
  (.region false 0 []
      [q 0 4 (.mv (.c (.lit (.int .i64 0))))]
      [0, 1])
  (.seq
   (.seq
    (.region false 0 []
      [q 0 9 (.mv (.t 0)),
       q 1 10 (.lenL (.t 9)),
       q 2 11 (.mv (.c (.lit (.int .i64 0))))]
      [0, 1, 9, 10, 11])
    (.block 0
     (.loop true [0, 1, 9, 10, 11]
      (.seq
       (.region false 0 []
      [q 0 12 (.bin .lss (.t 11) (.t 10))]
      [0, 1, 9, 10, 11, 12])
       (.seq
        (.cond (.t 12)
         .skip
         (.exit 0))
        (.seq
         (.block 1
          (.seq
           (.region false 0 []
      [q 0 13 (.mv (.t 11)),
       q 1 14 (.idxS 1 (.t 9) (.t 11)),
       q 2 15 (.load none (.t 14)),
       q 3 5 (.mv (.t 13)),
       q 4 6 (.mv (.t 15))]
      [0, 1, 5, 6, 9, 10, 11])
           (.seq
            (.seq
             (.region false 0 []
      [q 0 16 (.mv (.t 5)),
       q 1 17 (.mv (.t 1)),
       q 2 18 (.lenL (.t 17)),
       q 3 19 (.bin .geq (.t 16) (.t 18))]
      [0, 1, 5, 6, 9, 10, 11, 19])
             (.cond (.t 19)
              (.seq
               (.region false 0 []
      [q 0 4 (.mv (.c (.lit (.int .i64 1))))]
      [4])
               .ret)
              .skip))
            (.seq
             (.region false 0 []
      [q 0 20 (.mv (.t 1)),
       q 1 21 (.mv (.t 5)),
       q 2 22 (.idxS 1 (.t 20) (.t 21)),
       q 3 23 (.load none (.t 22)),
       q 4 7 (.mv (.t 23))]
      [0, 1, 6, 7, 9, 10, 11])
             (.seq
              (.region false 0 []
      [q 0 24 (.mv (.t 6)),
       q 1 25 (.mv (.t 7)),
       q 2 26 (.call (.f 104) [.t 24, .t 25] [] false),
       q 3 8 (.mv (.t 26))]
      [0, 1, 8, 9, 10, 11])
              (.seq
               (.region false 0 []
      [q 0 27 (.mv (.t 8)),
       q 1 28 (.bin .neq (.t 27) (.c (.lit (.int .i64 0))))]
      [0, 1, 8, 9, 10, 11, 28])
               (.cond (.t 28)
                (.seq
                 (.region false 0 []
      [q 0 29 (.mv (.t 8)),
       q 1 4 (.mv (.t 29))]
      [4])
                 .ret)
                .skip)))))))
         (.region false 0 []
      [q 0 30 (.bin .add (.t 11) (.c (.lit (.int .i64 1)))),
       q 1 11 (.mv (.t 30))]
      [0, 1, 9, 10, 11])))))))
   (.seq
    (.seq
     (.region false 0 []
      [q 0 31 (.mv (.t 0)),
       q 1 32 (.lenL (.t 31)),
       q 2 33 (.mv (.t 1)),
       q 3 34 (.lenL (.t 33)),
       q 4 35 (.bin .lss (.t 32) (.t 34))]
      [35])
     (.cond (.t 35)
      (.seq
       (.region false 0 []
      [q 0 4 (.mv (.c (.lit (.int .i64 (-1)))))]
      [4])
       .ret)
      .skip))
    (.seq
     (.region false 0 []
      [q 0 4 (.mv (.c (.lit (.int .i64 0))))]
      [4])
     .ret))))
def a83 : AFunc := ⟨2, c83, [.tmp 4]⟩
/-- (*ceroplast/van.train).whole -/
def c84 : ACode :=
 (.seq
  (.region false 2 []
      [q 0 2 (.box 1 (.t 0) 0),
       q 1 4 (.alloc [.lit (.bool false)] [] 1)]
      [1, 2, 4])
  (.seq
   (.region false 2 []
      [q 0 9 (.load none (.t 2)),
       q 1 10 (.nilck (.t 9)),
       q 2 11 (.load (some 6) (.t 10)),
       q 3 5 (.alloc [.nils 4, .lit (.int .i64 0), .lit (.int .i64 0), .nils 4, .nils 2, .lit (.map none)] [(4, 0, 2)] 1),
       r 4 (.store 6 (.t 5) (.t 11))]
      [1, 2, 4, 5])
   (.seq
    (.region false 1 []
      [q 0 12 (.mkmap 0),
       q 1 13 (.fieldAddr 5 (.t 5)),
       r 2 (.store 1 (.t 13) (.t 12)),
       q 3 14 (.fieldAddr 0 (.t 5)),
       q 4 15 (.fieldAddr 4 (.t 14)),
       r 5 (.store 1 (.t 15) (.c (.nils 2)))]
      [1, 2, 4, 5])
    (.seq
     (.seq
      (.region false 0 []
      [q 0 16 (.load none (.t 2)),
       q 1 17 (.nilck (.t 16)),
       q 2 18 (.fieldAddr 0 (.t 17)),
       q 3 19 (.fieldAddr 4 (.t 18)),
       q 4 20 (.load none (.t 19)),
       q 5 21 (.lenL (.t 20)),
       q 6 22 (.mv (.c (.lit (.int .i64 0))))]
      [1, 2, 4, 5, 20, 21, 22])
      (.block 0
       (.loop false [1, 2, 4, 5, 20, 21, 22]
        (.seq
         (.region false 0 []
      [q 0 23 (.bin .lss (.t 22) (.t 21))]
      [1, 2, 4, 5, 20, 21, 22, 23])
         (.seq
          (.cond (.t 23)
           .skip
           (.exit 0))
          (.seq
           (.block 1
            (.seq
             (.region false 1 []
      [q 0 24 (.mv (.t 22)),
       q 1 25 (.idxS 2 (.t 20) (.t 22)),
       q 2 26 (.load (some 2) (.t 25)),
       q 3 7 (.alloc [.lit (.int .i64 0), .lit (.int .i64 0)] [] 0),
       q 4 6 (.mv (.t 24)),
       r 5 (.store 2 (.t 7) (.t 26))]
      [1, 2, 4, 5, 6, 7, 20, 21, 22])
             (.seq
              (.region false 0 []
      [q 0 27 (.mv (.t 1)),
       q 1 28 (.mv (.t 6)),
       q 2 29 (.bin .shr (.t 27) (.t 28)),
       q 3 30 (.bin .and (.t 29) (.c (.lit (.int .i64 1)))),
       q 4 31 (.bin .eql (.t 30) (.c (.lit (.int .i64 0))))]
      [1, 2, 4, 5, 7, 20, 21, 22, 31])
              (.cond (.t 31)
               (.region false 1 []
      [q 0 32 (.fieldAddr 0 (.t 5)),
       q 1 33 (.fieldAddr 4 (.t 32)),
       q 2 34 (.load none (.t 33)),
       q 3 35 (.load (some 2) (.t 7)),
       q 4 36 (.lits 2 [.lit (.int .i64 0), .lit (.int .i64 0)] 1 [(0, .t 35)] none),
       q 5 37 (.append 2 16 (.t 34) (.t 36) (some 0) false),
       q 6 38 (.fieldAddr 0 (.t 5)),
       q 7 39 (.fieldAddr 4 (.t 38)),
       r 8 (.store 1 (.t 39) (.t 37))]
      [1, 2, 4, 5, 20, 21, 22])
               .skip))))
           (.region false 0 []
      [q 0 40 (.bin .add (.t 22) (.c (.lit (.int .i64 1)))),
       q 1 22 (.mv (.t 40))]
      [1, 2, 4, 5, 20, 21, 22])))))))
     (.seq
      (.seq
       (.region false 0 []
      [q 0 41 (.call (.f 76) [.t 5] [] false)]
      [2, 4, 5, 41])
       (.block 2
        (.rangeFunc (.t 41) [42]
         (.region false 1 []
      [q 0 8 (.alloc [.lit (.int .i64 0), .lit (.int .i64 0), .lit (.int .i64 0), .lit (.int .i64 0), .lit (.int .i64 0), .lit (.int .i64 0)] [] 0),
       r 1 (.store 6 (.t 8) (.t 42))]
      [2, 4, 5, 8])
         (.block 3
          (.seq
           (.region true 0 []
      [q 0 43 (.load (some 6) (.t 8)),
       ⟨some 44, .call (.f 77) [.t 5, .t 43] [] false, none, [], [(2, []), (2, [0])], 0, 1⟩,
       q 2 45 (.field none 0 (.t 44)),
       ⟨some 46, .load none (.t 2), none, [], [], 1, 3⟩,
       q 4 47 (.nilck (.t 46)),
       q 5 48 (.fieldAddr 0 (.t 47)),
       q 6 49 (.fieldAddr 3 (.t 48)),
       ⟨some 50, .load none (.t 49), none, [], [], 1, 7⟩,
       ⟨some 51, .lenL (.t 50), none, [], [], 1, 8⟩,
       q 9 52 (.bin .eql (.t 45) (.t 51))]
      [4, 52])
           (.cond (.t 52)
            (.seq
             (.region false 0 []
      [r 0 (.store 1 (.t 4) (.c (.lit (.bool true))))]
      [])
             .ret)
            .skip))))))
      (.seq
       (.region false 0 []
      [r 0 (.store 1 (.t 4) (.c (.lit (.bool false))))]
      [4])
       .ret))))))
def a84 : AFunc := ⟨2, c84, [.cell 4 none]⟩
/-- slices.ContainsFunc(()int,int) -/
def c90 : ACode :=
 (.seq
  (.region false 0 []
      [q 0 4 (.mv (.c (.lit (.bool false))))]
      [0, 1])
  (.seq
   (.region false 0 []
      [q 0 5 (.mv (.t 0)),
       q 1 6 (.mv (.t 1)),
       q 2 7 (.call (.f 106) [.t 5, .t 6] [] false),
       q 3 8 (.bin .geq (.t 7) (.c (.lit (.int .i64 0)))),
       q 4 4 (.mv (.t 8))]
      [4])
   .ret))
def a90 : AFunc := ⟨2, c90, [.tmp 4]⟩
/-- ceroplast/van.outside.1 -/
def c91 : ACode :=
 (.seq
  (.region false 0 []
      [q 0 4 (.mv (.c (.lit (.bool false))))]
      [0, 1, 2])
  (.seq
   (.region false 0 []
      [q 0 5 (.mv (.t 0)),
       q 1 6 (.load none (.t 1)),
       q 2 7 (.bin .lss (.t 5) (.t 6)),
       q 3 8 (.mv (.t 7)),
       ⟨some 9, .mv (.t 0), some (8, false), [], [], 0, 4⟩,
       ⟨some 10, .load none (.t 2), some (8, false), [], [], 0, 5⟩,
       ⟨some 11, .bin .gtr (.t 9) (.t 10), some (8, false), [], [], 0, 6⟩,
       q 7 12 (.pick (.t 8) (.c (.lit (.bool true))) (.t 11)),
       q 8 4 (.mv (.t 12))]
      [4])
   .ret))
def a91 : AFunc := ⟨3, c91, [.tmp 4]⟩
/-- ceroplast/van.named(ceroplast/api.VaVan) -/
def c92 : ACode :=
 (.seq
  (.region false 3 []
      [q 0 3 (.box 1 (.t 0) 0),
       q 1 4 (.box 1 (.t 1) 1),
       q 2 5 (.box 1 (.t 2) 2),
       q 3 6 (.mv (.c (.lit (.int .i64 0))))]
      [3, 4, 5])
  (.seq
   (.block 0
    (.seq
     (.region true 0 []
      [q 0 8 (.load none (.t 5)),
       q 1 9 (.load none (.t 3)),
       q 2 10 (.load none (.t 4)),
       q 3 11 (.idxS 4 (.t 9) (.t 10)),
       q 4 12 (.load (some 4) (.t 11)),
       q 5 13 (.call (.t 8) [.t 12] [] false),
       q 6 14 (.call (.f 107) [.t 13] [] false),
       q 7 15 (.un .not (.t 14)),
       q 8 7 (.mv (.t 15))]
      [3, 4, 5, 7])
     (.cond (.t 7)
      (.seq
       (.region false 0 []
      [q 0 6 (.mv (.c (.lit (.int .i64 6))))]
      [6])
       .ret)
      (.seq
       (.region false 0 []
      [q 0 17 (.load none (.t 3)),
       q 1 18 (.load none (.t 4)),
       q 2 19 (.sliceQ 4 (.t 17) none (some (.t 18))),
       q 3 20 (.mkfn (.func 109) [] [.t 5, .t 3, .t 4]),
       q 4 21 (.call (.f 108) [.t 19, .t 20] [] false),
       q 5 16 (.mv (.t 21))]
      [16])
       (.cond (.t 16)
        (.seq
         (.region false 0 []
      [q 0 6 (.mv (.c (.lit (.int .i64 5))))]
      [6])
         .ret)
        .skip)))))
   (.seq
    (.region false 0 []
      [q 0 6 (.mv (.c (.lit (.int .i64 0))))]
      [6])
    .ret)))
def a92 : AFunc := ⟨3, c92, [.tmp 6]⟩
/-- (*ceroplast/van.train).van.1 -/
def c93 : ACode :=
 (.seq
  (.region false 1 []
      [q 0 1 (.box 4 (.t 0) 0),
       q 1 2 (.mv (.c (.lit (.string ⟨#[]⟩))))]
      [1])
  (.seq
   (.region false 0 []
      [q 0 3 (.fieldAddr 0 (.t 1)),
       q 1 4 (.load none (.t 3)),
       q 2 2 (.mv (.t 4))]
      [2])
   .ret))
def a93 : AFunc := ⟨1, c93, [.tmp 2]⟩
/-- ceroplast/van.named(ceroplast/api.VaCrate) -/
def c94 : ACode :=
 (.seq
  (.region false 3 []
      [q 0 3 (.box 1 (.t 0) 0),
       q 1 4 (.box 1 (.t 1) 1),
       q 2 5 (.box 1 (.t 2) 2),
       q 3 6 (.mv (.c (.lit (.int .i64 0))))]
      [3, 4, 5])
  (.seq
   (.block 0
    (.seq
     (.region true 0 []
      [q 0 8 (.load none (.t 5)),
       q 1 9 (.load none (.t 3)),
       q 2 10 (.load none (.t 4)),
       q 3 11 (.idxS 4 (.t 9) (.t 10)),
       q 4 12 (.load (some 4) (.t 11)),
       q 5 13 (.call (.t 8) [.t 12] [] false),
       q 6 14 (.call (.f 107) [.t 13] [] false),
       q 7 15 (.un .not (.t 14)),
       q 8 7 (.mv (.t 15))]
      [3, 4, 5, 7])
     (.cond (.t 7)
      (.seq
       (.region false 0 []
      [q 0 6 (.mv (.c (.lit (.int .i64 6))))]
      [6])
       .ret)
      (.seq
       (.region false 0 []
      [q 0 17 (.load none (.t 3)),
       q 1 18 (.load none (.t 4)),
       q 2 19 (.sliceQ 4 (.t 17) none (some (.t 18))),
       q 3 20 (.mkfn (.func 111) [] [.t 5, .t 3, .t 4]),
       q 4 21 (.call (.f 110) [.t 19, .t 20] [] false),
       q 5 16 (.mv (.t 21))]
      [16])
       (.cond (.t 16)
        (.seq
         (.region false 0 []
      [q 0 6 (.mv (.c (.lit (.int .i64 5))))]
      [6])
         .ret)
        .skip)))))
   (.seq
    (.region false 0 []
      [q 0 6 (.mv (.c (.lit (.int .i64 0))))]
      [6])
    .ret)))
def a94 : AFunc := ⟨3, c94, [.tmp 6]⟩
/-- (*ceroplast/van.train).crate.1 -/
def c95 : ACode :=
 (.seq
  (.region false 1 []
      [q 0 1 (.box 4 (.t 0) 0),
       q 1 2 (.mv (.c (.lit (.string ⟨#[]⟩))))]
      [1])
  (.seq
   (.region false 0 []
      [q 0 3 (.fieldAddr 0 (.t 1)),
       q 1 4 (.load none (.t 3)),
       q 2 2 (.mv (.t 4))]
      [2])
   .ret))
def a95 : AFunc := ⟨1, c95, [.tmp 2]⟩
/-- (*ceroplast/van.train).plans.1 -/
def c98 : ACode :=
 (.seq
  (.region false 1 []
      [q 0 2 (.box 1 (.t 0) 0)]
      [1, 2])
  (.seq
   (.region false 1 []
      [q 0 3 (.alloc [.lit (.int .i64 0), .lit (.int .i64 0), .lit (.int .i64 0), .lit (.int .i64 0), .lit (.int .i64 0), .lit (.int .i64 0)] [] 0)]
      [1, 2, 3])
   (.seq
    (.region false 1 []
      [q 0 4 (.alloc [.lit .nilFunc] [] 0)]
      [1, 2, 3, 4])
    (.seq
     (.region false 0 []
      [q 0 5 (.mkfn (.func 99) [] [.t 1, .t 2, .t 3, .t 4]),
       r 1 (.store 1 (.t 4) (.t 5))]
      [4])
     (.region false 0 []
      [q 0 6 (.load none (.t 4)),
       q 1 7 (.call (.t 6) [.c (.lit (.int .i64 0))] [] false)]
      [])))))
def a98 : AFunc := ⟨2, c98, []⟩
/-- (*ceroplast/van.train).plans.1.1 -/
def c99 : ACode :=
 (.seq
  (.region false 0 []
      [q 0 6 (.mv (.c (.lit (.bool false))))]
      [0, 1, 2, 3, 4])
  (.seq
   (.seq
    (.region false 0 []
      [q 0 8 (.mv (.t 0)),
       q 1 9 (.load none (.t 1)),
       q 2 10 (.nilck (.t 9)),
       q 3 11 (.fieldAddr 0 (.t 10)),
       q 4 12 (.fieldAddr 3 (.t 11)),
       q 5 13 (.load none (.t 12)),
       q 6 14 (.lenL (.t 13)),
       q 7 15 (.bin .eql (.t 8) (.t 14))]
      [0, 1, 2, 3, 4, 15])
    (.cond (.t 15)
     (.seq
      (.region false 0 []
      [q 0 16 (.load none (.t 2)),
       q 1 17 (.load (some 6) (.t 3)),
       q 2 18 (.call (.t 16) [.t 17] [] false),
       q 3 6 (.mv (.t 18))]
      [6])
      .ret)
     .skip))
   (.seq
    (.seq
     (.region false 0 []
      [q 0 19 (.load none (.t 1)),
       q 1 20 (.nilck (.t 19)),
       q 2 21 (.fieldAddr 0 (.t 20)),
       q 3 22 (.fieldAddr 0 (.t 21)),
       q 4 23 (.load none (.t 22)),
       q 5 24 (.lenL (.t 23)),
       q 6 25 (.bin .add (.t 24) (.c (.lit (.int .i64 1)))),
       q 7 26 (.mv (.c (.lit (.int .i64 0))))]
      [0, 1, 3, 4, 25, 26])
     (.block 0
      (.loop true [0, 1, 3, 4, 25, 26]
       (.seq
        (.region false 0 []
      [q 0 27 (.bin .lss (.t 26) (.t 25))]
      [0, 1, 3, 4, 25, 26, 27])
        (.seq
         (.cond (.t 27)
          .skip
          (.exit 0))
         (.seq
          (.block 1
           (.seq
            (.region false 0 []
      [q 0 28 (.mv (.t 26)),
       q 1 7 (.mv (.t 28))]
      [0, 1, 3, 4, 7, 25, 26])
            (.seq
             (.region false 0 []
      [q 0 29 (.mv (.t 0)),
       q 1 30 (.mv (.t 7)),
       q 2 31 (.bin .add (.t 30) (.c (.lit (.int .i64 1)))),
       q 3 32 (.load none (.t 1)),
       q 4 33 (.nilck (.t 32)),
       q 5 34 (.fieldAddr 0 (.t 33)),
       q 6 35 (.fieldAddr 0 (.t 34)),
       q 7 36 (.load none (.t 35)),
       q 8 37 (.lenL (.t 36)),
       q 9 38 (.bin .add (.t 37) (.c (.lit (.int .i64 1)))),
       q 10 39 (.bin .rem (.t 31) (.t 38)),
       q 11 40 (.idxA 1 6 (.t 3) (.t 29)),
       r 12 (.store 1 (.t 40) (.t 39))]
      [0, 1, 3, 4, 25, 26])
             (.seq
              (.region false 0 []
      [q 0 41 (.load none (.t 1)),
       q 1 42 (.load (some 6) (.t 3)),
       q 2 43 (.mv (.t 0)),
       q 3 44 (.call (.f 80) [.t 41, .t 42, .t 43] [] false),
       q 4 45 (.mv (.t 44)),
       ⟨some 46, .load none (.t 4), some (45, true), [], [], 0, 5⟩,
       ⟨some 47, .mv (.t 0), some (45, true), [], [], 0, 6⟩,
       ⟨some 48, .bin .add (.t 47) (.c (.lit (.int .i64 1))), some (45, true), [], [], 0, 7⟩,
       ⟨some 49, .call (.t 46) [.t 48] [] false, some (45, true), [], [], 0, 8⟩,
       ⟨some 50, .un .not (.t 49), some (45, true), [], [], 0, 9⟩,
       q 10 51 (.pick (.t 45) (.t 50) (.c (.lit (.bool false))))]
      [0, 1, 3, 4, 25, 26, 51])
              (.cond (.t 51)
               (.seq
                (.region false 0 []
      [q 0 6 (.mv (.c (.lit (.bool false))))]
      [6])
                .ret)
               .skip)))))
          (.region false 0 []
      [q 0 52 (.bin .add (.t 26) (.c (.lit (.int .i64 1)))),
       q 1 26 (.mv (.t 52))]
      [0, 1, 3, 4, 25, 26])))))))
    (.seq
     (.region false 0 []
      [q 0 53 (.mv (.t 0)),
       q 1 54 (.idxA 1 6 (.t 3) (.t 53)),
       r 2 (.store 1 (.t 54) (.c (.lit (.int .i64 0))))]
      [])
     (.seq
      (.region false 0 []
      [q 0 6 (.mv (.c (.lit (.bool true))))]
      [6])
      .ret)))))
def a99 : AFunc := ⟨5, c99, [.tmp 6]⟩
/-- slices.ContainsFunc(()ceroplast/api.VaPair,ceroplast/api.VaPair) -/
def c100 : ACode :=
 (.seq
  (.region false 0 []
      [q 0 4 (.mv (.c (.lit (.bool false))))]
      [0, 1])
  (.seq
   (.region false 0 []
      [q 0 5 (.mv (.t 0)),
       q 1 6 (.mv (.t 1)),
       q 2 7 (.call (.f 115) [.t 5, .t 6] [] false),
       q 3 8 (.bin .geq (.t 7) (.c (.lit (.int .i64 0)))),
       q 4 4 (.mv (.t 8))]
      [4])
   .ret))
def a100 : AFunc := ⟨2, c100, [.tmp 4]⟩
/-- (*ceroplast/van.train).allowed.1 -/
def c101 : ACode :=
 (.seq
  (.region false 1 []
      [q 0 3 (.box 2 (.t 0) 0),
       q 1 4 (.mv (.c (.lit (.bool false))))]
      [1, 2, 3])
  (.seq
   (.region false 0 []
      [q 0 5 (.load (some 2) (.t 3)),
       q 1 6 (.load none (.t 1)),
       q 2 7 (.load none (.t 2)),
       q 3 8 (.build [.lit (.int .i64 0), .lit (.int .i64 0)] [(0, 1, .t 6), (1, 1, .t 7)]),
       q 4 9 (.cmp false [0, 0] (.t 5) (.t 8)),
       q 5 4 (.mv (.t 9))]
      [4])
   .ret))
def a101 : AFunc := ⟨3, c101, [.tmp 4]⟩
/-- math/bits.OnesCount32 -/
def c102 : ACode :=
 (.seq
  (.region false 0 []
      [q 0 2 (.mv (.c (.lit (.int .i64 0))))]
      [0])
  (.seq
   (.region true 0 []
      [q 0 3 (.mv (.t 0)),
       q 1 4 (.bin .shr (.t 3) (.c (.lit (.int .u64 24)))),
       q 2 5 (.idxStr (.c (.lit (.string ⟨#[0, 1, 1, 2, 1, 2, 2, 3, 1, 2, 2, 3, 2, 3, 3, 4, 1, 2, 2, 3, 2, 3, 3, 4, 2, 3, 3, 4, 3, 4, 4, 5, 1, 2, 2, 3, 2, 3, 3, 4, 2, 3, 3, 4, 3, 4, 4, 5, 2, 3, 3, 4, 3, 4, 4, 5, 3, 4, 4, 5, 4, 5, 5, 6, 1, 2, 2, 3, 2, 3, 3, 4, 2, 3, 3, 4, 3, 4, 4, 5, 2, 3, 3, 4, 3, 4, 4, 5, 3, 4, 4, 5, 4, 5, 5, 6, 2, 3, 3, 4, 3, 4, 4, 5, 3, 4, 4, 5, 4, 5, 5, 6, 3, 4, 4, 5, 4, 5, 5, 6, 4, 5, 5, 6, 5, 6, 6, 7, 1, 2, 2, 3, 2, 3, 3, 4, 2, 3, 3, 4, 3, 4, 4, 5, 2, 3, 3, 4, 3, 4, 4, 5, 3, 4, 4, 5, 4, 5, 5, 6, 2, 3, 3, 4, 3, 4, 4, 5, 3, 4, 4, 5, 4, 5, 5, 6, 3, 4, 4, 5, 4, 5, 5, 6, 4, 5, 5, 6, 5, 6, 6, 7, 2, 3, 3, 4, 3, 4, 4, 5, 3, 4, 4, 5, 4, 5, 5, 6, 3, 4, 4, 5, 4, 5, 5, 6, 4, 5, 5, 6, 5, 6, 6, 7, 3, 4, 4, 5, 4, 5, 5, 6, 4, 5, 5, 6, 5, 6, 6, 7, 4, 5, 5, 6, 5, 6, 6, 7, 5, 6, 6, 7, 6, 7, 7, 8]⟩))) (.t 4)),
       q 3 6 (.mv (.t 0)),
       q 4 7 (.bin .shr (.t 6) (.c (.lit (.int .u64 16)))),
       q 5 8 (.bin .and (.t 7) (.c (.lit (.int .u32 255)))),
       q 6 9 (.idxStr (.c (.lit (.string ⟨#[0, 1, 1, 2, 1, 2, 2, 3, 1, 2, 2, 3, 2, 3, 3, 4, 1, 2, 2, 3, 2, 3, 3, 4, 2, 3, 3, 4, 3, 4, 4, 5, 1, 2, 2, 3, 2, 3, 3, 4, 2, 3, 3, 4, 3, 4, 4, 5, 2, 3, 3, 4, 3, 4, 4, 5, 3, 4, 4, 5, 4, 5, 5, 6, 1, 2, 2, 3, 2, 3, 3, 4, 2, 3, 3, 4, 3, 4, 4, 5, 2, 3, 3, 4, 3, 4, 4, 5, 3, 4, 4, 5, 4, 5, 5, 6, 2, 3, 3, 4, 3, 4, 4, 5, 3, 4, 4, 5, 4, 5, 5, 6, 3, 4, 4, 5, 4, 5, 5, 6, 4, 5, 5, 6, 5, 6, 6, 7, 1, 2, 2, 3, 2, 3, 3, 4, 2, 3, 3, 4, 3, 4, 4, 5, 2, 3, 3, 4, 3, 4, 4, 5, 3, 4, 4, 5, 4, 5, 5, 6, 2, 3, 3, 4, 3, 4, 4, 5, 3, 4, 4, 5, 4, 5, 5, 6, 3, 4, 4, 5, 4, 5, 5, 6, 4, 5, 5, 6, 5, 6, 6, 7, 2, 3, 3, 4, 3, 4, 4, 5, 3, 4, 4, 5, 4, 5, 5, 6, 3, 4, 4, 5, 4, 5, 5, 6, 4, 5, 5, 6, 5, 6, 6, 7, 3, 4, 4, 5, 4, 5, 5, 6, 4, 5, 5, 6, 5, 6, 6, 7, 4, 5, 5, 6, 5, 6, 6, 7, 5, 6, 6, 7, 6, 7, 7, 8]⟩))) (.t 8)),
       q 7 10 (.bin .add (.t 5) (.t 9)),
       q 8 11 (.mv (.t 0)),
       q 9 12 (.bin .shr (.t 11) (.c (.lit (.int .u64 8)))),
       q 10 13 (.bin .and (.t 12) (.c (.lit (.int .u32 255)))),
       q 11 14 (.idxStr (.c (.lit (.string ⟨#[0, 1, 1, 2, 1, 2, 2, 3, 1, 2, 2, 3, 2, 3, 3, 4, 1, 2, 2, 3, 2, 3, 3, 4, 2, 3, 3, 4, 3, 4, 4, 5, 1, 2, 2, 3, 2, 3, 3, 4, 2, 3, 3, 4, 3, 4, 4, 5, 2, 3, 3, 4, 3, 4, 4, 5, 3, 4, 4, 5, 4, 5, 5, 6, 1, 2, 2, 3, 2, 3, 3, 4, 2, 3, 3, 4, 3, 4, 4, 5, 2, 3, 3, 4, 3, 4, 4, 5, 3, 4, 4, 5, 4, 5, 5, 6, 2, 3, 3, 4, 3, 4, 4, 5, 3, 4, 4, 5, 4, 5, 5, 6, 3, 4, 4, 5, 4, 5, 5, 6, 4, 5, 5, 6, 5, 6, 6, 7, 1, 2, 2, 3, 2, 3, 3, 4, 2, 3, 3, 4, 3, 4, 4, 5, 2, 3, 3, 4, 3, 4, 4, 5, 3, 4, 4, 5, 4, 5, 5, 6, 2, 3, 3, 4, 3, 4, 4, 5, 3, 4, 4, 5, 4, 5, 5, 6, 3, 4, 4, 5, 4, 5, 5, 6, 4, 5, 5, 6, 5, 6, 6, 7, 2, 3, 3, 4, 3, 4, 4, 5, 3, 4, 4, 5, 4, 5, 5, 6, 3, 4, 4, 5, 4, 5, 5, 6, 4, 5, 5, 6, 5, 6, 6, 7, 3, 4, 4, 5, 4, 5, 5, 6, 4, 5, 5, 6, 5, 6, 6, 7, 4, 5, 5, 6, 5, 6, 6, 7, 5, 6, 6, 7, 6, 7, 7, 8]⟩))) (.t 13)),
       q 12 15 (.bin .add (.t 10) (.t 14)),
       q 13 16 (.mv (.t 0)),
       q 14 17 (.bin .and (.t 16) (.c (.lit (.int .u32 255)))),
       q 15 18 (.idxStr (.c (.lit (.string ⟨#[0, 1, 1, 2, 1, 2, 2, 3, 1, 2, 2, 3, 2, 3, 3, 4, 1, 2, 2, 3, 2, 3, 3, 4, 2, 3, 3, 4, 3, 4, 4, 5, 1, 2, 2, 3, 2, 3, 3, 4, 2, 3, 3, 4, 3, 4, 4, 5, 2, 3, 3, 4, 3, 4, 4, 5, 3, 4, 4, 5, 4, 5, 5, 6, 1, 2, 2, 3, 2, 3, 3, 4, 2, 3, 3, 4, 3, 4, 4, 5, 2, 3, 3, 4, 3, 4, 4, 5, 3, 4, 4, 5, 4, 5, 5, 6, 2, 3, 3, 4, 3, 4, 4, 5, 3, 4, 4, 5, 4, 5, 5, 6, 3, 4, 4, 5, 4, 5, 5, 6, 4, 5, 5, 6, 5, 6, 6, 7, 1, 2, 2, 3, 2, 3, 3, 4, 2, 3, 3, 4, 3, 4, 4, 5, 2, 3, 3, 4, 3, 4, 4, 5, 3, 4, 4, 5, 4, 5, 5, 6, 2, 3, 3, 4, 3, 4, 4, 5, 3, 4, 4, 5, 4, 5, 5, 6, 3, 4, 4, 5, 4, 5, 5, 6, 4, 5, 5, 6, 5, 6, 6, 7, 2, 3, 3, 4, 3, 4, 4, 5, 3, 4, 4, 5, 4, 5, 5, 6, 3, 4, 4, 5, 4, 5, 5, 6, 4, 5, 5, 6, 5, 6, 6, 7, 3, 4, 4, 5, 4, 5, 5, 6, 4, 5, 5, 6, 5, 6, 6, 7, 4, 5, 5, 6, 5, 6, 6, 7, 5, 6, 6, 7, 6, 7, 7, 8]⟩))) (.t 17)),
       q 16 19 (.bin .add (.t 15) (.t 18)),
       q 17 20 (.conv .i64 (.t 19)),
       q 18 2 (.mv (.t 20))]
      [2])
   .ret))
def a102 : AFunc := ⟨1, c102, [.tmp 2]⟩
/-- math/bits.OnesCount64 -/
def c103 : ACode :=
 (.seq
  (.region false 0 []
      [q 0 2 (.mv (.c (.lit (.int .i64 0))))]
      [0])
  (.seq
   (.region false 0 []
      [q 0 3 (.mv (.t 0)),
       q 1 4 (.bin .shr (.t 3) (.c (.lit (.int .u64 1)))),
       q 2 5 (.bin .and (.t 4) (.c (.lit (.int .u64 6148914691236517205)))),
       q 3 6 (.mv (.t 0)),
       q 4 7 (.bin .and (.t 6) (.c (.lit (.int .u64 6148914691236517205)))),
       q 5 8 (.bin .add (.t 5) (.t 7)),
       q 6 0 (.mv (.t 8))]
      [0])
   (.seq
    (.region false 0 []
      [q 0 9 (.mv (.t 0)),
       q 1 10 (.bin .shr (.t 9) (.c (.lit (.int .u64 2)))),
       q 2 11 (.bin .and (.t 10) (.c (.lit (.int .u64 3689348814741910323)))),
       q 3 12 (.mv (.t 0)),
       q 4 13 (.bin .and (.t 12) (.c (.lit (.int .u64 3689348814741910323)))),
       q 5 14 (.bin .add (.t 11) (.t 13)),
       q 6 0 (.mv (.t 14))]
      [0])
    (.seq
     (.region false 0 []
      [q 0 15 (.mv (.t 0)),
       q 1 16 (.bin .shr (.t 15) (.c (.lit (.int .u64 4)))),
       q 2 17 (.mv (.t 0)),
       q 3 18 (.bin .add (.t 16) (.t 17)),
       q 4 19 (.bin .and (.t 18) (.c (.lit (.int .u64 1085102592571150095)))),
       q 5 0 (.mv (.t 19))]
      [0])
     (.seq
      (.region false 0 []
      [q 0 20 (.mv (.t 0)),
       q 1 21 (.mv (.t 0)),
       q 2 22 (.bin .shr (.t 21) (.c (.lit (.int .u64 8)))),
       q 3 23 (.bin .add (.t 20) (.t 22)),
       q 4 0 (.mv (.t 23))]
      [0])
      (.seq
       (.region false 0 []
      [q 0 24 (.mv (.t 0)),
       q 1 25 (.mv (.t 0)),
       q 2 26 (.bin .shr (.t 25) (.c (.lit (.int .u64 16)))),
       q 3 27 (.bin .add (.t 24) (.t 26)),
       q 4 0 (.mv (.t 27))]
      [0])
       (.seq
        (.region false 0 []
      [q 0 28 (.mv (.t 0)),
       q 1 29 (.mv (.t 0)),
       q 2 30 (.bin .shr (.t 29) (.c (.lit (.int .u64 32)))),
       q 3 31 (.bin .add (.t 28) (.t 30)),
       q 4 0 (.mv (.t 31))]
      [0])
        (.seq
         (.region false 0 []
      [q 0 32 (.mv (.t 0)),
       q 1 33 (.conv .i64 (.t 32)),
       q 2 34 (.bin .and (.t 33) (.c (.lit (.int .i64 127)))),
       q 3 2 (.mv (.t 34))]
      [2])
         .ret))))))))
def a103 : AFunc := ⟨1, c103, [.tmp 2]⟩
/-- cmp.Compare(int) -/
def c104 : ACode :=
 (.seq
  (.region false 0 []
      [q 0 4 (.mv (.c (.lit (.int .i64 0))))]
      [0, 1])
  (.seq
   (.region false 0 []
      [q 0 7 (.mv (.t 0)),
       q 1 8 (.call (.f 116) [.t 7] [] false),
       q 2 5 (.mv (.t 8))]
      [0, 1, 5])
   (.seq
    (.region false 0 []
      [q 0 9 (.mv (.t 1)),
       q 1 10 (.call (.f 116) [.t 9] [] false),
       q 2 6 (.mv (.t 10))]
      [0, 1, 5, 6])
    (.seq
     (.seq
      (.region false 0 []
      [q 0 11 (.mv (.t 5))]
      [0, 1, 6, 11])
      (.cond (.t 11)
       (.seq
        (.seq
         (.region false 0 []
      [q 0 12 (.mv (.t 6))]
      [12])
         (.cond (.t 12)
          (.seq
           (.region false 0 []
      [q 0 4 (.mv (.c (.lit (.int .i64 0))))]
      [4])
           .ret)
          .skip))
        (.seq
         (.region false 0 []
      [q 0 4 (.mv (.c (.lit (.int .i64 (-1)))))]
      [4])
         .ret))
       .skip))
     (.seq
      (.seq
       (.region false 0 []
      [q 0 13 (.mv (.t 6))]
      [0, 1, 13])
       (.cond (.t 13)
        (.seq
         (.region false 0 []
      [q 0 4 (.mv (.c (.lit (.int .i64 1))))]
      [4])
         .ret)
        .skip))
      (.seq
       (.seq
        (.region false 0 []
      [q 0 14 (.mv (.t 0)),
       q 1 15 (.mv (.t 1)),
       q 2 16 (.bin .lss (.t 14) (.t 15))]
      [0, 1, 16])
        (.cond (.t 16)
         (.seq
          (.region false 0 []
      [q 0 4 (.mv (.c (.lit (.int .i64 (-1)))))]
      [4])
          .ret)
         .skip))
       (.seq
        (.seq
         (.region false 0 []
      [q 0 17 (.mv (.t 0)),
       q 1 18 (.mv (.t 1)),
       q 2 19 (.bin .gtr (.t 17) (.t 18))]
      [19])
         (.cond (.t 19)
          (.seq
           (.region false 0 []
      [q 0 4 (.mv (.c (.lit (.int .i64 1))))]
      [4])
           .ret)
          .skip))
        (.seq
         (.region false 0 []
      [q 0 4 (.mv (.c (.lit (.int .i64 0))))]
      [4])
         .ret))))))))
def a104 : AFunc := ⟨2, c104, [.tmp 4]⟩
/-- slices.IndexFunc(()int,int) -/
def c106 : ACode :=
 (.seq
  (.region false 0 []
      [q 0 4 (.mv (.c (.lit (.int .i64 0))))]
      [0, 1])
  (.seq
   (.seq
    (.region false 0 []
      [q 0 6 (.mv (.t 0)),
       q 1 7 (.lenL (.t 6)),
       q 2 8 (.mv (.c (.lit (.int .i64 0))))]
      [0, 1, 7, 8])
    (.block 0
     (.loop true [0, 1, 7, 8]
      (.seq
       (.region false 0 []
      [q 0 9 (.bin .lss (.t 8) (.t 7))]
      [0, 1, 7, 8, 9])
       (.seq
        (.cond (.t 9)
         .skip
         (.exit 0))
        (.seq
         (.block 1
          (.seq
           (.region false 0 []
      [q 0 10 (.mv (.t 8)),
       q 1 5 (.mv (.t 10))]
      [0, 1, 5, 7, 8])
           (.seq
            (.region false 0 []
      [q 0 11 (.mv (.t 1)),
       q 1 12 (.mv (.t 0)),
       q 2 13 (.mv (.t 5)),
       q 3 14 (.idxS 1 (.t 12) (.t 13)),
       q 4 15 (.load none (.t 14)),
       q 5 16 (.call (.t 11) [.t 15] [] false)]
      [0, 1, 5, 7, 8, 16])
            (.cond (.t 16)
             (.seq
              (.region false 0 []
      [q 0 17 (.mv (.t 5)),
       q 1 4 (.mv (.t 17))]
      [4])
              .ret)
             .skip))))
         (.region false 0 []
      [q 0 18 (.bin .add (.t 8) (.c (.lit (.int .i64 1)))),
       q 1 8 (.mv (.t 18))]
      [0, 1, 7, 8])))))))
   (.seq
    (.region false 0 []
      [q 0 4 (.mv (.c (.lit (.int .i64 (-1)))))]
      [4])
    .ret)))
def a106 : AFunc := ⟨2, c106, [.tmp 4]⟩
/-- ceroplast/mould.Name -/
def c107 : ACode :=
 (.seq
  (.region false 0 []
      [q 0 2 (.mv (.c (.lit (.bool false))))]
      [0])
  (.seq
   (.seq
    (.region false 1 []
      [q 0 6 (.mv (.t 0)),
       q 1 7 (.range (.t 6) 0)]
      [0, 7])
    (.block 0
     (.loop true [0, 7]
      (.seq
       (.region false 0 []
      [q 0 8 (.next (.t 7)),
       q 1 9 (.extract (.t 8) 0)]
      [0, 7, 8, 9])
       (.seq
        (.cond (.t 9)
         .skip
         (.exit 0))
        (.block 1
         (.seq
          (.region false 0 []
      [q 0 10 (.extract (.t 8) 1),
       q 1 11 (.extract (.t 8) 2),
       q 2 3 (.mv (.t 10)),
       q 3 4 (.mv (.t 11))]
      [0, 3, 4, 7])
          (.seq
           (.region false 0 []
      [q 0 12 (.mv (.t 4)),
       q 1 13 (.bin .leq (.c (.lit (.int .i32 97))) (.t 12)),
       q 2 14 (.mv (.t 13)),
       ⟨some 15, .mv (.t 4), some (14, true), [], [], 0, 3⟩,
       ⟨some 16, .bin .leq (.t 15) (.c (.lit (.int .i32 122))), some (14, true), [], [], 0, 4⟩,
       q 5 17 (.pick (.t 14) (.t 16) (.c (.lit (.bool false)))),
       q 6 5 (.mv (.t 17))]
      [0, 3, 4, 5, 7])
           (.seq
            (.region false 0 []
      [q 0 18 (.mv (.t 5)),
       q 1 19 (.un .not (.t 18)),
       q 2 20 (.mv (.t 19)),
       ⟨some 21, .mv (.t 3), some (20, true), [], [], 0, 3⟩,
       ⟨some 22, .bin .eql (.t 21) (.c (.lit (.int .i64 0))), some (20, true), [], [], 0, 4⟩,
       ⟨some 23, .mv (.t 22), some (20, true), [], [], 0, 5⟩,
       ⟨some 24, .mv (.t 4), some (23, false), [], [], 0, 6⟩,
       ⟨some 25, .bin .neq (.t 24) (.c (.lit (.int .i32 46))), some (23, false), [], [], 0, 7⟩,
       ⟨some 26, .mv (.t 25), some (23, false), [], [], 0, 8⟩,
       ⟨some 27, .mv (.t 4), some (26, true), [], [], 0, 9⟩,
       ⟨some 28, .bin .lss (.t 27) (.c (.lit (.int .i32 48))), some (26, true), [], [], 0, 10⟩,
       ⟨some 29, .mv (.t 28), some (26, true), [], [], 0, 11⟩,
       ⟨some 30, .mv (.t 4), some (29, false), [], [], 0, 12⟩,
       ⟨some 31, .bin .gtr (.t 30) (.c (.lit (.int .i32 57))), some (29, false), [], [], 0, 13⟩,
       ⟨some 32, .pick (.t 29) (.c (.lit (.bool true))) (.t 31), some (26, true), [], [], 0, 14⟩,
       ⟨some 33, .pick (.t 26) (.t 32) (.c (.lit (.bool false))), some (23, false), [], [], 0, 15⟩,
       ⟨some 34, .pick (.t 23) (.c (.lit (.bool true))) (.t 33), some (20, true), [], [], 0, 16⟩,
       q 17 35 (.pick (.t 20) (.t 34) (.c (.lit (.bool false))))]
      [0, 7, 35])
            (.cond (.t 35)
             (.seq
              (.region false 0 []
      [q 0 2 (.mv (.c (.lit (.bool false))))]
      [2])
              .ret)
             .skip))))))))))
   (.seq
    (.region false 0 []
      [q 0 36 (.mv (.t 0)),
       q 1 37 (.bin .neq (.t 36) (.c (.lit (.string ⟨#[]⟩)))),
       q 2 38 (.mv (.t 37)),
       ⟨some 39, .mv (.t 0), some (38, true), [], [], 0, 3⟩,
       ⟨some 40, .lenS (.t 39), some (38, true), [], [], 0, 4⟩,
       ⟨some 41, .bin .leq (.t 40) (.c (.lit (.int .i64 16))), some (38, true), [], [], 0, 5⟩,
       q 6 42 (.pick (.t 38) (.t 41) (.c (.lit (.bool false)))),
       q 7 2 (.mv (.t 42))]
      [2])
    .ret)))
def a107 : AFunc := ⟨1, c107, [.tmp 2]⟩
/-- slices.ContainsFunc(()ceroplast/api.VaVan,ceroplast/api.VaVan) -/
def c108 : ACode :=
 (.seq
  (.region false 0 []
      [q 0 4 (.mv (.c (.lit (.bool false))))]
      [0, 1])
  (.seq
   (.region false 0 []
      [q 0 5 (.mv (.t 0)),
       q 1 6 (.mv (.t 1)),
       q 2 7 (.call (.f 117) [.t 5, .t 6] [] false),
       q 3 8 (.bin .geq (.t 7) (.c (.lit (.int .i64 0)))),
       q 4 4 (.mv (.t 8))]
      [4])
   .ret))
def a108 : AFunc := ⟨2, c108, [.tmp 4]⟩
/-- ceroplast/van.named(ceroplast/api.VaVan).1 -/
def c109 : ACode :=
 (.seq
  (.region false 1 []
      [q 0 4 (.box 4 (.t 0) 0),
       q 1 5 (.mv (.c (.lit (.bool false))))]
      [1, 2, 3, 4])
  (.seq
   (.region true 0 []
      [q 0 6 (.load none (.t 1)),
       q 1 7 (.load (some 4) (.t 4)),
       q 2 8 (.call (.t 6) [.t 7] [] true),
       q 3 9 (.load none (.t 1)),
       q 4 10 (.load none (.t 2)),
       q 5 11 (.load none (.t 3)),
       q 6 12 (.idxS 4 (.t 10) (.t 11)),
       q 7 13 (.load (some 4) (.t 12)),
       q 8 14 (.call (.t 9) [.t 13] [] false),
       q 9 15 (.bin .eql (.t 8) (.t 14)),
       q 10 5 (.mv (.t 15))]
      [5])
   .ret))
def a109 : AFunc := ⟨4, c109, [.tmp 5]⟩
/-- slices.ContainsFunc(()ceroplast/api.VaCrate,ceroplast/api.VaCrate) -/
def c110 : ACode :=
 (.seq
  (.region false 0 []
      [q 0 4 (.mv (.c (.lit (.bool false))))]
      [0, 1])
  (.seq
   (.region false 0 []
      [q 0 5 (.mv (.t 0)),
       q 1 6 (.mv (.t 1)),
       q 2 7 (.call (.f 118) [.t 5, .t 6] [] false),
       q 3 8 (.bin .geq (.t 7) (.c (.lit (.int .i64 0)))),
       q 4 4 (.mv (.t 8))]
      [4])
   .ret))
def a110 : AFunc := ⟨2, c110, [.tmp 4]⟩
/-- ceroplast/van.named(ceroplast/api.VaCrate).1 -/
def c111 : ACode :=
 (.seq
  (.region false 1 []
      [q 0 4 (.box 4 (.t 0) 0),
       q 1 5 (.mv (.c (.lit (.bool false))))]
      [1, 2, 3, 4])
  (.seq
   (.region true 0 []
      [q 0 6 (.load none (.t 1)),
       q 1 7 (.load (some 4) (.t 4)),
       q 2 8 (.call (.t 6) [.t 7] [] true),
       q 3 9 (.load none (.t 1)),
       q 4 10 (.load none (.t 2)),
       q 5 11 (.load none (.t 3)),
       q 6 12 (.idxS 4 (.t 10) (.t 11)),
       q 7 13 (.load (some 4) (.t 12)),
       q 8 14 (.call (.t 9) [.t 13] [] false),
       q 9 15 (.bin .eql (.t 8) (.t 14)),
       q 10 5 (.mv (.t 15))]
      [5])
   .ret))
def a111 : AFunc := ⟨4, c111, [.tmp 5]⟩
/-- slices.IndexFunc(()ceroplast/api.VaPair,ceroplast/api.VaPair) -/
def c115 : ACode :=
 (.seq
  (.region false 0 []
      [q 0 4 (.mv (.c (.lit (.int .i64 0))))]
      [0, 1])
  (.seq
   (.seq
    (.region false 0 []
      [q 0 6 (.mv (.t 0)),
       q 1 7 (.lenL (.t 6)),
       q 2 8 (.mv (.c (.lit (.int .i64 0))))]
      [0, 1, 7, 8])
    (.block 0
     (.loop true [0, 1, 7, 8]
      (.seq
       (.region false 0 []
      [q 0 9 (.bin .lss (.t 8) (.t 7))]
      [0, 1, 7, 8, 9])
       (.seq
        (.cond (.t 9)
         .skip
         (.exit 0))
        (.seq
         (.block 1
          (.seq
           (.region false 0 []
      [q 0 10 (.mv (.t 8)),
       q 1 5 (.mv (.t 10))]
      [0, 1, 5, 7, 8])
           (.seq
            (.region false 0 []
      [q 0 11 (.mv (.t 1)),
       q 1 12 (.mv (.t 0)),
       q 2 13 (.mv (.t 5)),
       q 3 14 (.idxS 2 (.t 12) (.t 13)),
       q 4 15 (.load (some 2) (.t 14)),
       q 5 16 (.call (.t 11) [.t 15] [] false)]
      [0, 1, 5, 7, 8, 16])
            (.cond (.t 16)
             (.seq
              (.region false 0 []
      [q 0 17 (.mv (.t 5)),
       q 1 4 (.mv (.t 17))]
      [4])
              .ret)
             .skip))))
         (.region false 0 []
      [q 0 18 (.bin .add (.t 8) (.c (.lit (.int .i64 1)))),
       q 1 8 (.mv (.t 18))]
      [0, 1, 7, 8])))))))
   (.seq
    (.region false 0 []
      [q 0 4 (.mv (.c (.lit (.int .i64 (-1)))))]
      [4])
    .ret)))
def a115 : AFunc := ⟨2, c115, [.tmp 4]⟩
/-- cmp.isNaN(int) -/
def c116 : ACode :=
 (.seq
  (.region false 0 []
      [q 0 2 (.mv (.c (.lit (.bool false))))]
      [0])
  (.seq
   (.region false 0 []
      [q 0 3 (.mv (.t 0)),
       q 1 4 (.mv (.t 0)),
       q 2 5 (.bin .neq (.t 3) (.t 4)),
       q 3 2 (.mv (.t 5))]
      [2])
   .ret))
def a116 : AFunc := ⟨1, c116, [.tmp 2]⟩
/-- slices.IndexFunc(()ceroplast/api.VaVan,ceroplast/api.VaVan) -/
def c117 : ACode :=
 (.seq
  (.region false 0 []
      [q 0 4 (.mv (.c (.lit (.int .i64 0))))]
      [0, 1])
  (.seq
   (.seq
    (.region false 0 []
      [q 0 6 (.mv (.t 0)),
       q 1 7 (.lenL (.t 6)),
       q 2 8 (.mv (.c (.lit (.int .i64 0))))]
      [0, 1, 7, 8])
    (.block 0
     (.loop true [0, 1, 7, 8]
      (.seq
       (.region false 0 []
      [q 0 9 (.bin .lss (.t 8) (.t 7))]
      [0, 1, 7, 8, 9])
       (.seq
        (.cond (.t 9)
         .skip
         (.exit 0))
        (.seq
         (.block 1
          (.seq
           (.region false 0 []
      [q 0 10 (.mv (.t 8)),
       q 1 5 (.mv (.t 10))]
      [0, 1, 5, 7, 8])
           (.seq
            (.region false 0 []
      [q 0 11 (.mv (.t 1)),
       q 1 12 (.mv (.t 0)),
       q 2 13 (.mv (.t 5)),
       q 3 14 (.idxS 4 (.t 12) (.t 13)),
       q 4 15 (.load (some 4) (.t 14)),
       q 5 16 (.call (.t 11) [.t 15] [] false)]
      [0, 1, 5, 7, 8, 16])
            (.cond (.t 16)
             (.seq
              (.region false 0 []
      [q 0 17 (.mv (.t 5)),
       q 1 4 (.mv (.t 17))]
      [4])
              .ret)
             .skip))))
         (.region false 0 []
      [q 0 18 (.bin .add (.t 8) (.c (.lit (.int .i64 1)))),
       q 1 8 (.mv (.t 18))]
      [0, 1, 7, 8])))))))
   (.seq
    (.region false 0 []
      [q 0 4 (.mv (.c (.lit (.int .i64 (-1)))))]
      [4])
    .ret)))
def a117 : AFunc := ⟨2, c117, [.tmp 4]⟩
/-- slices.IndexFunc(()ceroplast/api.VaCrate,ceroplast/api.VaCrate) -/
def c118 : ACode :=
 (.seq
  (.region false 0 []
      [q 0 4 (.mv (.c (.lit (.int .i64 0))))]
      [0, 1])
  (.seq
   (.seq
    (.region false 0 []
      [q 0 6 (.mv (.t 0)),
       q 1 7 (.lenL (.t 6)),
       q 2 8 (.mv (.c (.lit (.int .i64 0))))]
      [0, 1, 7, 8])
    (.block 0
     (.loop true [0, 1, 7, 8]
      (.seq
       (.region false 0 []
      [q 0 9 (.bin .lss (.t 8) (.t 7))]
      [0, 1, 7, 8, 9])
       (.seq
        (.cond (.t 9)
         .skip
         (.exit 0))
        (.seq
         (.block 1
          (.seq
           (.region false 0 []
      [q 0 10 (.mv (.t 8)),
       q 1 5 (.mv (.t 10))]
      [0, 1, 5, 7, 8])
           (.seq
            (.region false 0 []
      [q 0 11 (.mv (.t 1)),
       q 1 12 (.mv (.t 0)),
       q 2 13 (.mv (.t 5)),
       q 3 14 (.idxS 4 (.t 12) (.t 13)),
       q 4 15 (.load (some 4) (.t 14)),
       q 5 16 (.call (.t 11) [.t 15] [] false)]
      [0, 1, 5, 7, 8, 16])
            (.cond (.t 16)
             (.seq
              (.region false 0 []
      [q 0 17 (.mv (.t 5)),
       q 1 4 (.mv (.t 17))]
      [4])
              .ret)
             .skip))))
         (.region false 0 []
      [q 0 18 (.bin .add (.t 8) (.c (.lit (.int .i64 1)))),
       q 1 8 (.mv (.t 18))]
      [0, 1, 7, 8])))))))
   (.seq
    (.region false 0 []
      [q 0 4 (.mv (.c (.lit (.int .i64 (-1)))))]
      [4])
    .ret)))
def a118 : AFunc := ⟨2, c118, [.tmp 4]⟩
def tab : Tab := fun n => match n with
  | 7 => some a7
  | 16 => some a16
  | 18 => some a18
  | 20 => some a20
  | 21 => some a21
  | 23 => some a23
  | 24 => some a24
  | 26 => some a26
  | 27 => some a27
  | 29 => some a29
  | 31 => some a31
  | 33 => some a33
  | 35 => some a35
  | 37 => some a37
  | 38 => some a38
  | 39 => some a39
  | 56 => some a56
  | 57 => some a57
  | 58 => some a58
  | 59 => some a59
  | 64 => some a64
  | 65 => some a65
  | 68 => some a68
  | 70 => some a70
  | 72 => some a72
  | 75 => some a75
  | 76 => some a76
  | 77 => some a77
  | 78 => some a78
  | 80 => some a80
  | 82 => some a82
  | 83 => some a83
  | 84 => some a84
  | 90 => some a90
  | 91 => some a91
  | 92 => some a92
  | 93 => some a93
  | 94 => some a94
  | 95 => some a95
  | 98 => some a98
  | 99 => some a99
  | 100 => some a100
  | 101 => some a101
  | 102 => some a102
  | 103 => some a103
  | 104 => some a104
  | 106 => some a106
  | 107 => some a107
  | 108 => some a108
  | 109 => some a109
  | 110 => some a110
  | 111 => some a111
  | 115 => some a115
  | 116 => some a116
  | 117 => some a117
  | 118 => some a118
  | _ => none
end Cd
end Go.Proofs.Ytjjmechghfjbmaa
