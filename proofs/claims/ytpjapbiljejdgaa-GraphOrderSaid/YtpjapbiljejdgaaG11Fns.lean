import Derived.KernelRfl
import Derived.Test.YtpjapbiljejdgaaAmIn
import Derived.Test.YtpjapbiljejdgaaAmLaws
import Derived.Test.YtpjapbiljejdgaaProg
namespace Go.Proofs.G11
set_option linter.unusedSimpArgs false
set_option linter.unusedVariables false
set_option linter.unusedSectionVars false
set_option linter.unnecessarySimpa false
open Go Go.Am

-- resolvent/resolventlaw11.GraphComponents
def d3_4 : List (IOper × Nat × Nat) :=
  [(⟨(some 24), .mov (.t 3), none⟩, 0, 0),
    (⟨(some 25), .mov (.t 5), none⟩, 0, 0),
    (⟨(some 26), .indexAddr 1 (.t 24) (.t 25), none⟩, 0, 0),
    (⟨(some 27), .load none (.t 26), none⟩, 0, 1),
    (⟨(some 28), .mov (.t 4), none⟩, 0, 0),
    (⟨(some 29), .mov (.t 5), none⟩, 0, 0),
    (⟨(some 30), .indexAddr 1 (.t 28) (.t 29), none⟩, 0, 0),
    (⟨(some 31), .load none (.t 30), none⟩, 0, 1),
    (⟨(some 32), .call (.f 11) [(.t 27), (.t 31)] false, none⟩, 0, 0),
    (⟨(some 33), .un .not (.t 32), none⟩, 0, 0)]
theorem q3_4 : fitsD (1 + effs d3_4) d3_4 = true := rfl
def b3_5 : C :=
  .reg [⟨(some 22), .mov (.t 5), none⟩,
    ⟨(some 23), .bin .add (.t 22) (.k (.int .i64 1)), none⟩,
    ⟨(some 5), .mov (.t 23), none⟩] [3, 4, 5]
def b3_3 : C :=
  .seq (.block 1 (.seq (.regD d3_4 [3, 4, 5, 33])
    (.cond (.t 33) (.seq (.reg [⟨(some 2), .mov (.k (.bool false)), none⟩] [2])
     (.ret))
    (.skip))))
  (b3_5)
def b3_2 : C :=
  .seq (.seq (.reg [⟨(some 18), .mov (.t 5), none⟩,
      ⟨(some 19), .mov (.t 3), none⟩,
      ⟨(some 20), .len 1 (.t 19), none⟩,
      ⟨(some 21), .bin .lss (.t 18) (.t 20), none⟩] [3, 4, 5, 21])
   (.cond (.t 21) (.skip)
   (.exit 0)))
  (b3_3)
def b3_6 : C :=
  .seq (.reg [⟨(some 34), .call (.f 8) [] false, none⟩,
     ⟨(some 2), .mov (.t 34), none⟩] [2])
  (.ret)
def b3_1 : C :=
  .seq (.seq (.reg [⟨(some 5), .mov (.k (.int .i64 0)), none⟩] [3, 4, 5])
   (.block 0 (.loop [3, 4, 5] true (b3_2))))
  (b3_6)
def b3_0 : C :=
  .seq (.reg [⟨(some 9), .mov (.t 0), none⟩,
     ⟨(some 10), .call (.f 9) [(.t 9)] false, none⟩,
     ⟨(some 11), .mov (.t 0), none⟩,
     ⟨(some 12), .call (.f 10) [(.t 11)] false, none⟩,
     ⟨(some 3), .mov (.t 10), none⟩,
     ⟨(some 4), .mov (.t 12), none⟩] [3, 4])
  (.seq (.seq (.reg [⟨(some 13), .mov (.t 3), none⟩,
      ⟨(some 14), .len 1 (.t 13), none⟩,
      ⟨(some 15), .mov (.t 4), none⟩,
      ⟨(some 16), .len 1 (.t 15), none⟩,
      ⟨(some 17), .bin .neq (.t 14) (.t 16), none⟩] [3, 4, 17])
   (.cond (.t 17) (.seq (.reg [⟨(some 2), .mov (.k (.bool false)), none⟩] [2])
    (.ret))
   (.skip)))
  (b3_1))
def b3 : C :=
  .seq (.reg [⟨(some 2), .mov (.k (.bool false)), none⟩] [0])
  (.seq (.seq (.reg [⟨(some 6), .mov (.t 0), none⟩,
      ⟨(some 7), .call (.f 7) [(.t 6)] false, none⟩] [0, 7])
   (.cond (.t 7) (.seq (.reg [⟨(some 8), .call (.f 8) [] false, none⟩,
       ⟨(some 2), .mov (.t 8), none⟩] [2])
    (.ret))
   (.skip)))
  (b3_0))
def f3 : IFn := { body := b3, params := 1, res := [(2, none)], pop := true, keep := false }
theorem ok3 : okFn Try.prog 3 f3 = true := by kernel_rfl

-- resolvent/resolventlaw11.GraphOrder
def b4_6 : C :=
  .seq (.reg [⟨(some 74), .mov (.t 5), none⟩,
     ⟨(some 75), .mov (.t 9), none⟩,
     ⟨(some 76), .mov (.t 7), none⟩,
     ⟨(some 77), .indexAddr 1 (.t 74) (.t 75), none⟩,
     ⟨none, .store 1 (.t 77) (.t 76), none⟩] [0, 3, 4, 5, 6, 7, 8])
  (.reg [⟨(some 78), .mov (.t 6), none⟩,
    ⟨(some 79), .bin .add (.t 78) (.k (.int .i64 1)), none⟩,
    ⟨(some 6), .mov (.t 79), none⟩] [0, 3, 4, 5, 6, 7, 8])
def b4_7 : C :=
  .reg [⟨(some 41), .mov (.t 8), none⟩,
    ⟨(some 42), .bin .add (.t 41) (.k (.int .i64 1)), none⟩,
    ⟨(some 8), .mov (.t 42), none⟩] [0, 3, 4, 5, 6, 7, 8]
def b4_5 : C :=
  .seq (.block 3 (.seq (.reg [⟨(some 43), .mov (.t 3), none⟩,
       ⟨(some 44), .mov (.t 7), none⟩,
       ⟨(some 45), .indexAddr 1 (.t 43) (.t 44), none⟩,
       ⟨(some 46), .load none (.t 45), none⟩,
       ⟨(some 47), .mov (.t 8), none⟩,
       ⟨(some 48), .indexAddr 1 (.t 46) (.t 47), none⟩,
       ⟨(some 49), .load none (.t 48), none⟩,
       ⟨(some 9), .mov (.t 49), none⟩] [0, 3, 4, 5, 6, 7, 8, 9])
    (.seq (.seq (.reg [⟨(some 50), .mov (.t 9), none⟩,
        ⟨(some 51), .bin .lss (.t 50) (.k (.int .i64 0)), none⟩,
        ⟨(some 52), .mov (.t 51), none⟩,
        ⟨(some 53), .mov (.t 9), some (52, false)⟩,
        ⟨(some 54), .mov (.t 0), some (52, false)⟩,
        ⟨(some 55), .len 1 (.t 54), some (52, false)⟩,
        ⟨(some 56), .bin .geq (.t 53) (.t 55), some (52, false)⟩,
        ⟨(some 57), .pick (.t 52) (.k (.bool true)) (.t 56), none⟩,
        ⟨(some 58), .mov (.t 57), none⟩,
        ⟨(some 59), .mov (.t 8), some (58, false)⟩,
        ⟨(some 60), .bin .gtr (.t 59) (.k (.int .i64 0)), some (58, false)⟩,
        ⟨(some 61), .mov (.t 60), some (58, false)⟩,
        ⟨(some 62), .mov (.t 3), some (61, true)⟩,
        ⟨(some 63), .mov (.t 7), some (61, true)⟩,
        ⟨(some 64), .indexAddr 1 (.t 62) (.t 63), some (61, true)⟩,
        ⟨(some 65), .load none (.t 64), some (61, true)⟩,
        ⟨(some 66), .mov (.t 8), some (61, true)⟩,
        ⟨(some 67), .bin .sub (.t 66) (.k (.int .i64 1)), some (61, true)⟩,
        ⟨(some 68), .indexAddr 1 (.t 65) (.t 67), some (61, true)⟩,
        ⟨(some 69), .load none (.t 68), some (61, true)⟩,
        ⟨(some 70), .mov (.t 9), some (61, true)⟩,
        ⟨(some 71), .bin .geq (.t 69) (.t 70), some (61, true)⟩,
        ⟨(some 72), .pick (.t 61) (.t 71) (.k (.bool false)), some (58, false)⟩,
        ⟨(some 73), .pick (.t 58) (.k (.bool true)) (.t 72), none⟩] [0, 3, 4, 5, 6, 7, 8, 9, 73])
     (.cond (.t 73) (.seq (.reg [⟨(some 2), .mov (.k (.bool false)), none⟩] [2])
      (.ret))
     (.skip)))
    (b4_6))))
  (b4_7)
def b4_4 : C :=
  .seq (.seq (.reg [⟨(some 34), .mov (.t 8), none⟩,
      ⟨(some 35), .mov (.t 3), none⟩,
      ⟨(some 36), .mov (.t 7), none⟩,
      ⟨(some 37), .indexAddr 1 (.t 35) (.t 36), none⟩,
      ⟨(some 38), .load none (.t 37), none⟩,
      ⟨(some 39), .len 1 (.t 38), none⟩,
      ⟨(some 40), .bin .lss (.t 34) (.t 39), none⟩] [0, 3, 4, 5, 6, 7, 8, 40])
   (.cond (.t 40) (.skip)
   (.exit 2)))
  (b4_5)
def b4_3 : C :=
  .seq (.reg [⟨(some 8), .mov (.k (.int .i64 0)), none⟩] [0, 3, 4, 5, 6, 7, 8])
  (.block 2 (.loop [0, 3, 4, 5, 6, 7, 8] false (b4_4)))
def b4_8 : C :=
  .reg [⟨(some 26), .mov (.t 7), none⟩,
    ⟨(some 27), .bin .add (.t 26) (.k (.int .i64 1)), none⟩,
    ⟨(some 7), .mov (.t 27), none⟩] [0, 3, 4, 5, 6, 7]
def b4_2 : C :=
  .seq (.block 1 (.seq (.seq (.reg [⟨(some 28), .mov (.t 3), none⟩,
        ⟨(some 29), .mov (.t 7), none⟩,
        ⟨(some 30), .indexAddr 1 (.t 28) (.t 29), none⟩,
        ⟨(some 31), .load none (.t 30), none⟩,
        ⟨(some 32), .len 1 (.t 31), none⟩,
        ⟨(some 33), .bin .eql (.t 32) (.k (.int .i64 0)), none⟩] [0, 3, 4, 5, 6, 7, 33])
     (.cond (.t 33) (.seq (.reg [⟨(some 2), .mov (.k (.bool false)), none⟩] [2])
      (.ret))
     (.skip)))
    (b4_3)))
  (b4_8)
def b4_1 : C :=
  .seq (.seq (.reg [⟨(some 22), .mov (.t 7), none⟩,
      ⟨(some 23), .mov (.t 3), none⟩,
      ⟨(some 24), .len 1 (.t 23), none⟩,
      ⟨(some 25), .bin .lss (.t 22) (.t 24), none⟩] [0, 3, 4, 5, 6, 7, 25])
   (.cond (.t 25) (.skip)
   (.exit 0)))
  (b4_2)
def d4_15 : List (IOper × Nat × Nat) :=
  [(⟨(some 96), .mov (.t 5), none⟩, 0, 0),
    (⟨(some 97), .mov (.t 10), none⟩, 0, 0),
    (⟨(some 98), .indexAddr 1 (.t 96) (.t 97), none⟩, 0, 0),
    (⟨(some 99), .load none (.t 98), none⟩, 0, 1),
    (⟨(some 100), .mov (.t 5), none⟩, 0, 0),
    (⟨(some 101), .mov (.t 11), none⟩, 0, 0),
    (⟨(some 102), .indexAddr 1 (.t 100) (.t 101), none⟩, 0, 0),
    (⟨(some 103), .load none (.t 102), none⟩, 0, 1),
    (⟨(some 104), .bin .eql (.t 99) (.t 103), none⟩, 0, 0),
    (⟨(some 105), .mov (.t 4), none⟩, 0, 0),
    (⟨(some 106), .mov (.t 10), none⟩, 0, 0),
    (⟨(some 107), .indexAddr 1 (.t 105) (.t 106), none⟩, 0, 0),
    (⟨(some 108), .load none (.t 107), none⟩, 0, 1),
    (⟨(some 109), .mov (.t 11), none⟩, 0, 0),
    (⟨(some 110), .indexAddr 1 (.t 108) (.t 109), none⟩, 0, 0),
    (⟨(some 111), .load none (.t 110), none⟩, 0, 1),
    (⟨(some 112), .mov (.t 111), none⟩, 0, 0),
    (⟨(some 113), .mov (.t 4), some (112, true)⟩, 0, 0),
    (⟨(some 114), .mov (.t 11), some (112, true)⟩, 0, 0),
    (⟨(some 115), .indexAddr 1 (.t 113) (.t 114), some (112, true)⟩, 0, 0),
    (⟨(some 116), .load none (.t 115), some (112, true)⟩, 0, 1),
    (⟨(some 117), .mov (.t 10), some (112, true)⟩, 0, 0),
    (⟨(some 118), .indexAddr 1 (.t 116) (.t 117), some (112, true)⟩, 0, 0),
    (⟨(some 119), .load none (.t 118), some (112, true)⟩, 0, 1),
    (⟨(some 120), .pick (.t 112) (.t 119) (.k (.bool false)), none⟩, 0, 0),
    (⟨(some 121), .eqv ⟨[.b], false⟩ true (.t 104) (.t 120), none⟩, 0, 0),
    (⟨(some 122), .mov (.t 121), none⟩, 0, 0),
    (⟨(some 123), .mov (.t 4), some (122, false)⟩, 0, 0),
    (⟨(some 124), .mov (.t 10), some (122, false)⟩, 0, 0),
    (⟨(some 125), .indexAddr 1 (.t 123) (.t 124), some (122, false)⟩, 0, 0),
    (⟨(some 126), .load none (.t 125), some (122, false)⟩, 0, 1),
    (⟨(some 127), .mov (.t 11), some (122, false)⟩, 0, 0),
    (⟨(some 128), .indexAddr 1 (.t 126) (.t 127), some (122, false)⟩, 0, 0),
    (⟨(some 129), .load none (.t 128), some (122, false)⟩, 0, 1),
    (⟨(some 130), .mov (.t 129), some (122, false)⟩, 0, 0),
    (⟨(some 131), .mov (.t 5), some (130, true)⟩, 0, 0),
    (⟨(some 132), .mov (.t 11), some (130, true)⟩, 0, 0),
    (⟨(some 133), .indexAddr 1 (.t 131) (.t 132), some (130, true)⟩, 0, 0),
    (⟨(some 134), .load none (.t 133), some (130, true)⟩, 0, 1),
    (⟨(some 135), .mov (.t 5), some (130, true)⟩, 0, 0),
    (⟨(some 136), .mov (.t 10), some (130, true)⟩, 0, 0),
    (⟨(some 137), .indexAddr 1 (.t 135) (.t 136), some (130, true)⟩, 0, 0),
    (⟨(some 138), .load none (.t 137), some (130, true)⟩, 0, 1),
    (⟨(some 139), .bin .gtr (.t 134) (.t 138), some (130, true)⟩, 0, 0),
    (⟨(some 140), .pick (.t 130) (.t 139) (.k (.bool false)), some (122, false)⟩, 0, 0),
    (⟨(some 141), .pick (.t 122) (.k (.bool true)) (.t 140), none⟩, 0, 0)]
theorem q4_15 : fitsD (1 + effs d4_15) d4_15 = true := rfl
def b4_16 : C :=
  .reg [⟨(some 94), .mov (.t 11), none⟩,
    ⟨(some 95), .bin .add (.t 94) (.k (.int .i64 1)), none⟩,
    ⟨(some 11), .mov (.t 95), none⟩] [0, 4, 5, 10, 11]
def b4_14 : C :=
  .seq (.block 7 (.seq (.regD d4_15 [0, 4, 5, 10, 11, 141])
    (.cond (.t 141) (.seq (.reg [⟨(some 2), .mov (.k (.bool false)), none⟩] [2])
     (.ret))
    (.skip))))
  (b4_16)
def b4_13 : C :=
  .seq (.seq (.reg [⟨(some 90), .mov (.t 11), none⟩,
      ⟨(some 91), .mov (.t 0), none⟩,
      ⟨(some 92), .len 1 (.t 91), none⟩,
      ⟨(some 93), .bin .lss (.t 90) (.t 92), none⟩] [0, 4, 5, 10, 11, 93])
   (.cond (.t 93) (.skip)
   (.exit 6)))
  (b4_14)
def b4_17 : C :=
  .reg [⟨(some 88), .mov (.t 10), none⟩,
    ⟨(some 89), .bin .add (.t 88) (.k (.int .i64 1)), none⟩,
    ⟨(some 10), .mov (.t 89), none⟩] [0, 4, 5, 10]
def b4_12 : C :=
  .seq (.block 5 (.seq (.reg [⟨(some 11), .mov (.k (.int .i64 0)), none⟩] [0, 4, 5, 10, 11])
    (.block 6 (.loop [0, 4, 5, 10, 11] false (b4_13)))))
  (b4_17)
def b4_11 : C :=
  .seq (.seq (.reg [⟨(some 84), .mov (.t 10), none⟩,
      ⟨(some 85), .mov (.t 0), none⟩,
      ⟨(some 86), .len 1 (.t 85), none⟩,
      ⟨(some 87), .bin .lss (.t 84) (.t 86), none⟩] [0, 4, 5, 10, 87])
   (.cond (.t 87) (.skip)
   (.exit 4)))
  (b4_12)
def b4_18 : C :=
  .seq (.reg [⟨(some 142), .call (.f 8) [] false, none⟩,
     ⟨(some 2), .mov (.t 142), none⟩] [2])
  (.ret)
def b4_10 : C :=
  .seq (.seq (.reg [⟨(some 10), .mov (.k (.int .i64 0)), none⟩] [0, 4, 5, 10])
   (.block 4 (.loop [0, 4, 5, 10] false (b4_11))))
  (b4_18)
def b4_9 : C :=
  .seq (.seq (.reg [⟨(some 80), .mov (.t 6), none⟩,
      ⟨(some 81), .mov (.t 0), none⟩,
      ⟨(some 82), .len 1 (.t 81), none⟩,
      ⟨(some 83), .bin .neq (.t 80) (.t 82), none⟩] [0, 4, 5, 83])
   (.cond (.t 83) (.seq (.reg [⟨(some 2), .mov (.k (.bool false)), none⟩] [2])
    (.ret))
   (.skip)))
  (b4_10)
def b4_0 : C :=
  .seq (.reg [⟨(some 15), .mov (.t 0), none⟩,
     ⟨(some 16), .call (.f 9) [(.t 15)] false, none⟩,
     ⟨(some 3), .mov (.t 16), none⟩] [0, 3])
  (.seq (.reg [⟨(some 17), .mov (.t 0), none⟩,
     ⟨(some 18), .call (.f 12) [(.t 17)] false, none⟩,
     ⟨(some 4), .mov (.t 18), none⟩] [0, 3, 4])
  (.seq (.reg [⟨(some 19), .mov (.t 0), none⟩,
     ⟨(some 20), .len 1 (.t 19), none⟩,
     ⟨(some 21), .makeSlice 1 8 [(.int .i64 0)] (.t 20) true, none⟩,
     ⟨(some 5), .mov (.t 21), none⟩] [0, 3, 4, 5])
  (.seq (.reg [⟨(some 6), .mov (.k (.int .i64 0)), none⟩] [0, 3, 4, 5, 6])
  (.seq (.seq (.reg [⟨(some 7), .mov (.k (.int .i64 0)), none⟩] [0, 3, 4, 5, 6, 7])
   (.block 0 (.loop [0, 3, 4, 5, 6, 7] false (b4_1))))
  (b4_9)))))
def b4 : C :=
  .seq (.reg [⟨(some 2), .mov (.k (.bool false)), none⟩] [0])
  (.seq (.seq (.reg [⟨(some 12), .mov (.t 0), none⟩,
      ⟨(some 13), .call (.f 7) [(.t 12)] false, none⟩] [0, 13])
   (.cond (.t 13) (.seq (.reg [⟨(some 14), .call (.f 8) [] false, none⟩,
       ⟨(some 2), .mov (.t 14), none⟩] [2])
    (.ret))
   (.skip)))
  (b4_0))
def f4 : IFn := { body := b4, params := 1, res := [(2, none)], pop := true, keep := false }
theorem ok4 : okFn Try.prog 4 f4 = true := by kernel_rfl

-- resolvent/resolventlaw11.great
def b7_2 : C :=
  .reg [⟨(some 12), .mov (.t 3), none⟩,
    ⟨(some 13), .bin .add (.t 12) (.k (.int .i64 1)), none⟩,
    ⟨(some 3), .mov (.t 13), none⟩] [0, 3]
def b7_1 : C :=
  .seq (.block 1 (.seq (.reg [⟨(some 14), .mov (.t 0), none⟩,
       ⟨(some 15), .mov (.t 3), none⟩,
       ⟨(some 16), .indexAddr 1 (.t 14) (.t 15), none⟩,
       ⟨(some 17), .load none (.t 16), none⟩,
       ⟨(some 18), .len 1 (.t 17), none⟩,
       ⟨(some 19), .bin .gtr (.t 18) (.k (.int .i64 60)), none⟩] [0, 3, 19])
    (.cond (.t 19) (.seq (.reg [⟨(some 2), .mov (.k (.bool true)), none⟩] [2])
     (.ret))
    (.skip))))
  (b7_2)
def b7_0 : C :=
  .seq (.seq (.reg [⟨(some 4), .mov (.t 3), none⟩,
      ⟨(some 5), .mov (.t 0), none⟩,
      ⟨(some 6), .len 1 (.t 5), none⟩,
      ⟨(some 7), .bin .lss (.t 4) (.t 6), none⟩,
      ⟨(some 8), .mov (.t 7), none⟩,
      ⟨(some 9), .mov (.t 3), some (8, true)⟩,
      ⟨(some 10), .bin .leq (.t 9) (.k (.int .i64 20)), some (8, true)⟩,
      ⟨(some 11), .pick (.t 8) (.t 10) (.k (.bool false)), none⟩] [0, 3, 11])
   (.cond (.t 11) (.skip)
   (.exit 0)))
  (b7_1)
def b7_3 : C :=
  .seq (.reg [⟨(some 20), .mov (.t 0), none⟩,
     ⟨(some 21), .len 1 (.t 20), none⟩,
     ⟨(some 22), .bin .gtr (.t 21) (.k (.int .i64 20)), none⟩,
     ⟨(some 2), .mov (.t 22), none⟩] [2])
  (.ret)
def b7 : C :=
  .seq (.reg [⟨(some 2), .mov (.k (.bool false)), none⟩] [0])
  (.seq (.seq (.reg [⟨(some 3), .mov (.k (.int .i64 0)), none⟩] [0, 3])
   (.block 0 (.loop [0, 3] true (b7_0))))
  (b7_3))
def f7 : IFn := { body := b7, params := 1, res := [(2, none)], pop := true, keep := false }
theorem ok7 : okFn Try.prog 7 f7 = true := by kernel_rfl

-- resolvent/resolventlaw11.wakes
def b8 : C :=
  .seq (.reg [⟨(some 0), .mov (.k (.bool false)), none⟩] [])
  (.seq (.reg [⟨(some 2), .buildSlice 1 [(.int .i64 0)] 1 [(0, (.k (.int .i64 1)))] false, none⟩,
     ⟨(some 3), .buildSlice 1 [(.int .i64 0)] 1 [(0, (.k (.int .i64 2)))] false, none⟩,
     ⟨(some 4), .buildSlice 1 [(.int .i64 0)] 1 [(0, (.k (.int .i64 1)))] false, none⟩,
     ⟨(some 5), .buildSlice 1 [(.list .full 0 [])] 4 [(0, (.t 2)), (1, (.t 3)), (2, (.t 4)), (3, (.k (.list .full 0 [])))] false, none⟩,
     ⟨(some 6), .call (.f 9) [(.t 5)] false, none⟩,
     ⟨(some 1), .mov (.t 6), none⟩] [1])
  (.seq (.reg [⟨(some 7), .mov (.t 1), none⟩,
     ⟨(some 8), .len 1 (.t 7), none⟩,
     ⟨(some 9), .bin .eql (.t 8) (.k (.int .i64 3)), none⟩,
     ⟨(some 10), .mov (.t 9), none⟩,
     ⟨(some 11), .mov (.t 1), some (10, true)⟩,
     ⟨(some 12), .indexAddr 1 (.t 11) (.k (.int .i64 0)), some (10, true)⟩,
     ⟨(some 13), .load none (.t 12), some (10, true)⟩,
     ⟨(some 14), .buildSlice 1 [(.int .i64 0)] 2 [(0, (.k (.int .i64 1))), (1, (.k (.int .i64 2)))] false, some (10, true)⟩,
     ⟨(some 15), .call (.f 11) [(.t 13), (.t 14)] false, some (10, true)⟩,
     ⟨(some 16), .pick (.t 10) (.t 15) (.k (.bool false)), none⟩,
     ⟨(some 17), .mov (.t 16), none⟩,
     ⟨(some 18), .mov (.t 1), some (17, true)⟩,
     ⟨(some 19), .indexAddr 1 (.t 18) (.k (.int .i64 1)), some (17, true)⟩,
     ⟨(some 20), .load none (.t 19), some (17, true)⟩,
     ⟨(some 21), .buildSlice 1 [(.int .i64 0)] 1 [(0, (.k (.int .i64 0)))] false, some (17, true)⟩,
     ⟨(some 22), .call (.f 11) [(.t 20), (.t 21)] false, some (17, true)⟩,
     ⟨(some 23), .pick (.t 17) (.t 22) (.k (.bool false)), none⟩,
     ⟨(some 24), .mov (.t 23), none⟩,
     ⟨(some 25), .mov (.t 1), some (24, true)⟩,
     ⟨(some 26), .indexAddr 1 (.t 25) (.k (.int .i64 2)), some (24, true)⟩,
     ⟨(some 27), .load none (.t 26), some (24, true)⟩,
     ⟨(some 28), .buildSlice 1 [(.int .i64 0)] 1 [(0, (.k (.int .i64 3)))] false, some (24, true)⟩,
     ⟨(some 29), .call (.f 11) [(.t 27), (.t 28)] false, some (24, true)⟩,
     ⟨(some 30), .pick (.t 24) (.t 29) (.k (.bool false)), none⟩,
     ⟨(some 31), .mov (.t 30), none⟩,
     ⟨(some 32), .makeSlice 4 56 [(.int .u8 0), (.str ⟨#[]⟩), (.int .i64 0), (.list .full 0 [])] (.k (.int .i64 2)) true, some (31, true)⟩,
     ⟨(some 33), .build [(.int .u8 0), (.str ⟨#[]⟩), (.int .i64 0), (.list .full 0 [])] [(0, 1, (.k (.int .u8 4))), (1, 1, (.k (.str ⟨#[102]⟩))), (3, 1, (.t 32))], some (31, true)⟩,
     ⟨(some 34), .call (.f 21) [(.t 33)] false, some (31, true)⟩,
     ⟨(some 35), .build [(.str ⟨#[]⟩), (.int .i64 0)] [(0, 1, (.k (.str ⟨#[102]⟩))), (1, 1, (.k (.int .i64 2)))], some (31, true)⟩,
     ⟨(some 36), .eqv ⟨[.s, .i], true⟩ false (.t 34) (.t 35), some (31, true)⟩,
     ⟨(some 37), .pick (.t 31) (.t 36) (.k (.bool false)), none⟩,
     ⟨(some 0), .mov (.t 37), none⟩] [0])
  (.ret)))
def f8 : IFn := { body := b8, params := 0, res := [(0, none)], pop := true, keep := false }
theorem ok8 : okFn Try.prog 8 f8 = true := by kernel_rfl

-- resolvent/graph.Components
def b9_3 : C :=
  .block 3 (.reg [⟨(some 31), .mov (.t 7), none⟩,
     ⟨(some 32), .bin .add (.t 31) (.k (.int .i64 1)), none⟩,
     ⟨(some 7), .mov (.t 32), none⟩] [0, 3, 4, 5, 6, 7])
def b9_2 : C :=
  .seq (.seq (.reg [⟨(some 21), .load none (.t 4), none⟩,
      ⟨(some 22), .mov (.t 7), none⟩,
      ⟨(some 23), .indexAddr 1 (.t 21) (.t 22), none⟩,
      ⟨(some 24), .load none (.t 23), none⟩,
      ⟨(some 25), .mov (.t 24), none⟩,
      ⟨(some 26), .mov (.t 5), some (25, false)⟩,
      ⟨(some 27), .mov (.t 7), some (25, false)⟩,
      ⟨(some 28), .call (.t 26) [(.t 27)] false, some (25, false)⟩,
      ⟨(some 29), .un .not (.t 28), some (25, false)⟩,
      ⟨(some 30), .pick (.t 25) (.k (.bool true)) (.t 29), none⟩] [0, 3, 4, 5, 6, 7, 30])
   (.cond (.t 30) (.skip)
   (.exit 2)))
  (b9_3)
def b9_7 : C :=
  .reg [⟨(some 61), .bin .add (.t 35) (.k (.int .i64 1)), none⟩,
    ⟨(some 35), .mov (.t 61), none⟩] [0, 3, 4, 5, 6, 7, 8, 34, 35]
def b9_6 : C :=
  .seq (.block 5 (.seq (.reg [⟨(some 37), .mov (.t 35), none⟩,
       ⟨(some 9), .mov (.t 37), none⟩] [0, 3, 4, 5, 6, 7, 8, 9, 34, 35])
    (.seq (.reg [⟨(some 38), .load none (.t 3), none⟩,
       ⟨(some 39), .mov (.t 7), none⟩,
       ⟨(some 40), .indexAddr 1 (.t 38) (.t 39), none⟩,
       ⟨(some 41), .load none (.t 40), none⟩,
       ⟨(some 42), .mov (.t 9), none⟩,
       ⟨(some 43), .indexAddr 1 (.t 41) (.t 42), none⟩,
       ⟨(some 44), .load none (.t 43), none⟩,
       ⟨(some 45), .mov (.t 44), none⟩,
       ⟨(some 46), .load none (.t 3), some (45, true)⟩,
       ⟨(some 47), .mov (.t 9), some (45, true)⟩,
       ⟨(some 48), .indexAddr 1 (.t 46) (.t 47), some (45, true)⟩,
       ⟨(some 49), .load none (.t 48), some (45, true)⟩,
       ⟨(some 50), .mov (.t 7), some (45, true)⟩,
       ⟨(some 51), .indexAddr 1 (.t 49) (.t 50), some (45, true)⟩,
       ⟨(some 52), .load none (.t 51), some (45, true)⟩,
       ⟨(some 53), .pick (.t 45) (.t 52) (.k (.bool false)), none⟩] [0, 3, 4, 5, 6, 7, 8, 9, 34, 35, 53])
    (.cond (.t 53) (.seq (.reg [⟨(some 54), .mov (.t 8), none⟩,
        ⟨(some 55), .mov (.t 9), none⟩,
        ⟨(some 56), .buildSlice 1 [(.int .i64 0)] 1 [(0, (.t 55))] false, none⟩,
        ⟨(some 57), .append 1 8 (.t 54) (.t 56) 0, none⟩,
        ⟨(some 8), .mov (.t 57), none⟩] [0, 3, 4, 5, 6, 7, 8, 9, 34, 35])
     (.reg [⟨(some 58), .load none (.t 4), none⟩,
       ⟨(some 59), .mov (.t 9), none⟩,
       ⟨(some 60), .indexAddr 1 (.t 58) (.t 59), none⟩,
       ⟨none, .store 1 (.t 60) (.k (.bool true)), none⟩] [0, 3, 4, 5, 6, 7, 8, 34, 35]))
    (.skip)))))
  (b9_7)
def b9_5 : C :=
  .seq (.reg [⟨(some 36), .bin .lss (.t 35) (.t 34), none⟩] [0, 3, 4, 5, 6, 7, 8, 34, 35, 36])
  (.seq (.cond (.t 36) (.skip)
   (.exit 4))
  (b9_6))
def b9_8 : C :=
  .reg [⟨(some 62), .mov (.t 6), none⟩,
    ⟨(some 63), .mov (.t 8), none⟩,
    ⟨(some 64), .buildSlice 1 [(.list .full 0 [])] 1 [(0, (.t 63))] false, none⟩,
    ⟨(some 65), .append 1 24 (.t 62) (.t 64) 0, none⟩,
    ⟨(some 6), .mov (.t 65), none⟩] [0, 3, 4, 5, 6]
def b9_4 : C :=
  .seq (.reg [⟨(some 8), .tipNew 1, none⟩] [0, 3, 4, 5, 6, 7, 8])
  (.seq (.seq (.reg [⟨(some 33), .mov (.t 0), none⟩,
      ⟨(some 34), .len 1 (.t 33), none⟩,
      ⟨(some 35), .mov (.k (.int .i64 0)), none⟩] [0, 3, 4, 5, 6, 7, 8, 34, 35])
   (.block 4 (.loop [0, 3, 4, 5, 6, 7, 8, 34, 35] false (b9_5))))
  (b9_8))
def b9_1 : C :=
  .seq (.block 2 (.loop [0, 3, 4, 5, 6, 7] false (b9_2)))
  (b9_4)
def b9_0 : C :=
  .block 1 (.seq (.reg [⟨(some 16), .load none (.t 4), none⟩,
      ⟨(some 17), .call (.f 24) [(.t 16), (.f 25)] false, none⟩,
      ⟨(some 7), .mov (.t 17), none⟩] [0, 3, 4, 5, 6, 7])
   (.seq (.seq (.reg [⟨(some 18), .mov (.t 7), none⟩,
       ⟨(some 19), .bin .lss (.t 18) (.k (.int .i64 0)), none⟩] [0, 3, 4, 5, 6, 7, 19])
    (.cond (.t 19) (.seq (.reg [⟨(some 20), .mov (.t 6), none⟩,
        ⟨(some 2), .mov (.t 20), none⟩] [2])
     (.ret))
    (.skip)))
   (b9_1)))
def b9 : C :=
  .seq (.reg [⟨(some 2), .mov (.k (.list .full 1 [])), none⟩] [0])
  (.seq (.reg [⟨(some 10), .mov (.t 0), none⟩,
     ⟨(some 11), .call (.f 22) [(.t 10)] false, none⟩,
     ⟨(some 3), .new [(.list .full 0 [])], none⟩,
     ⟨none, .store 1 (.t 3) (.t 11), none⟩] [0, 3])
  (.seq (.reg [⟨(some 12), .mov (.t 0), none⟩,
     ⟨(some 13), .len 1 (.t 12), none⟩,
     ⟨(some 14), .makeSlice 1 1 [(.bool false)] (.t 13) true, none⟩,
     ⟨(some 4), .new [(.list .full 0 [])], none⟩,
     ⟨none, .store 1 (.t 4) (.t 14), none⟩] [0, 3, 4])
  (.seq (.reg [⟨(some 15), .makeFunc 23 [] [(.t 3), (.t 4)], none⟩,
     ⟨(some 5), .mov (.t 15), none⟩] [0, 3, 4, 5])
  (.seq (.reg [⟨(some 6), .tipNew 1, none⟩] [0, 3, 4, 5, 6])
  (.block 0 (.loop [0, 3, 4, 5, 6] false (b9_0)))))))
def f9 : IFn := { body := b9, params := 1, res := [(2, none)], pop := true, keep := false }
theorem ok9 : okFn Try.prog 9 f9 = true := by kernel_rfl

-- resolvent/resolventref11.Components
def b10_5 : C :=
  .seq (.block 5 (.reg [⟨(some 40), .mov (.t 3), none⟩,
      ⟨(some 41), .mov (.t 8), none⟩,
      ⟨(some 42), .indexAddr 1 (.t 40) (.t 41), none⟩,
      ⟨(some 43), .load none (.t 42), none⟩,
      ⟨(some 44), .mov (.t 10), none⟩,
      ⟨(some 45), .indexAddr 1 (.t 43) (.t 44), none⟩,
      ⟨(some 46), .load none (.t 45), none⟩,
      ⟨(some 47), .un .not (.t 46), none⟩,
      ⟨(some 48), .mov (.t 47), none⟩,
      ⟨(some 49), .mov (.t 5), some (48, false)⟩,
      ⟨(some 50), .mov (.t 10), some (48, false)⟩,
      ⟨(some 51), .indexAddr 1 (.t 49) (.t 50), some (48, false)⟩,
      ⟨(some 52), .load none (.t 51), some (48, false)⟩,
      ⟨(some 53), .pick (.t 48) (.k (.bool true)) (.t 52), none⟩,
      ⟨(some 54), .mov (.t 53), none⟩,
      ⟨(some 55), .mov (.t 3), some (54, false)⟩,
      ⟨(some 56), .mov (.t 10), some (54, false)⟩,
      ⟨(some 57), .indexAddr 1 (.t 55) (.t 56), some (54, false)⟩,
      ⟨(some 58), .load none (.t 57), some (54, false)⟩,
      ⟨(some 59), .mov (.t 8), some (54, false)⟩,
      ⟨(some 60), .indexAddr 1 (.t 58) (.t 59), some (54, false)⟩,
      ⟨(some 61), .load none (.t 60), some (54, false)⟩,
      ⟨(some 62), .pick (.t 54) (.k (.bool true)) (.t 61), none⟩,
      ⟨(some 9), .mov (.t 62), none⟩] [3, 4, 5, 6, 7, 8, 9, 10]))
  (.reg [⟨(some 38), .mov (.t 10), none⟩,
    ⟨(some 39), .bin .add (.t 38) (.k (.int .i64 1)), none⟩,
    ⟨(some 10), .mov (.t 39), none⟩] [3, 4, 5, 6, 7, 8, 9, 10])
def b10_4 : C :=
  .seq (.seq (.reg [⟨(some 32), .mov (.t 10), none⟩,
      ⟨(some 33), .mov (.t 4), none⟩,
      ⟨(some 34), .bin .lss (.t 32) (.t 33), none⟩,
      ⟨(some 35), .mov (.t 34), none⟩,
      ⟨(some 36), .mov (.t 9), some (35, true)⟩,
      ⟨(some 37), .pick (.t 35) (.t 36) (.k (.bool false)), none⟩] [3, 4, 5, 6, 7, 8, 9, 10, 37])
   (.cond (.t 37) (.skip)
   (.exit 4)))
  (b10_5)
def b10_10 : C :=
  .reg [⟨(some 68), .mov (.t 12), none⟩,
    ⟨(some 69), .bin .add (.t 68) (.k (.int .i64 1)), none⟩,
    ⟨(some 12), .mov (.t 69), none⟩] [3, 4, 5, 6, 7, 8, 11, 12]
def b10_9 : C :=
  .seq (.block 7 (.seq (.reg [⟨(some 70), .mov (.t 3), none⟩,
       ⟨(some 71), .mov (.t 8), none⟩,
       ⟨(some 72), .indexAddr 1 (.t 70) (.t 71), none⟩,
       ⟨(some 73), .load none (.t 72), none⟩,
       ⟨(some 74), .mov (.t 12), none⟩,
       ⟨(some 75), .indexAddr 1 (.t 73) (.t 74), none⟩,
       ⟨(some 76), .load none (.t 75), none⟩,
       ⟨(some 77), .mov (.t 76), none⟩,
       ⟨(some 78), .mov (.t 3), some (77, true)⟩,
       ⟨(some 79), .mov (.t 12), some (77, true)⟩,
       ⟨(some 80), .indexAddr 1 (.t 78) (.t 79), some (77, true)⟩,
       ⟨(some 81), .load none (.t 80), some (77, true)⟩,
       ⟨(some 82), .mov (.t 8), some (77, true)⟩,
       ⟨(some 83), .indexAddr 1 (.t 81) (.t 82), some (77, true)⟩,
       ⟨(some 84), .load none (.t 83), some (77, true)⟩,
       ⟨(some 85), .pick (.t 77) (.t 84) (.k (.bool false)), none⟩] [3, 4, 5, 6, 7, 8, 11, 12, 85])
    (.cond (.t 85) (.seq (.reg [⟨(some 86), .mov (.t 11), none⟩,
        ⟨(some 87), .mov (.t 12), none⟩,
        ⟨(some 88), .buildSlice 1 [(.int .i64 0)] 1 [(0, (.t 87))] false, none⟩,
        ⟨(some 89), .append 1 8 (.t 86) (.t 88) 0, none⟩,
        ⟨(some 11), .mov (.t 89), none⟩] [3, 4, 5, 6, 7, 8, 11, 12])
     (.seq (.reg [⟨(some 90), .mov (.t 5), none⟩,
        ⟨(some 91), .mov (.t 12), none⟩,
        ⟨(some 92), .indexAddr 1 (.t 90) (.t 91), none⟩,
        ⟨none, .store 1 (.t 92) (.k (.bool true)), none⟩] [3, 4, 5, 6, 7, 8, 11, 12])
     (.reg [⟨(some 93), .mov (.t 7), none⟩,
       ⟨(some 94), .bin .sub (.t 93) (.k (.int .i64 1)), none⟩,
       ⟨(some 7), .mov (.t 94), none⟩] [3, 4, 5, 6, 7, 8, 11, 12])))
    (.skip))))
  (b10_10)
def b10_8 : C :=
  .seq (.seq (.reg [⟨(some 65), .mov (.t 12), none⟩,
      ⟨(some 66), .mov (.t 4), none⟩,
      ⟨(some 67), .bin .lss (.t 65) (.t 66), none⟩] [3, 4, 5, 6, 7, 8, 11, 12, 67])
   (.cond (.t 67) (.skip)
   (.exit 6)))
  (b10_9)
def b10_11 : C :=
  .seq (.reg [⟨(some 95), .mov (.t 6), none⟩,
     ⟨(some 96), .mov (.t 11), none⟩,
     ⟨(some 97), .buildSlice 1 [(.list .full 0 [])] 1 [(0, (.t 96))] false, none⟩,
     ⟨(some 98), .append 1 24 (.t 95) (.t 97) 0, none⟩,
     ⟨(some 6), .mov (.t 98), none⟩] [3, 4, 5, 6, 7])
  (.reg [⟨(some 99), .mov (.t 4), none⟩,
    ⟨(some 8), .mov (.t 99), none⟩] [3, 4, 5, 6, 7, 8])
def b10_7 : C :=
  .seq (.reg [⟨(some 11), .tipNew 1, none⟩] [3, 4, 5, 6, 7, 8, 11])
  (.seq (.seq (.reg [⟨(some 12), .mov (.k (.int .i64 0)), none⟩] [3, 4, 5, 6, 7, 8, 11, 12])
   (.block 6 (.loop [3, 4, 5, 6, 7, 8, 11, 12] false (b10_8))))
  (b10_11))
def b10_6 : C :=
  .seq (.seq (.reg [⟨(some 63), .mov (.t 9), none⟩,
      ⟨(some 64), .un .not (.t 63), none⟩] [3, 4, 5, 6, 7, 8, 64])
   (.cond (.t 64) (.exit 3)
   (.skip)))
  (b10_7)
def b10_12 : C :=
  .reg [⟨(some 25), .mov (.t 8), none⟩,
    ⟨(some 26), .bin .add (.t 25) (.k (.int .i64 1)), none⟩,
    ⟨(some 8), .mov (.t 26), none⟩] [3, 4, 5, 6, 7, 8]
def b10_3 : C :=
  .seq (.block 3 (.seq (.reg [⟨(some 27), .mov (.t 5), none⟩,
       ⟨(some 28), .mov (.t 8), none⟩,
       ⟨(some 29), .indexAddr 1 (.t 27) (.t 28), none⟩,
       ⟨(some 30), .load none (.t 29), none⟩,
       ⟨(some 31), .un .not (.t 30), none⟩,
       ⟨(some 9), .mov (.t 31), none⟩] [3, 4, 5, 6, 7, 8, 9])
    (.seq (.seq (.reg [⟨(some 10), .mov (.k (.int .i64 0)), none⟩] [3, 4, 5, 6, 7, 8, 9, 10])
     (.block 4 (.loop [3, 4, 5, 6, 7, 8, 9, 10] false (b10_4))))
    (b10_6))))
  (b10_12)
def b10_2 : C :=
  .seq (.seq (.reg [⟨(some 22), .mov (.t 8), none⟩,
      ⟨(some 23), .mov (.t 4), none⟩,
      ⟨(some 24), .bin .lss (.t 22) (.t 23), none⟩] [3, 4, 5, 6, 7, 8, 24])
   (.cond (.t 24) (.skip)
   (.exit 2)))
  (b10_3)
def b10_1 : C :=
  .block 1 (.seq (.reg [⟨(some 8), .mov (.k (.int .i64 0)), none⟩] [3, 4, 5, 6, 7, 8])
   (.block 2 (.loop [3, 4, 5, 6, 7, 8] false (b10_2))))
def b10_0 : C :=
  .seq (.seq (.reg [⟨(some 20), .mov (.t 7), none⟩,
      ⟨(some 21), .bin .gtr (.t 20) (.k (.int .i64 0)), none⟩] [3, 4, 5, 6, 7, 21])
   (.cond (.t 21) (.skip)
   (.exit 0)))
  (b10_1)
def b10_13 : C :=
  .seq (.reg [⟨(some 100), .mov (.t 6), none⟩,
     ⟨(some 2), .mov (.t 100), none⟩] [2])
  (.ret)
def b10 : C :=
  .seq (.reg [⟨(some 2), .mov (.k (.list .full 1 [])), none⟩] [0])
  (.seq (.reg [⟨(some 13), .mov (.t 0), none⟩,
     ⟨(some 14), .call (.f 12) [(.t 13)] false, none⟩,
     ⟨(some 3), .mov (.t 14), none⟩] [0, 3])
  (.seq (.reg [⟨(some 15), .mov (.t 0), none⟩,
     ⟨(some 16), .len 1 (.t 15), none⟩,
     ⟨(some 4), .mov (.t 16), none⟩] [3, 4])
  (.seq (.reg [⟨(some 17), .mov (.t 4), none⟩,
     ⟨(some 18), .makeSlice 1 1 [(.bool false)] (.t 17) true, none⟩,
     ⟨(some 5), .mov (.t 18), none⟩] [3, 4, 5])
  (.seq (.reg [⟨(some 6), .tipNew 1, none⟩] [3, 4, 5, 6])
  (.seq (.seq (.reg [⟨(some 19), .mov (.t 4), none⟩,
      ⟨(some 7), .mov (.t 19), none⟩] [3, 4, 5, 6, 7])
   (.block 0 (.loop [3, 4, 5, 6, 7] false (b10_0))))
  (b10_13))))))
def f10 : IFn := { body := b10, params := 1, res := [(2, none)], pop := true, keep := false }
theorem ok10 : okFn Try.prog 10 f10 = true := by kernel_rfl

-- resolvent/resolventlaw11.ints
def d11_3 : List (IOper × Nat × Nat) :=
  [(⟨(some 17), .mov (.t 0), none⟩, 0, 0),
    (⟨(some 18), .mov (.t 5), none⟩, 0, 0),
    (⟨(some 19), .indexAddr 1 (.t 17) (.t 18), none⟩, 0, 0),
    (⟨(some 20), .load none (.t 19), none⟩, 0, 1),
    (⟨(some 21), .mov (.t 1), none⟩, 0, 0),
    (⟨(some 22), .mov (.t 5), none⟩, 0, 0),
    (⟨(some 23), .indexAddr 1 (.t 21) (.t 22), none⟩, 0, 0),
    (⟨(some 24), .load none (.t 23), none⟩, 0, 1),
    (⟨(some 25), .bin .neq (.t 20) (.t 24), none⟩, 0, 0)]
theorem q11_3 : fitsD (1 + effs d11_3) d11_3 = true := rfl
def b11_4 : C :=
  .reg [⟨(some 15), .mov (.t 5), none⟩,
    ⟨(some 16), .bin .add (.t 15) (.k (.int .i64 1)), none⟩,
    ⟨(some 5), .mov (.t 16), none⟩] [0, 1, 5]
def b11_2 : C :=
  .seq (.block 1 (.seq (.regD d11_3 [0, 1, 5, 25])
    (.cond (.t 25) (.seq (.reg [⟨(some 4), .mov (.k (.bool false)), none⟩] [4])
     (.ret))
    (.skip))))
  (b11_4)
def b11_1 : C :=
  .seq (.seq (.reg [⟨(some 11), .mov (.t 5), none⟩,
      ⟨(some 12), .mov (.t 0), none⟩,
      ⟨(some 13), .len 1 (.t 12), none⟩,
      ⟨(some 14), .bin .lss (.t 11) (.t 13), none⟩] [0, 1, 5, 14])
   (.cond (.t 14) (.skip)
   (.exit 0)))
  (b11_2)
def b11_5 : C :=
  .seq (.reg [⟨(some 4), .mov (.k (.bool true)), none⟩] [4])
  (.ret)
def b11_0 : C :=
  .seq (.seq (.reg [⟨(some 5), .mov (.k (.int .i64 0)), none⟩] [0, 1, 5])
   (.block 0 (.loop [0, 1, 5] true (b11_1))))
  (b11_5)
def b11 : C :=
  .seq (.reg [⟨(some 4), .mov (.k (.bool false)), none⟩] [0, 1])
  (.seq (.seq (.reg [⟨(some 6), .mov (.t 0), none⟩,
      ⟨(some 7), .len 1 (.t 6), none⟩,
      ⟨(some 8), .mov (.t 1), none⟩,
      ⟨(some 9), .len 1 (.t 8), none⟩,
      ⟨(some 10), .bin .neq (.t 7) (.t 9), none⟩] [0, 1, 10])
   (.cond (.t 10) (.seq (.reg [⟨(some 4), .mov (.k (.bool false)), none⟩] [4])
    (.ret))
   (.skip)))
  (b11_0))
def f11 : IFn := { body := b11, params := 2, res := [(4, none)], pop := true, keep := false }
theorem ok11 : okFn Try.prog 11 f11 = true := by kernel_rfl

-- resolvent/resolventref11.Reach
def b12_4 : C :=
  .reg [⟨(some 33), .mov (.t 6), none⟩,
    ⟨(some 34), .bin .add (.t 33) (.k (.int .i64 1)), none⟩,
    ⟨(some 6), .mov (.t 34), none⟩] [0, 3, 4, 5, 6]
def b12_3 : C :=
  .seq (.block 3 (.seq (.reg [⟨(some 35), .mov (.t 0), none⟩,
       ⟨(some 36), .mov (.t 5), none⟩,
       ⟨(some 37), .indexAddr 1 (.t 35) (.t 36), none⟩,
       ⟨(some 38), .load none (.t 37), none⟩,
       ⟨(some 39), .mov (.t 6), none⟩,
       ⟨(some 40), .indexAddr 1 (.t 38) (.t 39), none⟩,
       ⟨(some 41), .load none (.t 40), none⟩,
       ⟨(some 7), .mov (.t 41), none⟩] [0, 3, 4, 5, 6, 7])
    (.seq (.reg [⟨(some 42), .mov (.t 7), none⟩,
       ⟨(some 43), .bin .geq (.t 42) (.k (.int .i64 0)), none⟩,
       ⟨(some 44), .mov (.t 43), none⟩,
       ⟨(some 45), .mov (.t 7), some (44, true)⟩,
       ⟨(some 46), .mov (.t 3), some (44, true)⟩,
       ⟨(some 47), .bin .lss (.t 45) (.t 46), some (44, true)⟩,
       ⟨(some 48), .pick (.t 44) (.t 47) (.k (.bool false)), none⟩] [0, 3, 4, 5, 6, 7, 48])
    (.cond (.t 48) (.reg [⟨(some 49), .mov (.t 4), none⟩,
       ⟨(some 50), .mov (.t 5), none⟩,
       ⟨(some 51), .indexAddr 1 (.t 49) (.t 50), none⟩,
       ⟨(some 52), .load none (.t 51), none⟩,
       ⟨(some 53), .mov (.t 7), none⟩,
       ⟨(some 54), .indexAddr 1 (.t 52) (.t 53), none⟩,
       ⟨none, .store 1 (.t 54) (.k (.bool true)), none⟩] [0, 3, 4, 5, 6])
    (.skip)))))
  (b12_4)
def b12_2 : C :=
  .seq (.seq (.reg [⟨(some 26), .mov (.t 6), none⟩,
      ⟨(some 27), .mov (.t 0), none⟩,
      ⟨(some 28), .mov (.t 5), none⟩,
      ⟨(some 29), .indexAddr 1 (.t 27) (.t 28), none⟩,
      ⟨(some 30), .load none (.t 29), none⟩,
      ⟨(some 31), .len 1 (.t 30), none⟩,
      ⟨(some 32), .bin .lss (.t 26) (.t 31), none⟩] [0, 3, 4, 5, 6, 32])
   (.cond (.t 32) (.skip)
   (.exit 2)))
  (b12_3)
def b12_5 : C :=
  .reg [⟨(some 18), .mov (.t 5), none⟩,
    ⟨(some 19), .bin .add (.t 18) (.k (.int .i64 1)), none⟩,
    ⟨(some 5), .mov (.t 19), none⟩] [0, 3, 4, 5]
def b12_1 : C :=
  .seq (.block 1 (.seq (.reg [⟨(some 20), .mov (.t 4), none⟩,
       ⟨(some 21), .mov (.t 5), none⟩,
       ⟨(some 22), .indexAddr 1 (.t 20) (.t 21), none⟩,
       ⟨(some 23), .load none (.t 22), none⟩,
       ⟨(some 24), .mov (.t 5), none⟩,
       ⟨(some 25), .indexAddr 1 (.t 23) (.t 24), none⟩,
       ⟨none, .store 1 (.t 25) (.k (.bool true)), none⟩] [0, 3, 4, 5])
    (.seq (.reg [⟨(some 6), .mov (.k (.int .i64 0)), none⟩] [0, 3, 4, 5, 6])
    (.block 2 (.loop [0, 3, 4, 5, 6] false (b12_2))))))
  (b12_5)
def b12_0 : C :=
  .seq (.seq (.reg [⟨(some 15), .mov (.t 5), none⟩,
      ⟨(some 16), .mov (.t 3), none⟩,
      ⟨(some 17), .bin .lss (.t 15) (.t 16), none⟩] [0, 3, 4, 5, 17])
   (.cond (.t 17) (.skip)
   (.exit 0)))
  (b12_1)
def b12_13 : C :=
  .reg [⟨(some 68), .mov (.t 10), none⟩,
    ⟨(some 69), .bin .add (.t 68) (.k (.int .i64 1)), none⟩,
    ⟨(some 10), .mov (.t 69), none⟩] [3, 4, 8, 9, 10]
def b12_12 : C :=
  .seq (.block 9 (.seq (.reg [⟨(some 70), .mov (.t 4), none⟩,
       ⟨(some 71), .mov (.t 9), none⟩,
       ⟨(some 72), .indexAddr 1 (.t 70) (.t 71), none⟩,
       ⟨(some 73), .load none (.t 72), none⟩,
       ⟨(some 74), .mov (.t 8), none⟩,
       ⟨(some 75), .indexAddr 1 (.t 73) (.t 74), none⟩,
       ⟨(some 76), .load none (.t 75), none⟩,
       ⟨(some 77), .mov (.t 76), none⟩,
       ⟨(some 78), .mov (.t 4), some (77, true)⟩,
       ⟨(some 79), .mov (.t 8), some (77, true)⟩,
       ⟨(some 80), .indexAddr 1 (.t 78) (.t 79), some (77, true)⟩,
       ⟨(some 81), .load none (.t 80), some (77, true)⟩,
       ⟨(some 82), .mov (.t 10), some (77, true)⟩,
       ⟨(some 83), .indexAddr 1 (.t 81) (.t 82), some (77, true)⟩,
       ⟨(some 84), .load none (.t 83), some (77, true)⟩,
       ⟨(some 85), .pick (.t 77) (.t 84) (.k (.bool false)), none⟩] [3, 4, 8, 9, 10, 85])
    (.cond (.t 85) (.reg [⟨(some 86), .mov (.t 4), none⟩,
       ⟨(some 87), .mov (.t 9), none⟩,
       ⟨(some 88), .indexAddr 1 (.t 86) (.t 87), none⟩,
       ⟨(some 89), .load none (.t 88), none⟩,
       ⟨(some 90), .mov (.t 10), none⟩,
       ⟨(some 91), .indexAddr 1 (.t 89) (.t 90), none⟩,
       ⟨none, .store 1 (.t 91) (.k (.bool true)), none⟩] [3, 4, 8, 9, 10])
    (.skip))))
  (b12_13)
def b12_11 : C :=
  .seq (.seq (.reg [⟨(some 65), .mov (.t 10), none⟩,
      ⟨(some 66), .mov (.t 3), none⟩,
      ⟨(some 67), .bin .lss (.t 65) (.t 66), none⟩] [3, 4, 8, 9, 10, 67])
   (.cond (.t 67) (.skip)
   (.exit 8)))
  (b12_12)
def b12_14 : C :=
  .reg [⟨(some 63), .mov (.t 9), none⟩,
    ⟨(some 64), .bin .add (.t 63) (.k (.int .i64 1)), none⟩,
    ⟨(some 9), .mov (.t 64), none⟩] [3, 4, 8, 9]
def b12_10 : C :=
  .seq (.block 7 (.seq (.reg [⟨(some 10), .mov (.k (.int .i64 0)), none⟩] [3, 4, 8, 9, 10])
    (.block 8 (.loop [3, 4, 8, 9, 10] false (b12_11)))))
  (b12_14)
def b12_9 : C :=
  .seq (.seq (.reg [⟨(some 60), .mov (.t 9), none⟩,
      ⟨(some 61), .mov (.t 3), none⟩,
      ⟨(some 62), .bin .lss (.t 60) (.t 61), none⟩] [3, 4, 8, 9, 62])
   (.cond (.t 62) (.skip)
   (.exit 6)))
  (b12_10)
def b12_15 : C :=
  .reg [⟨(some 58), .mov (.t 8), none⟩,
    ⟨(some 59), .bin .add (.t 58) (.k (.int .i64 1)), none⟩,
    ⟨(some 8), .mov (.t 59), none⟩] [3, 4, 8]
def b12_8 : C :=
  .seq (.block 5 (.seq (.reg [⟨(some 9), .mov (.k (.int .i64 0)), none⟩] [3, 4, 8, 9])
    (.block 6 (.loop [3, 4, 8, 9] false (b12_9)))))
  (b12_15)
def b12_7 : C :=
  .seq (.seq (.reg [⟨(some 55), .mov (.t 8), none⟩,
      ⟨(some 56), .mov (.t 3), none⟩,
      ⟨(some 57), .bin .lss (.t 55) (.t 56), none⟩] [3, 4, 8, 57])
   (.cond (.t 57) (.skip)
   (.exit 4)))
  (b12_8)
def b12_16 : C :=
  .seq (.reg [⟨(some 92), .mov (.t 4), none⟩,
     ⟨(some 2), .mov (.t 92), none⟩] [2])
  (.ret)
def b12_6 : C :=
  .seq (.seq (.reg [⟨(some 8), .mov (.k (.int .i64 0)), none⟩] [3, 4, 8])
   (.block 4 (.loop [3, 4, 8] false (b12_7))))
  (b12_16)
def b12 : C :=
  .seq (.reg [⟨(some 2), .mov (.k (.list .full 1 [])), none⟩] [0])
  (.seq (.reg [⟨(some 11), .mov (.t 0), none⟩,
     ⟨(some 12), .len 1 (.t 11), none⟩,
     ⟨(some 3), .mov (.t 12), none⟩] [0, 3])
  (.seq (.reg [⟨(some 13), .mov (.t 3), none⟩,
     ⟨(some 14), .call (.f 26) [(.t 13)] false, none⟩,
     ⟨(some 4), .mov (.t 14), none⟩] [0, 3, 4])
  (.seq (.seq (.reg [⟨(some 5), .mov (.k (.int .i64 0)), none⟩] [0, 3, 4, 5])
   (.block 0 (.loop [0, 3, 4, 5] false (b12_0))))
  (b12_6))))
def f12 : IFn := { body := b12, params := 1, res := [(2, none)], pop := false, keep := false }
theorem ok12 : okFn Try.prog 12 f12 = true := by kernel_rfl

-- resolvent/graph.Of
def b21 : C :=
  .seq (.reg [⟨(some 1), .box (.t 0), none⟩,
     ⟨(some 2), .new [(.str ⟨#[]⟩), (.int .i64 0)], none⟩] [1, 2])
  (.seq (.reg [⟨(some 3), .fieldAddr 1 1 (.t 1), none⟩,
     ⟨(some 4), .load none (.t 3), none⟩,
     ⟨(some 5), .fieldAddr 3 1 (.t 1), none⟩,
     ⟨(some 6), .load none (.t 5), none⟩,
     ⟨(some 7), .len 1 (.t 6), none⟩,
     ⟨(some 8), .build [(.str ⟨#[]⟩), (.int .i64 0)] [(0, 1, (.t 4)), (1, 1, (.t 7))], none⟩,
     ⟨none, .store 2 (.t 2) (.t 8), none⟩] [2])
  (.ret))
def f21 : IFn := { body := b21, params := 1, res := [(2, some (some 2))], pop := true, keep := false }
theorem ok21 : okFn Try.prog 21 f21 = true := by kernel_rfl

-- resolvent/graph.reached
def b22_1 : C :=
  .seq (.block 1 (.seq (.reg [⟨(some 14), .mov (.t 12), none⟩,
       ⟨(some 4), .mov (.t 14), none⟩] [1, 3, 4, 11, 12])
    (.seq (.reg [⟨(some 15), .load none (.t 1), none⟩,
       ⟨(some 16), .len 1 (.t 15), none⟩,
       ⟨(some 17), .makeSlice 1 1 [(.bool false)] (.t 16) true, none⟩,
       ⟨(some 5), .new [(.list .full 0 [])], none⟩,
       ⟨none, .store 1 (.t 5) (.t 17), none⟩] [1, 3, 4, 5, 11, 12])
    (.seq (.reg [⟨(some 6), .new [.nilfunc], none⟩] [1, 3, 4, 5, 6, 11, 12])
    (.seq (.reg [⟨(some 18), .makeFunc 49 [] [(.t 1), (.t 5), (.t 6)], none⟩,
       ⟨none, .store 1 (.t 6) (.t 18), none⟩] [1, 3, 4, 5, 6, 11, 12])
    (.seq (.reg [⟨(some 19), .load none (.t 6), none⟩,
       ⟨(some 20), .mov (.t 4), none⟩,
       ⟨(some 21), .call (.t 19) [(.t 20)] false, none⟩] [1, 3, 4, 5, 11, 12])
    (.reg [⟨(some 22), .mov (.t 3), none⟩,
      ⟨(some 23), .mov (.t 4), none⟩,
      ⟨(some 24), .load none (.t 5), none⟩,
      ⟨(some 25), .indexAddr 1 (.t 22) (.t 23), none⟩,
      ⟨none, .store 1 (.t 25) (.t 24), none⟩] [1, 3, 11, 12])))))))
  (.reg [⟨(some 26), .bin .add (.t 12) (.k (.int .i64 1)), none⟩,
    ⟨(some 12), .mov (.t 26), none⟩] [1, 3, 11, 12])
def b22_0 : C :=
  .seq (.reg [⟨(some 13), .bin .lss (.t 12) (.t 11), none⟩] [1, 3, 11, 12, 13])
  (.seq (.cond (.t 13) (.skip)
   (.exit 0))
  (b22_1))
def b22_2 : C :=
  .seq (.reg [⟨(some 27), .mov (.t 3), none⟩,
     ⟨(some 2), .mov (.t 27), none⟩] [2])
  (.ret)
def b22 : C :=
  .seq (.reg [⟨(some 1), .box (.t 0), none⟩,
     ⟨(some 2), .mov (.k (.list .full 1 [])), none⟩] [1])
  (.seq (.reg [⟨(some 7), .load none (.t 1), none⟩,
     ⟨(some 8), .len 1 (.t 7), none⟩,
     ⟨(some 9), .makeSlice 1 24 [(.list .full 0 [])] (.t 8) true, none⟩,
     ⟨(some 3), .mov (.t 9), none⟩] [1, 3])
  (.seq (.seq (.reg [⟨(some 10), .load none (.t 1), none⟩,
      ⟨(some 11), .len 1 (.t 10), none⟩,
      ⟨(some 12), .mov (.k (.int .i64 0)), none⟩] [1, 3, 11, 12])
   (.block 0 (.loop [1, 3, 11, 12] false (b22_0))))
  (b22_2)))
def f22 : IFn := { body := b22, params := 1, res := [(2, none)], pop := false, keep := false }
theorem ok22 : okFn Try.prog 22 f22 = true := by kernel_rfl

-- resolvent/graph.Components$1
def b23_2 : C :=
  .reg [⟨(some 35), .bin .add (.t 12) (.k (.int .i64 1)), none⟩,
    ⟨(some 12), .mov (.t 35), none⟩] [0, 1, 2, 10, 11, 12]
def b23_1 : C :=
  .seq (.block 1 (.seq (.reg [⟨(some 14), .mov (.t 12), none⟩,
       ⟨(some 15), .indexAddr 1 (.t 10) (.t 12), none⟩,
       ⟨(some 16), .load none (.t 15), none⟩,
       ⟨(some 5), .mov (.t 14), none⟩,
       ⟨(some 6), .mov (.t 16), none⟩] [0, 1, 2, 5, 6, 10, 11, 12])
    (.seq (.reg [⟨(some 17), .mov (.t 6), none⟩,
       ⟨(some 18), .mov (.t 17), none⟩,
       ⟨(some 19), .load none (.t 2), some (18, true)⟩,
       ⟨(some 20), .mov (.t 5), some (18, true)⟩,
       ⟨(some 21), .indexAddr 1 (.t 19) (.t 20), some (18, true)⟩,
       ⟨(some 22), .load none (.t 21), some (18, true)⟩,
       ⟨(some 23), .un .not (.t 22), some (18, true)⟩,
       ⟨(some 24), .pick (.t 18) (.t 23) (.k (.bool false)), none⟩,
       ⟨(some 25), .mov (.t 24), none⟩,
       ⟨(some 26), .load none (.t 1), some (25, true)⟩,
       ⟨(some 27), .mov (.t 5), some (25, true)⟩,
       ⟨(some 28), .indexAddr 1 (.t 26) (.t 27), some (25, true)⟩,
       ⟨(some 29), .load none (.t 28), some (25, true)⟩,
       ⟨(some 30), .mov (.t 0), some (25, true)⟩,
       ⟨(some 31), .indexAddr 1 (.t 29) (.t 30), some (25, true)⟩,
       ⟨(some 32), .load none (.t 31), some (25, true)⟩,
       ⟨(some 33), .un .not (.t 32), some (25, true)⟩,
       ⟨(some 34), .pick (.t 25) (.t 33) (.k (.bool false)), none⟩] [0, 1, 2, 10, 11, 12, 34])
    (.cond (.t 34) (.seq (.reg [⟨(some 4), .mov (.k (.bool false)), none⟩] [4])
     (.ret))
    (.skip)))))
  (b23_2)
def b23_0 : C :=
  .seq (.reg [⟨(some 13), .bin .lss (.t 12) (.t 11), none⟩] [0, 1, 2, 10, 11, 12, 13])
  (.seq (.cond (.t 13) (.skip)
   (.exit 0))
  (b23_1))
def b23_3 : C :=
  .seq (.reg [⟨(some 4), .mov (.k (.bool true)), none⟩] [4])
  (.ret)
def b23 : C :=
  .seq (.reg [⟨(some 4), .mov (.k (.bool false)), none⟩] [0, 1, 2])
  (.seq (.seq (.reg [⟨(some 7), .load none (.t 1), none⟩,
      ⟨(some 8), .mov (.t 0), none⟩,
      ⟨(some 9), .indexAddr 1 (.t 7) (.t 8), none⟩,
      ⟨(some 10), .load none (.t 9), none⟩,
      ⟨(some 11), .len 1 (.t 10), none⟩,
      ⟨(some 12), .mov (.k (.int .i64 0)), none⟩] [0, 1, 2, 10, 11, 12])
   (.block 0 (.loop [0, 1, 2, 10, 11, 12] false (b23_0))))
  (b23_3))
def f23 : IFn := { body := b23, params := 3, res := [(4, none)], pop := true, keep := false }
theorem ok23 : okFn Try.prog 23 f23 = true := by kernel_rfl

-- slices.IndexFunc[[]bool,bool]
def b24_2 : C :=
  .reg [⟨(some 18), .bin .add (.t 8) (.k (.int .i64 1)), none⟩,
    ⟨(some 8), .mov (.t 18), none⟩] [0, 1, 7, 8]
def b24_1 : C :=
  .seq (.block 1 (.seq (.reg [⟨(some 10), .mov (.t 8), none⟩,
       ⟨(some 5), .mov (.t 10), none⟩] [0, 1, 5, 7, 8])
    (.seq (.reg [⟨(some 11), .mov (.t 1), none⟩,
       ⟨(some 12), .mov (.t 0), none⟩,
       ⟨(some 13), .mov (.t 5), none⟩,
       ⟨(some 14), .indexAddr 1 (.t 12) (.t 13), none⟩,
       ⟨(some 15), .load none (.t 14), none⟩,
       ⟨(some 16), .call (.t 11) [(.t 15)] false, none⟩] [0, 1, 5, 7, 8, 16])
    (.cond (.t 16) (.seq (.reg [⟨(some 17), .mov (.t 5), none⟩,
        ⟨(some 4), .mov (.t 17), none⟩] [4])
     (.ret))
    (.skip)))))
  (b24_2)
def b24_0 : C :=
  .seq (.reg [⟨(some 9), .bin .lss (.t 8) (.t 7), none⟩] [0, 1, 7, 8, 9])
  (.seq (.cond (.t 9) (.skip)
   (.exit 0))
  (b24_1))
def b24_3 : C :=
  .seq (.reg [⟨(some 4), .mov (.k (.int .i64 (-1))), none⟩] [4])
  (.ret)
def b24 : C :=
  .seq (.reg [⟨(some 4), .mov (.k (.int .i64 0)), none⟩] [0, 1])
  (.seq (.seq (.reg [⟨(some 6), .mov (.t 0), none⟩,
      ⟨(some 7), .len 1 (.t 6), none⟩,
      ⟨(some 8), .mov (.k (.int .i64 0)), none⟩] [0, 1, 7, 8])
   (.block 0 (.loop [0, 1, 7, 8] false (b24_0))))
  (b24_3))
def f24 : IFn := { body := b24, params := 2, res := [(4, none)], pop := true, keep := false }
theorem ok24 : okFn Try.prog 24 f24 = true := by kernel_rfl

-- resolvent/graph.Components$2
def b25 : C :=
  .seq (.reg [⟨(some 2), .mov (.k (.bool false)), none⟩] [0])
  (.seq (.reg [⟨(some 3), .mov (.t 0), none⟩,
     ⟨(some 4), .un .not (.t 3), none⟩,
     ⟨(some 2), .mov (.t 4), none⟩] [2])
  (.ret))
def f25 : IFn := { body := b25, params := 1, res := [(2, none)], pop := true, keep := false }
theorem ok25 : okFn Try.prog 25 f25 = true := by kernel_rfl

-- resolvent/resolventref11.table
def b26_1 : C :=
  .seq (.block 1 (.reg [⟨(some 10), .mov (.t 3), none⟩,
      ⟨(some 11), .mov (.t 0), none⟩,
      ⟨(some 12), .makeSlice 1 1 [(.bool false)] (.t 11) true, none⟩,
      ⟨(some 13), .buildSlice 1 [(.list .full 0 [])] 1 [(0, (.t 12))] false, none⟩,
      ⟨(some 14), .append 1 24 (.t 10) (.t 13) 0, none⟩,
      ⟨(some 3), .mov (.t 14), none⟩] [0, 3, 4]))
  (.reg [⟨(some 8), .mov (.t 4), none⟩,
    ⟨(some 9), .bin .add (.t 8) (.k (.int .i64 1)), none⟩,
    ⟨(some 4), .mov (.t 9), none⟩] [0, 3, 4])
def b26_0 : C :=
  .seq (.seq (.reg [⟨(some 5), .mov (.t 4), none⟩,
      ⟨(some 6), .mov (.t 0), none⟩,
      ⟨(some 7), .bin .lss (.t 5) (.t 6), none⟩] [0, 3, 4, 7])
   (.cond (.t 7) (.skip)
   (.exit 0)))
  (b26_1)
def b26_2 : C :=
  .seq (.reg [⟨(some 15), .mov (.t 3), none⟩,
     ⟨(some 2), .mov (.t 15), none⟩] [2])
  (.ret)
def b26 : C :=
  .seq (.reg [⟨(some 2), .mov (.k (.list .full 1 [])), none⟩] [0])
  (.seq (.reg [⟨(some 3), .tipNew 1, none⟩] [0, 3])
  (.seq (.seq (.reg [⟨(some 4), .mov (.k (.int .i64 0)), none⟩] [0, 3, 4])
   (.block 0 (.loop [0, 3, 4] false (b26_0))))
  (b26_2)))
def f26 : IFn := { body := b26, params := 1, res := [(2, none)], pop := false, keep := false }
theorem ok26 : okFn Try.prog 26 f26 = true := by kernel_rfl

-- resolvent/graph.reached$1
def b49_2 : C :=
  .seq (.block 1 (.seq (.reg [⟨(some 31), .indexAddr 1 (.t 27) (.t 29), none⟩,
       ⟨(some 32), .load none (.t 31), none⟩,
       ⟨(some 6), .mov (.t 32), none⟩] [3, 6, 27, 28, 29])
    (.reg [⟨(some 33), .load none (.t 3), none⟩,
      ⟨(some 34), .mov (.t 6), none⟩,
      ⟨(some 35), .call (.t 33) [(.t 34)] false, none⟩] [3, 27, 28, 29])))
  (.reg [⟨(some 36), .bin .add (.t 29) (.k (.int .i64 1)), none⟩,
    ⟨(some 29), .mov (.t 36), none⟩] [3, 27, 28, 29])
def b49_1 : C :=
  .seq (.reg [⟨(some 30), .bin .lss (.t 29) (.t 28), none⟩] [3, 27, 28, 29, 30])
  (.seq (.cond (.t 30) (.skip)
   (.exit 0))
  (b49_2))
def b49_0 : C :=
  .seq (.reg [⟨(some 21), .load none (.t 2), none⟩,
     ⟨(some 22), .mov (.t 0), none⟩,
     ⟨(some 23), .indexAddr 1 (.t 21) (.t 22), none⟩,
     ⟨none, .store 1 (.t 23) (.k (.bool true)), none⟩] [0, 1, 3])
  (.seq (.reg [⟨(some 24), .load none (.t 1), none⟩,
     ⟨(some 25), .mov (.t 0), none⟩,
     ⟨(some 26), .indexAddr 1 (.t 24) (.t 25), none⟩,
     ⟨(some 27), .load none (.t 26), none⟩,
     ⟨(some 28), .len 1 (.t 27), none⟩,
     ⟨(some 29), .mov (.k (.int .i64 0)), none⟩] [3, 27, 28, 29])
  (.block 0 (.loop [3, 27, 28, 29] false (b49_1))))
def b49 : C :=
  .seq (.seq (.reg [⟨(some 7), .mov (.t 0), none⟩,
      ⟨(some 8), .bin .lss (.t 7) (.k (.int .i64 0)), none⟩,
      ⟨(some 9), .mov (.t 8), none⟩,
      ⟨(some 10), .mov (.t 0), some (9, false)⟩,
      ⟨(some 11), .load none (.t 1), some (9, false)⟩,
      ⟨(some 12), .len 1 (.t 11), some (9, false)⟩,
      ⟨(some 13), .bin .geq (.t 10) (.t 12), some (9, false)⟩,
      ⟨(some 14), .pick (.t 9) (.k (.bool true)) (.t 13), none⟩,
      ⟨(some 15), .mov (.t 14), none⟩,
      ⟨(some 16), .load none (.t 2), some (15, false)⟩,
      ⟨(some 17), .mov (.t 0), some (15, false)⟩,
      ⟨(some 18), .indexAddr 1 (.t 16) (.t 17), some (15, false)⟩,
      ⟨(some 19), .load none (.t 18), some (15, false)⟩,
      ⟨(some 20), .pick (.t 15) (.k (.bool true)) (.t 19), none⟩] [0, 1, 2, 3, 20])
   (.cond (.t 20) (.ret)
   (.skip)))
  (b49_0)
def f49 : IFn := { body := b49, params := 4, res := [], pop := false, keep := false }
theorem ok49 : okFn Try.prog 49 f49 = true := by kernel_rfl

theorem mixed : Try.prog.follows .mixedOrders = true := by kernel_rfl
def T0 : Nat → Option IFn
  | 3 => some f3
  | 4 => some f4
  | 7 => some f7
  | 8 => some f8
  | 9 => some f9
  | 10 => some f10
  | 11 => some f11
  | 12 => some f12
  | 21 => some f21
  | 22 => some f22
  | 23 => some f23
  | 24 => some f24
  | 25 => some f25
  | 26 => some f26
  | 49 => some f49
  | _ => none

theorem hT0 : ∀ f fn, T0 f = some fn → okFn Try.prog f fn = true := by
  intro f fn h
  unfold T0 at h
  split at h
  · cases h; exact ok3
  · cases h; exact ok4
  · cases h; exact ok7
  · cases h; exact ok8
  · cases h; exact ok9
  · cases h; exact ok10
  · cases h; exact ok11
  · cases h; exact ok12
  · cases h; exact ok21
  · cases h; exact ok22
  · cases h; exact ok23
  · cases h; exact ok24
  · cases h; exact ok25
  · cases h; exact ok26
  · cases h; exact ok49
  · cases h
theorem hO0 : ∀ f fn, T0 f = some fn → OrcSound Try.prog (okc0 Try.prog) f fn := by
  intro f fn h
  unfold T0 at h
  split at h
  · cases h; exact orcSound_none fun _ _ => rfl
  · cases h; exact orcSound_none fun _ _ => rfl
  · cases h; exact orcSound_none fun _ _ => rfl
  · cases h; exact orcSound_none fun _ _ => rfl
  · cases h; exact orcSound_none fun _ _ => rfl
  · cases h; exact orcSound_none fun _ _ => rfl
  · cases h; exact orcSound_none fun _ _ => rfl
  · cases h; exact orcSound_none fun _ _ => rfl
  · cases h; exact orcSound_none fun _ _ => rfl
  · cases h; exact orcSound_none fun _ _ => rfl
  · cases h; exact orcSound_none fun _ _ => rfl
  · cases h; exact orcSound_none fun _ _ => rfl
  · cases h; exact orcSound_none fun _ _ => rfl
  · cases h; exact orcSound_none fun _ _ => rfl
  · cases h; exact orcSound_none fun _ _ => rfl
  · cases h
theorem e8 : callN T0 400 8 [] ⟨[], none⟩ = some (.bool true, ⟨[], none⟩) := by kernel_rfl
theorem ok8o : okFn Try.prog 8 { f8 with orc := orc0 (.bool true) } = true := by kernel_rfl
def T : Nat → Option IFn
  | 3 => some f3
  | 4 => some f4
  | 7 => some f7
  | 8 => some { f8 with orc := orc0 (.bool true) }
  | 9 => some f9
  | 10 => some f10
  | 11 => some f11
  | 12 => some f12
  | 21 => some f21
  | 22 => some f22
  | 23 => some f23
  | 24 => some f24
  | 25 => some f25
  | 26 => some f26
  | 49 => some f49
  | _ => none

theorem hT : ∀ f fn, T f = some fn → okFn Try.prog f fn = true := by
  intro f fn h
  unfold T at h
  split at h
  · cases h; exact ok3
  · cases h; exact ok4
  · cases h; exact ok7
  · cases h; exact ok8o
  · cases h; exact ok9
  · cases h; exact ok10
  · cases h; exact ok11
  · cases h; exact ok12
  · cases h; exact ok21
  · cases h; exact ok22
  · cases h; exact ok23
  · cases h; exact ok24
  · cases h; exact ok25
  · cases h; exact ok26
  · cases h; exact ok49
  · cases h
theorem hO : ∀ f fn, T f = some fn → OrcSound Try.prog (okc0 Try.prog) f fn := by
  intro f fn h
  unfold T at h
  split at h
  · cases h; exact orcSound_none fun _ _ => rfl
  · cases h; exact orcSound_none fun _ _ => rfl
  · cases h; exact orcSound_none fun _ _ => rfl
  · cases h; exact orc0_sound mixed hT0 hO0 (by decide) rfl e8
  · cases h; exact orcSound_none fun _ _ => rfl
  · cases h; exact orcSound_none fun _ _ => rfl
  · cases h; exact orcSound_none fun _ _ => rfl
  · cases h; exact orcSound_none fun _ _ => rfl
  · cases h; exact orcSound_none fun _ _ => rfl
  · cases h; exact orcSound_none fun _ _ => rfl
  · cases h; exact orcSound_none fun _ _ => rfl
  · cases h; exact orcSound_none fun _ _ => rfl
  · cases h; exact orcSound_none fun _ _ => rfl
  · cases h; exact orcSound_none fun _ _ => rfl
  · cases h; exact orcSound_none fun _ _ => rfl
  · cases h
end Go.Proofs.G11
