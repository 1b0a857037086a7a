
import Derived.KernelRfl
import Derived.Test.YtdddcofggemnkaaDoorAmIn
import Derived.Test.YtdddcofggemnkaaDoorAmSort
import Derived.Test.YtdddcofggemnkaaDoorAmItoa
import Derived.Test.YtdddcofggemnkaaDoorProg
namespace Go.Proofs.P16
set_option linter.all false
open Go Go.Am

-- resolvent/resolventlaw16.PosHolds
def b3_0 : C :=
  .reg [⟨(some 53), .mov (.t 9), none⟩,
    ⟨(some 54), .bin .add (.t 53) (.k (.int .i64 1)), none⟩,
    ⟨(some 9), .mov (.t 54), none⟩] [1, 5, 8, 9]
def c3_1 (b3_0 : C) : C :=
  .seqT (.block 3 (.seq (.reg [⟨(some 55), .mov (.t 1), none⟩,
       ⟨(some 56), .mov (.t 8), none⟩,
       ⟨(some 57), .indexAddr 1 (.t 55) (.t 56), none⟩,
       ⟨(some 58), .load none (.t 57), none⟩,
       ⟨(some 59), .mov (.t 9), none⟩,
       ⟨(some 60), .indexAddr 1 (.t 58) (.t 59), none⟩,
       ⟨(some 61), .load none (.t 60), none⟩,
       ⟨(some 62), .bin .gtr (.t 61) (.k (.int .i64 5)), none⟩] [1, 5, 8, 9, 62])
    (.cond (.t 62) (.seq (.reg [⟨(some 63), .call (.f 5) [] false, none⟩,
        ⟨(some 4), .mov (.t 63), none⟩] [4])
     (.ret))
    (.skip)))) [1, 5, 8, 9] b3_0
def b3_1 : C := c3_1 b3_0
def c3_2 (b3_1 : C) : C :=
  .seqT (.seq (.reg [⟨(some 46), .mov (.t 9), none⟩,
      ⟨(some 47), .mov (.t 1), none⟩,
      ⟨(some 48), .mov (.t 8), none⟩,
      ⟨(some 49), .indexAddr 1 (.t 47) (.t 48), none⟩,
      ⟨(some 50), .load none (.t 49), none⟩,
      ⟨(some 51), .len 1 (.t 50), none⟩,
      ⟨(some 52), .bin .lss (.t 46) (.t 51), none⟩] [1, 5, 8, 9, 52])
   (.cond (.t 52) (.skip)
   (.exit 2))) [1, 5, 8, 9] b3_1
def b3_2 : C := c3_2 b3_1
def c3_3 (b3_2 : C) : C :=
  .seq (.reg [⟨(some 9), .mov (.k (.int .i64 0)), none⟩] [1, 5, 8, 9])
  (.block 2 (.loop [1, 5, 8, 9] false b3_2))
def b3_3 : C := c3_3 b3_2
def b3_4 : C :=
  .reg [⟨(some 37), .mov (.t 8), none⟩,
    ⟨(some 38), .bin .add (.t 37) (.k (.int .i64 1)), none⟩,
    ⟨(some 8), .mov (.t 38), none⟩] [1, 5, 8]
def c3_5 (b3_3 b3_4 : C) : C :=
  .seqT (.block 1 (.seqT (.seq (.reg [⟨(some 39), .mov (.t 1), none⟩,
        ⟨(some 40), .mov (.t 8), none⟩,
        ⟨(some 41), .indexAddr 1 (.t 39) (.t 40), none⟩,
        ⟨(some 42), .load none (.t 41), none⟩,
        ⟨(some 43), .len 1 (.t 42), none⟩,
        ⟨(some 44), .bin .gtr (.t 43) (.k (.int .i64 6)), none⟩] [1, 5, 8, 44])
     (.cond (.t 44) (.seq (.reg [⟨(some 45), .call (.f 5) [] false, none⟩,
         ⟨(some 4), .mov (.t 45), none⟩] [4])
      (.ret))
     (.skip))) [1, 5, 8] b3_3)) [1, 5, 8] b3_4
def b3_5 : C := c3_5 b3_3 b3_4
def c3_6 (b3_5 : C) : C :=
  .seqT (.seq (.reg [⟨(some 33), .mov (.t 8), none⟩,
      ⟨(some 34), .mov (.t 1), none⟩,
      ⟨(some 35), .len 1 (.t 34), none⟩,
      ⟨(some 36), .bin .lss (.t 33) (.t 35), none⟩] [1, 5, 8, 36])
   (.cond (.t 36) (.skip)
   (.exit 0))) [1, 5, 8] b3_5
def b3_6 : C := c3_6 b3_5
def b3_7 : C :=
  .seq (.block 11 (.reg [⟨(some 111), .mov (.t 16), none⟩,
      ⟨(some 112), .mov (.t 111), none⟩,
      ⟨(some 113), .mov (.t 1), some (112, true)⟩,
      ⟨(some 114), .mov (.t 15), some (112, true)⟩,
      ⟨(some 115), .indexAddr 1 (.t 113) (.t 114), some (112, true)⟩,
      ⟨(some 116), .load none (.t 115), some (112, true)⟩,
      ⟨(some 117), .mov (.t 17), some (112, true)⟩,
      ⟨(some 118), .indexAddr 1 (.t 116) (.t 117), some (112, true)⟩,
      ⟨(some 119), .load none (.t 118), some (112, true)⟩,
      ⟨(some 120), .bin .lss (.t 119) (.k (.int .i64 0)), some (112, true)⟩,
      ⟨(some 121), .mov (.t 120), some (112, true)⟩,
      ⟨(some 122), .mov (.t 13), some (121, false)⟩,
      ⟨(some 123), .mov (.t 1), some (121, false)⟩,
      ⟨(some 124), .mov (.t 15), some (121, false)⟩,
      ⟨(some 125), .indexAddr 1 (.t 123) (.t 124), some (121, false)⟩,
      ⟨(some 126), .load none (.t 125), some (121, false)⟩,
      ⟨(some 127), .mov (.t 17), some (121, false)⟩,
      ⟨(some 128), .indexAddr 1 (.t 126) (.t 127), some (121, false)⟩,
      ⟨(some 129), .load none (.t 128), some (121, false)⟩,
      ⟨(some 130), .call (.f 7) [(.t 122), (.t 129)] false, some (121, false)⟩,
      ⟨(some 131), .pick (.t 121) (.k (.bool true)) (.t 130), some (112, true)⟩,
      ⟨(some 132), .pick (.t 112) (.t 131) (.k (.bool false)), none⟩,
      ⟨(some 16), .mov (.t 132), none⟩] [1, 5, 10, 13, 14, 15, 16, 17]))
  (.reg [⟨(some 109), .mov (.t 17), none⟩,
    ⟨(some 110), .bin .add (.t 109) (.k (.int .i64 1)), none⟩,
    ⟨(some 17), .mov (.t 110), none⟩] [1, 5, 10, 13, 14, 15, 16, 17])
def c3_8 (b3_7 : C) : C :=
  .seqT (.seq (.reg [⟨(some 102), .mov (.t 17), none⟩,
      ⟨(some 103), .mov (.t 1), none⟩,
      ⟨(some 104), .mov (.t 15), none⟩,
      ⟨(some 105), .indexAddr 1 (.t 103) (.t 104), none⟩,
      ⟨(some 106), .load none (.t 105), none⟩,
      ⟨(some 107), .len 1 (.t 106), none⟩,
      ⟨(some 108), .bin .lss (.t 102) (.t 107), none⟩] [1, 5, 10, 13, 14, 15, 16, 17, 108])
   (.cond (.t 108) (.skip)
   (.exit 10))) [1, 5, 10, 13, 14, 15, 16, 17] b3_7
def b3_8 : C := c3_8 b3_7
def b3_9 : C :=
  .seq (.reg [⟨(some 133), .mov (.t 16), none⟩] [1, 5, 10, 13, 14, 15, 133])
  (.cond (.t 133) (.reg [⟨(some 134), .mov (.t 14), none⟩,
     ⟨(some 135), .mov (.t 15), none⟩,
     ⟨(some 136), .buildSlice 1 [(.int .i64 0)] 1 [(0, (.t 135))] false, none⟩,
     ⟨(some 137), .append 1 8 (.t 134) (.t 136) 0, none⟩,
     ⟨(some 14), .mov (.t 137), none⟩] [1, 5, 10, 13, 14, 15])
  (.skip))
def b3_10 : C :=
  .reg [⟨(some 100), .mov (.t 15), none⟩,
    ⟨(some 101), .bin .add (.t 100) (.k (.int .i64 1)), none⟩,
    ⟨(some 15), .mov (.t 101), none⟩] [1, 5, 10, 13, 14, 15]
def c3_11 (b3_8 b3_9 b3_10 : C) : C :=
  .seqT (.block 9 (.seq (.reg [⟨(some 16), .mov (.k (.bool true)), none⟩] [1, 5, 10, 13, 14, 15, 16])
    (.seqT (.seq (.reg [⟨(some 17), .mov (.k (.int .i64 0)), none⟩] [1, 5, 10, 13, 14, 15, 16, 17])
     (.block 10 (.loop [1, 5, 10, 13, 14, 15, 16, 17] false b3_8))) [1, 5, 10, 13, 14, 15, 16] b3_9))) [1, 5, 10, 13, 14, 15] b3_10
def b3_11 : C := c3_11 b3_8 b3_9 b3_10
def c3_12 (b3_11 : C) : C :=
  .seqT (.seq (.reg [⟨(some 96), .mov (.t 15), none⟩,
      ⟨(some 97), .mov (.t 1), none⟩,
      ⟨(some 98), .len 1 (.t 97), none⟩,
      ⟨(some 99), .bin .lss (.t 96) (.t 98), none⟩] [1, 5, 10, 13, 14, 15, 99])
   (.cond (.t 99) (.skip)
   (.exit 8))) [1, 5, 10, 13, 14, 15] b3_11
def b3_12 : C := c3_12 b3_11
def b3_13 : C :=
  .reg [⟨(some 138), .mov (.t 5), none⟩,
    ⟨(some 139), .mov (.t 10), none⟩,
    ⟨(some 140), .indexAddr 2 (.t 138) (.t 139), none⟩,
    ⟨(some 141), .load (some 2) (.t 140), none⟩,
    ⟨(some 142), .mov (.t 14), none⟩,
    ⟨(some 143), .call (.f 8) [(.t 141), (.t 142)] false, none⟩,
    ⟨(some 12), .mov (.t 143), none⟩] [1, 5, 10, 12, 13]
def b3_14 : C :=
  .reg [⟨(some 94), .mov (.t 13), none⟩,
    ⟨(some 95), .bin .add (.t 94) (.k (.int .i64 1)), none⟩,
    ⟨(some 13), .mov (.t 95), none⟩] [1, 5, 10, 12, 13]
def c3_15 (b3_12 b3_13 b3_14 : C) : C :=
  .seqT (.block 7 (.seq (.reg [⟨(some 14), .tipNew 1, none⟩] [1, 5, 10, 13, 14])
    (.seqT (.seq (.reg [⟨(some 15), .mov (.k (.int .i64 0)), none⟩] [1, 5, 10, 13, 14, 15])
     (.block 8 (.loop [1, 5, 10, 13, 14, 15] false b3_12))) [1, 5, 10, 13, 14] b3_13))) [1, 5, 10, 12, 13] b3_14
def b3_15 : C := c3_15 b3_12 b3_13 b3_14
def c3_16 (b3_15 : C) : C :=
  .seqT (.seq (.reg [⟨(some 89), .mov (.t 13), none⟩,
      ⟨(some 90), .bin .lss (.t 89) (.k (.int .i64 64)), none⟩,
      ⟨(some 91), .mov (.t 90), none⟩,
      ⟨(some 92), .mov (.t 12), some (91, true)⟩,
      ⟨(some 93), .pick (.t 91) (.t 92) (.k (.bool false)), none⟩] [1, 5, 10, 12, 13, 93])
   (.cond (.t 93) (.skip)
   (.exit 6))) [1, 5, 10, 13] b3_15
def b3_16 : C := c3_16 b3_15
def d3_17 : List (IOper × Nat × Nat) :=
  [(⟨(some 157), .mov (.t 5), none⟩, 0, 0),
    (⟨(some 158), .mov (.t 10), none⟩, 0, 0),
    (⟨(some 159), .indexAddr 2 (.t 157) (.t 158), none⟩, 0, 0),
    (⟨(some 160), .load (some 2) (.t 159), none⟩, 0, 1),
    (⟨(some 161), .call (.f 10) [(.t 160)] false, none⟩, 0, 0),
    (⟨(some 162), .mov (.t 5), none⟩, 0, 0),
    (⟨(some 163), .mov (.t 18), none⟩, 0, 0),
    (⟨(some 164), .indexAddr 2 (.t 162) (.t 163), none⟩, 0, 0),
    (⟨(some 165), .load (some 2) (.t 164), none⟩, 0, 2),
    (⟨(some 166), .call (.f 10) [(.t 165)] false, none⟩, 0, 0),
    (⟨(some 167), .bin .eql (.t 161) (.t 166), none⟩, 0, 0),
    (⟨(some 168), .mov (.t 5), none⟩, 0, 0),
    (⟨(some 169), .mov (.t 10), none⟩, 0, 0),
    (⟨(some 170), .indexAddr 2 (.t 168) (.t 169), none⟩, 0, 0),
    (⟨(some 171), .load (some 2) (.t 170), none⟩, 0, 3),
    (⟨(some 172), .mov (.t 5), none⟩, 0, 0),
    (⟨(some 173), .mov (.t 18), none⟩, 0, 0),
    (⟨(some 174), .indexAddr 2 (.t 172) (.t 173), none⟩, 0, 0),
    (⟨(some 175), .load (some 2) (.t 174), none⟩, 0, 3),
    (⟨(some 176), .call (.f 11) [(.t 171), (.t 175)] false, none⟩, 0, 0),
    (⟨(some 177), .eqv ⟨[.b], false⟩ true (.t 167) (.t 176), none⟩, 0, 0)]
def b3_18 : C :=
  .reg [⟨(some 155), .mov (.t 18), none⟩,
    ⟨(some 156), .bin .add (.t 155) (.k (.int .i64 1)), none⟩,
    ⟨(some 18), .mov (.t 156), none⟩] [1, 5, 10, 18]
def c3_19 (b3_18 : C) : C :=
  .seqT (.block 13 (.seq (.regD d3_17 [1, 5, 10, 18, 177])
    (.cond (.t 177) (.seq (.reg [⟨(some 4), .mov (.k (.bool false)), none⟩] [4])
     (.ret))
    (.skip)))) [1, 5, 10, 18] b3_18
def b3_19 : C := c3_19 b3_18
def c3_20 (b3_19 : C) : C :=
  .seqT (.seq (.reg [⟨(some 152), .mov (.t 18), none⟩,
      ⟨(some 153), .mov (.t 10), none⟩,
      ⟨(some 154), .bin .lss (.t 152) (.t 153), none⟩] [1, 5, 10, 18, 154])
   (.cond (.t 154) (.skip)
   (.exit 12))) [1, 5, 10, 18] b3_19
def b3_20 : C := c3_20 b3_19
def c3_21 (b3_20 : C) : C :=
  .seq (.reg [⟨(some 18), .mov (.k (.int .i64 0)), none⟩] [1, 5, 10, 18])
  (.block 12 (.loop [1, 5, 10, 18] false b3_20))
def b3_21 : C := c3_21 b3_20
def c3_22 (b3_21 : C) : C :=
  .seqT (.seq (.reg [⟨(some 144), .mov (.t 5), none⟩,
      ⟨(some 145), .mov (.t 10), none⟩,
      ⟨(some 146), .indexAddr 2 (.t 144) (.t 145), none⟩,
      ⟨(some 147), .load (some 2) (.t 146), none⟩,
      ⟨(some 148), .mov (.t 1), none⟩,
      ⟨(some 149), .call (.f 9) [(.t 147), (.t 148)] false, none⟩,
      ⟨(some 150), .mov (.t 12), none⟩,
      ⟨(some 151), .eqv ⟨[.b], false⟩ true (.t 149) (.t 150), none⟩] [1, 5, 10, 151])
   (.cond (.t 151) (.seq (.reg [⟨(some 4), .mov (.k (.bool false)), none⟩] [4])
    (.ret))
   (.skip))) [1, 5, 10] b3_21
def b3_22 : C := c3_22 b3_21
def b3_23 : C :=
  .reg [⟨(some 68), .mov (.t 10), none⟩,
    ⟨(some 69), .bin .add (.t 68) (.k (.int .i64 1)), none⟩,
    ⟨(some 10), .mov (.t 69), none⟩] [1, 5, 10]
def c3_24 (b3_16 b3_22 b3_23 : C) : C :=
  .seqT (.block 5 (.seq (.reg [⟨(some 70), .mov (.t 5), none⟩,
       ⟨(some 71), .mov (.t 10), none⟩,
       ⟨(some 72), .indexAddr 2 (.t 70) (.t 71), none⟩,
       ⟨(some 73), .load (some 2) (.t 72), none⟩,
       ⟨(some 74), .call (.f 6) [(.t 73)] false, none⟩,
       ⟨(some 11), .mov (.t 74), none⟩] [1, 5, 10, 11])
    (.seq (.reg [⟨(some 75), .mov (.t 11), none⟩,
       ⟨(some 76), .len 1 (.t 75), none⟩,
       ⟨(some 77), .bin .eql (.t 76) (.k (.int .i64 0)), none⟩,
       ⟨(some 78), .mov (.t 77), none⟩,
       ⟨(some 79), .mov (.t 11), some (78, false)⟩,
       ⟨(some 80), .mov (.t 11), some (78, false)⟩,
       ⟨(some 81), .len 1 (.t 80), some (78, false)⟩,
       ⟨(some 82), .bin .sub (.t 81) (.k (.int .i64 1)), some (78, false)⟩,
       ⟨(some 83), .indexAddr 1 (.t 79) (.t 82), some (78, false)⟩,
       ⟨(some 84), .load none (.t 83), some (78, false)⟩,
       ⟨(some 85), .mov (.t 1), some (78, false)⟩,
       ⟨(some 86), .len 1 (.t 85), some (78, false)⟩,
       ⟨(some 87), .bin .lss (.t 84) (.t 86), some (78, false)⟩,
       ⟨(some 88), .pick (.t 78) (.k (.bool true)) (.t 87), none⟩,
       ⟨(some 12), .mov (.t 88), none⟩] [1, 5, 10, 12])
    (.seqT (.seq (.reg [⟨(some 13), .mov (.k (.int .i64 0)), none⟩] [1, 5, 10, 12, 13])
     (.block 6 (.loop [1, 5, 10, 12, 13] false b3_16))) [1, 5, 10, 12] b3_22)))) [1, 5, 10] b3_23
def b3_24 : C := c3_24 b3_16 b3_22 b3_23
def c3_25 (b3_24 : C) : C :=
  .seqT (.seq (.reg [⟨(some 64), .mov (.t 10), none⟩,
      ⟨(some 65), .mov (.t 5), none⟩,
      ⟨(some 66), .len 1 (.t 65), none⟩,
      ⟨(some 67), .bin .lss (.t 64) (.t 66), none⟩] [1, 5, 10, 67])
   (.cond (.t 67) (.skip)
   (.exit 4))) [1, 5, 10] b3_24
def b3_25 : C := c3_25 b3_24
def b3_26 : C :=
  .seq (.reg [⟨(some 178), .call (.f 5) [] false, none⟩,
     ⟨(some 4), .mov (.t 178), none⟩] [4])
  (.ret)
def c3_27 (b3_25 b3_26 : C) : C :=
  .seqT (.seq (.reg [⟨(some 10), .mov (.k (.int .i64 0)), none⟩] [1, 5, 10])
   (.block 4 (.loop [1, 5, 10] false b3_25))) [] b3_26
def b3_27 : C := c3_27 b3_25 b3_26
def c3_28 (b3_6 b3_27 : C) : C :=
  .seqT (.seq (.reg [⟨(some 8), .mov (.k (.int .i64 0)), none⟩] [1, 5, 8])
   (.block 0 (.loop [1, 5, 8] false b3_6))) [1, 5] b3_27
def b3_28 : C := c3_28 b3_6 b3_27
def c3 (b3_28 : C) : C :=
  .seq (.reg [⟨(some 4), .mov (.k (.bool false)), none⟩] [0, 1])
  (.seq (.reg [⟨(some 20), .mov (.t 0), none⟩,
     ⟨(some 21), .call (.f 4) [(.t 20)] false, none⟩,
     ⟨(some 19), .mov (.t 21), none⟩,
     ⟨(some 22), .extract (.t 19) 0, none⟩,
     ⟨(some 23), .extract (.t 19) 1, none⟩,
     ⟨(some 24), .extract (.t 19) 2, none⟩,
     ⟨(some 5), .mov (.t 22), none⟩,
     ⟨(some 6), .mov (.t 23), none⟩,
     ⟨(some 7), .mov (.t 24), none⟩] [1, 5, 7])
  (.seqT (.seq (.reg [⟨(some 25), .mov (.t 7), none⟩,
      ⟨(some 26), .un .not (.t 25), none⟩,
      ⟨(some 27), .mov (.t 26), none⟩,
      ⟨(some 28), .mov (.t 1), some (27, false)⟩,
      ⟨(some 29), .len 1 (.t 28), some (27, false)⟩,
      ⟨(some 30), .bin .gtr (.t 29) (.k (.int .i64 8)), some (27, false)⟩,
      ⟨(some 31), .pick (.t 27) (.k (.bool true)) (.t 30), none⟩] [1, 5, 31])
   (.cond (.t 31) (.seq (.reg [⟨(some 32), .call (.f 5) [] false, none⟩,
       ⟨(some 4), .mov (.t 32), none⟩] [4])
    (.ret))
   (.skip))) [1, 5] b3_28))
def b3 : C := c3 b3_28
def f3 : IFn := { body := b3, params := 2, res := [(4, none)], pop := false, keep := false }
theorem ok3 : okFn Tryd.prog 3 f3 = true := by kernel_rfl

-- resolvent/resolventlaw16.makes
def b4_0 : C :=
  .reg [⟨(some 42), .mov (.t 9), none⟩,
    ⟨(some 43), .bin .add (.t 42) (.k (.int .i64 1)), none⟩,
    ⟨(some 9), .mov (.t 43), none⟩] [0, 5, 6, 7, 8, 9]
def c4_1 (b4_0 : C) : C :=
  .seqT (.block 3 (.seq (.reg [⟨(some 44), .fieldAddr 4 1 (.t 8), none⟩,
       ⟨(some 45), .load none (.t 44), none⟩,
       ⟨(some 46), .mov (.t 9), none⟩,
       ⟨(some 47), .indexAddr 1 (.t 45) (.t 46), none⟩,
       ⟨(some 48), .load none (.t 47), none⟩,
       ⟨(some 49), .bin .gtr (.t 48) (.k (.int .i64 5)), none⟩] [0, 5, 6, 7, 8, 9, 49])
    (.cond (.t 49) (.seq (.reg [⟨(some 2), .mov (.k (.list .full 2 [])), none⟩,
        ⟨(some 3), .mov (.k (.list .full 1 [])), none⟩,
        ⟨(some 4), .mov (.k (.bool false)), none⟩] [2, 3, 4])
     (.ret))
    (.skip)))) [0, 5, 6, 7, 8, 9] b4_0
def b4_1 : C := c4_1 b4_0
def c4_2 (b4_1 : C) : C :=
  .seqT (.seq (.reg [⟨(some 37), .mov (.t 9), none⟩,
      ⟨(some 38), .fieldAddr 4 1 (.t 8), none⟩,
      ⟨(some 39), .load none (.t 38), none⟩,
      ⟨(some 40), .len 1 (.t 39), none⟩,
      ⟨(some 41), .bin .lss (.t 37) (.t 40), none⟩] [0, 5, 6, 7, 8, 9, 41])
   (.cond (.t 41) (.skip)
   (.exit 2))) [0, 5, 6, 7, 8, 9] b4_1
def b4_2 : C := c4_2 b4_1
def b4_3 : C :=
  .reg [⟨(some 113), .mov (.t 14), none⟩,
    ⟨(some 114), .bin .add (.t 113) (.k (.int .i64 1)), none⟩,
    ⟨(some 14), .mov (.t 114), none⟩] [0, 5, 6, 7, 8, 12, 13, 14]
def c4_4 (b4_3 : C) : C :=
  .seqT (.block 6 (.seq (.reg [⟨(some 115), .load (some 5) (.t 8), none⟩,
       ⟨(some 116), .mov (.t 6), none⟩,
       ⟨(some 117), .mov (.t 14), none⟩,
       ⟨(some 118), .call (.f 20) [(.t 115), (.t 116), (.t 117)] false, none⟩] [0, 5, 6, 7, 8, 12, 13, 14, 118])
    (.cond (.t 118) (.reg [⟨(some 119), .mov (.t 13), none⟩,
       ⟨(some 120), .mov (.t 14), none⟩,
       ⟨(some 121), .bin .shl (.k (.int .u64 1)) (.t 120), none⟩,
       ⟨(some 122), .bin .or (.t 119) (.t 121), none⟩,
       ⟨(some 13), .mov (.t 122), none⟩] [0, 5, 6, 7, 8, 12, 13, 14])
    (.skip)))) [0, 5, 6, 7, 8, 12, 13, 14] b4_3
def b4_4 : C := c4_4 b4_3
def c4_5 (b4_4 : C) : C :=
  .seqT (.seq (.reg [⟨(some 111), .mov (.t 14), none⟩,
      ⟨(some 112), .bin .lss (.t 111) (.k (.int .i64 64)), none⟩] [0, 5, 6, 7, 8, 12, 13, 14, 112])
   (.cond (.t 112) (.skip)
   (.exit 5))) [0, 5, 6, 7, 8, 12, 13, 14] b4_4
def b4_5 : C := c4_5 b4_4
def b4_6 : C :=
  .seq (.reg [⟨(some 123), .mov (.t 5), none⟩,
     ⟨(some 124), .load (some 2) (.t 12), none⟩,
     ⟨(some 125), .buildSlice 2 [(.list .full 0 []), (.bool false)] 1 [(0, (.t 124))] false, none⟩,
     ⟨(some 126), .append 2 32 (.t 123) (.t 125) 0, none⟩,
     ⟨(some 5), .mov (.t 126), none⟩] [0, 5, 6, 7, 13])
  (.reg [⟨(some 127), .mov (.t 6), none⟩,
    ⟨(some 128), .mov (.t 13), none⟩,
    ⟨(some 129), .buildSlice 1 [(.int .u64 0)] 1 [(0, (.t 128))] false, none⟩,
    ⟨(some 130), .append 1 8 (.t 127) (.t 129) 0, none⟩,
    ⟨(some 6), .mov (.t 130), none⟩] [0, 5, 6, 7])
def c4_7 (b4_5 b4_6 : C) : C :=
  .seq (.reg [⟨(some 13), .mov (.k (.int .u64 0)), none⟩] [0, 5, 6, 7, 8, 12, 13])
  (.seqT (.seq (.reg [⟨(some 14), .mov (.k (.int .i64 0)), none⟩] [0, 5, 6, 7, 8, 12, 13, 14])
   (.block 5 (.loop [0, 5, 6, 7, 8, 12, 13, 14] false b4_5))) [0, 5, 6, 7, 12, 13] b4_6)
def b4_7 : C := c4_7 b4_5 b4_6
def c4_8 (b4_7 : C) : C :=
  .seq (.reg [⟨(some 71), .fieldAddr 1 1 (.t 8), none⟩,
     ⟨(some 72), .load none (.t 71), none⟩,
     ⟨(some 73), .bin .gtr (.t 72) (.k (.int .i64 0)), none⟩,
     ⟨(some 74), .call (.f 13) [(.t 73)] false, none⟩,
     ⟨(some 12), .new [(.list .full 0 []), (.bool false)], none⟩,
     ⟨none, .store 2 (.t 12) (.t 74), none⟩] [0, 5, 6, 7, 8, 10, 11, 12])
  (.seqT (.seq (.reg [⟨(some 75), .fieldAddr 0 1 (.t 8), none⟩,
      ⟨(some 76), .load none (.t 75), none⟩] [0, 5, 6, 7, 8, 10, 11, 12, 76])
   (.block 4 (.seq (.reg [⟨(some 78), .bin .eql (.t 76) (.k (.int .i64 0)), none⟩,
       ⟨(some 77), .mov (.t 78), none⟩] [0, 5, 6, 7, 8, 10, 11, 12, 76, 77])
    (.cond (.t 77) (.reg [⟨(some 79), .fieldAddr 1 1 (.t 8), none⟩,
       ⟨(some 80), .load none (.t 79), none⟩,
       ⟨(some 81), .call (.f 14) [(.t 80)] false, none⟩,
       ⟨none, .store 2 (.t 12) (.t 81), none⟩] [0, 5, 6, 7, 8, 12])
    (.seq (.reg [⟨(some 83), .bin .eql (.t 76) (.k (.int .i64 1)), none⟩,
        ⟨(some 82), .mov (.t 83), none⟩] [0, 5, 6, 7, 8, 10, 11, 12, 76, 82])
     (.cond (.t 82) (.reg [⟨(some 84), .fieldAddr 1 1 (.t 8), none⟩,
        ⟨(some 85), .load none (.t 84), none⟩,
        ⟨(some 86), .fieldAddr 4 1 (.t 8), none⟩,
        ⟨(some 87), .load none (.t 86), none⟩,
        ⟨(some 88), .call (.f 15) [(.t 85), (.t 87)] false, none⟩,
        ⟨none, .store 2 (.t 12) (.t 88), none⟩] [0, 5, 6, 7, 8, 12])
     (.seq (.reg [⟨(some 90), .bin .eql (.t 76) (.k (.int .i64 2)), none⟩,
         ⟨(some 89), .mov (.t 90), none⟩] [0, 5, 6, 7, 8, 10, 11, 12, 76, 89])
      (.cond (.t 89) (.reg [⟨(some 91), .load (some 2) (.t 10), none⟩,
         ⟨(some 92), .load (some 2) (.t 11), none⟩,
         ⟨(some 93), .call (.f 16) [(.t 91), (.t 92)] false, none⟩,
         ⟨none, .store 2 (.t 12) (.t 93), none⟩] [0, 5, 6, 7, 8, 12])
      (.seq (.reg [⟨(some 95), .bin .eql (.t 76) (.k (.int .i64 3)), none⟩,
          ⟨(some 94), .mov (.t 95), none⟩] [0, 5, 6, 7, 8, 10, 11, 12, 76, 94])
       (.cond (.t 94) (.reg [⟨(some 96), .load (some 2) (.t 10), none⟩,
          ⟨(some 97), .load (some 2) (.t 11), none⟩,
          ⟨(some 98), .call (.f 17) [(.t 96), (.t 97)] false, none⟩,
          ⟨none, .store 2 (.t 12) (.t 98), none⟩] [0, 5, 6, 7, 8, 12])
       (.seq (.reg [⟨(some 100), .bin .eql (.t 76) (.k (.int .i64 4)), none⟩,
           ⟨(some 99), .mov (.t 100), none⟩] [0, 5, 6, 7, 8, 10, 12, 76, 99])
        (.cond (.t 99) (.reg [⟨(some 101), .load (some 2) (.t 10), none⟩,
           ⟨(some 102), .fieldAddr 1 1 (.t 8), none⟩,
           ⟨(some 103), .load none (.t 102), none⟩,
           ⟨(some 104), .call (.f 18) [(.t 101), (.t 103)] false, none⟩,
           ⟨none, .store 2 (.t 12) (.t 104), none⟩] [0, 5, 6, 7, 8, 12])
        (.seq (.reg [⟨(some 106), .bin .eql (.t 76) (.k (.int .i64 5)), none⟩,
            ⟨(some 105), .mov (.t 106), none⟩] [0, 5, 6, 7, 8, 10, 12, 105])
         (.cond (.t 105) (.reg [⟨(some 107), .load (some 2) (.t 10), none⟩,
            ⟨(some 108), .fieldAddr 4 1 (.t 8), none⟩,
            ⟨(some 109), .load none (.t 108), none⟩,
            ⟨(some 110), .call (.f 19) [(.t 107), (.t 109)] false, none⟩,
            ⟨none, .store 2 (.t 12) (.t 110), none⟩] [0, 5, 6, 7, 8, 12])
         (.skip))))))))))))))) [0, 5, 6, 7, 8, 12] b4_7)
def b4_8 : C := c4_8 b4_7
def c4_9 (b4_8 : C) : C :=
  .seq (.reg [⟨(some 50), .build [(.list .full 0 []), (.bool false)] [], none⟩,
     ⟨(some 51), .build [(.list .full 0 []), (.bool false)] [], none⟩,
     ⟨(some 10), .new [(.list .full 0 []), (.bool false)], none⟩,
     ⟨(some 11), .new [(.list .full 0 []), (.bool false)], none⟩,
     ⟨none, .store 2 (.t 10) (.t 50), none⟩,
     ⟨none, .store 2 (.t 11) (.t 51), none⟩] [0, 5, 6, 7, 8, 10, 11])
  (.seqT (.seq (.reg [⟨(some 52), .mov (.t 5), none⟩,
      ⟨(some 53), .len 1 (.t 52), none⟩,
      ⟨(some 54), .bin .gtr (.t 53) (.k (.int .i64 0)), none⟩] [0, 5, 6, 7, 8, 10, 11, 54])
   (.cond (.t 54) (.seq (.reg [⟨(some 55), .mov (.t 5), none⟩,
       ⟨(some 56), .fieldAddr 2 1 (.t 8), none⟩,
       ⟨(some 57), .load none (.t 56), none⟩,
       ⟨(some 58), .mov (.t 5), none⟩,
       ⟨(some 59), .len 1 (.t 58), none⟩,
       ⟨(some 60), .call (.f 12) [(.t 57), (.t 59)] false, none⟩,
       ⟨(some 61), .indexAddr 2 (.t 55) (.t 60), none⟩,
       ⟨(some 62), .load (some 2) (.t 61), none⟩,
       ⟨none, .store 2 (.t 10) (.t 62), none⟩] [0, 5, 6, 7, 8, 10, 11])
    (.reg [⟨(some 63), .mov (.t 5), none⟩,
      ⟨(some 64), .fieldAddr 3 1 (.t 8), none⟩,
      ⟨(some 65), .load none (.t 64), none⟩,
      ⟨(some 66), .mov (.t 5), none⟩,
      ⟨(some 67), .len 1 (.t 66), none⟩,
      ⟨(some 68), .call (.f 12) [(.t 65), (.t 67)] false, none⟩,
      ⟨(some 69), .indexAddr 2 (.t 63) (.t 68), none⟩,
      ⟨(some 70), .load (some 2) (.t 69), none⟩,
      ⟨none, .store 2 (.t 11) (.t 70), none⟩] [0, 5, 6, 7, 8, 10, 11]))
   (.skip))) [0, 5, 6, 7, 8, 10, 11] b4_8)
def b4_9 : C := c4_9 b4_8
def c4_10 (b4_2 b4_9 : C) : C :=
  .seqT (.seq (.reg [⟨(some 9), .mov (.k (.int .i64 0)), none⟩] [0, 5, 6, 7, 8, 9])
   (.block 2 (.loop [0, 5, 6, 7, 8, 9] false b4_2))) [0, 5, 6, 7, 8] b4_9
def b4_10 : C := c4_10 b4_2 b4_9
def b4_11 : C :=
  .reg [⟨(some 22), .mov (.t 7), none⟩,
    ⟨(some 23), .bin .add (.t 22) (.k (.int .i64 1)), none⟩,
    ⟨(some 7), .mov (.t 23), none⟩] [0, 5, 6, 7]
def c4_12 (b4_10 b4_11 : C) : C :=
  .seqT (.block 1 (.seq (.reg [⟨(some 24), .mov (.t 0), none⟩,
       ⟨(some 25), .mov (.t 7), none⟩,
       ⟨(some 26), .indexAddr 5 (.t 24) (.t 25), none⟩,
       ⟨(some 27), .load (some 5) (.t 26), none⟩,
       ⟨(some 8), .new [(.int .i64 0), (.int .i64 0), (.int .i64 0), (.int .i64 0), (.list .full 0 [])], none⟩,
       ⟨none, .store 5 (.t 8) (.t 27), none⟩] [0, 5, 6, 7, 8])
    (.seqT (.seq (.reg [⟨(some 28), .fieldAddr 1 1 (.t 8), none⟩,
        ⟨(some 29), .load none (.t 28), none⟩,
        ⟨(some 30), .bin .gtr (.t 29) (.k (.int .i64 5)), none⟩,
        ⟨(some 31), .mov (.t 30), none⟩,
        ⟨(some 32), .fieldAddr 4 1 (.t 8), some (31, false)⟩,
        ⟨(some 33), .load none (.t 32), some (31, false)⟩,
        ⟨(some 34), .len 1 (.t 33), some (31, false)⟩,
        ⟨(some 35), .bin .gtr (.t 34) (.k (.int .i64 8)), some (31, false)⟩,
        ⟨(some 36), .pick (.t 31) (.k (.bool true)) (.t 35), none⟩] [0, 5, 6, 7, 8, 36])
     (.cond (.t 36) (.seq (.reg [⟨(some 2), .mov (.k (.list .full 2 [])), none⟩,
         ⟨(some 3), .mov (.k (.list .full 1 [])), none⟩,
         ⟨(some 4), .mov (.k (.bool false)), none⟩] [2, 3, 4])
      (.ret))
     (.skip))) [0, 5, 6, 7, 8] b4_10))) [0, 5, 6, 7] b4_11
def b4_12 : C := c4_12 b4_10 b4_11
def c4_13 (b4_12 : C) : C :=
  .seqT (.seq (.reg [⟨(some 18), .mov (.t 7), none⟩,
      ⟨(some 19), .mov (.t 0), none⟩,
      ⟨(some 20), .len 1 (.t 19), none⟩,
      ⟨(some 21), .bin .lss (.t 18) (.t 20), none⟩] [0, 5, 6, 7, 21])
   (.cond (.t 21) (.skip)
   (.exit 0))) [0, 5, 6, 7] b4_12
def b4_13 : C := c4_13 b4_12
def b4_14 : C :=
  .seq (.reg [⟨(some 131), .mov (.t 5), none⟩,
     ⟨(some 132), .mov (.t 6), none⟩,
     ⟨(some 2), .mov (.t 131), none⟩,
     ⟨(some 3), .mov (.t 132), none⟩,
     ⟨(some 4), .mov (.k (.bool true)), none⟩] [2, 3, 4])
  (.ret)
def c4_15 (b4_13 b4_14 : C) : C :=
  .seq (.reg [⟨(some 5), .tipNew 2, none⟩] [0, 5])
  (.seq (.reg [⟨(some 6), .tipNew 1, none⟩] [0, 5, 6])
  (.seqT (.seq (.reg [⟨(some 7), .mov (.k (.int .i64 0)), none⟩] [0, 5, 6, 7])
   (.block 0 (.loop [0, 5, 6, 7] false b4_13))) [5, 6] b4_14))
def b4_15 : C := c4_15 b4_13 b4_14
def c4 (b4_15 : C) : C :=
  .seq (.reg [⟨(some 2), .mov (.k (.list .full 2 [])), none⟩,
     ⟨(some 3), .mov (.k (.list .full 1 [])), none⟩,
     ⟨(some 4), .mov (.k (.bool false)), none⟩] [0])
  (.seqT (.seq (.reg [⟨(some 15), .mov (.t 0), none⟩,
      ⟨(some 16), .len 1 (.t 15), none⟩,
      ⟨(some 17), .bin .gtr (.t 16) (.k (.int .i64 20)), none⟩] [0, 17])
   (.cond (.t 17) (.seq (.reg [⟨(some 2), .mov (.k (.list .full 2 [])), none⟩,
       ⟨(some 3), .mov (.k (.list .full 1 [])), none⟩,
       ⟨(some 4), .mov (.k (.bool false)), none⟩] [2, 3, 4])
    (.ret))
   (.skip))) [0] b4_15)
def b4 : C := c4 b4_15
def f4 : IFn := { body := b4, params := 1, res := [(2, none), (3, none), (4, none)], pop := false, keep := false }
theorem ok4 : okFn Tryd.prog 4 f4 = true := by kernel_rfl

-- resolvent/resolventlaw16.wakes
def d5_0 : List (IOper × Nat × Nat) :=
  [(⟨(some 15), .load (some 2) (.t 1), none⟩, 0, 1),
    (⟨(some 16), .call (.f 21) [(.t 15), (.k (.int .i64 1))] false, none⟩, 0, 0),
    (⟨(some 17), .mov (.t 16), none⟩, 0, 0),
    (⟨(some 18), .load (some 2) (.t 1), some (17, true)⟩, 1, 1),
    (⟨(some 19), .call (.f 21) [(.t 18), (.k (.int .i64 2))] false, some (17, true)⟩, 0, 0),
    (⟨(some 20), .pick (.t 17) (.t 19) (.k (.bool false)), none⟩, 0, 0),
    (⟨(some 21), .mov (.t 20), none⟩, 0, 0),
    (⟨(some 22), .load (some 2) (.t 1), some (21, true)⟩, 2, 1),
    (⟨(some 23), .call (.f 21) [(.t 22), (.k (.int .i64 3))] false, some (21, true)⟩, 0, 0),
    (⟨(some 24), .un .not (.t 23), some (21, true)⟩, 0, 0),
    (⟨(some 25), .pick (.t 21) (.t 24) (.k (.bool false)), none⟩, 0, 0),
    (⟨(some 26), .mov (.t 25), none⟩, 0, 0),
    (⟨(some 27), .load (some 2) (.t 2), some (26, true)⟩, 3, 2),
    (⟨(some 28), .call (.f 14) [(.k (.int .i64 1))] false, some (26, true)⟩, 0, 0),
    (⟨(some 29), .call (.f 11) [(.t 27), (.t 28)] false, some (26, true)⟩, 0, 0),
    (⟨(some 30), .pick (.t 26) (.t 29) (.k (.bool false)), none⟩, 0, 0),
    (⟨(some 31), .mov (.t 30), none⟩, 0, 0),
    (⟨(some 32), .load (some 2) (.t 3), some (31, true)⟩, 5, 2),
    (⟨(some 33), .call (.f 13) [(.k (.bool true))] false, some (31, true)⟩, 0, 0),
    (⟨(some 34), .call (.f 11) [(.t 32), (.t 33)] false, some (31, true)⟩, 0, 0),
    (⟨(some 35), .pick (.t 31) (.t 34) (.k (.bool false)), none⟩, 0, 0),
    (⟨(some 36), .mov (.t 35), none⟩, 0, 0),
    (⟨(some 37), .load (some 2) (.t 3), some (36, true)⟩, 7, 1),
    (⟨(some 38), .call (.f 22) [(.t 37)] false, some (36, true)⟩, 0, 0),
    (⟨(some 39), .bin .eql (.t 38) (.k (.int .i64 0)), some (36, true)⟩, 0, 0),
    (⟨(some 40), .pick (.t 36) (.t 39) (.k (.bool false)), none⟩, 0, 0),
    (⟨(some 41), .mov (.t 40), none⟩, 0, 0),
    (⟨(some 42), .call (.f 14) [(.k (.int .i64 3))] false, some (41, true)⟩, 0, 0),
    (⟨(some 43), .buildSlice 1 [(.int .i64 0)] 1 [(0, (.k (.int .i64 3)))] false, some (41, true)⟩, 0, 0),
    (⟨(some 44), .call (.f 8) [(.t 42), (.t 43)] false, some (41, true)⟩, 0, 0),
    (⟨(some 45), .pick (.t 41) (.t 44) (.k (.bool false)), none⟩, 0, 0),
    (⟨(some 46), .mov (.t 45), none⟩, 0, 0),
    (⟨(some 47), .call (.f 14) [(.k (.int .i64 3))] false, some (46, true)⟩, 0, 0),
    (⟨(some 48), .call (.f 8) [(.t 47), (.k (.list .full 0 []))] false, some (46, true)⟩, 0, 0),
    (⟨(some 49), .un .not (.t 48), some (46, true)⟩, 0, 0),
    (⟨(some 50), .pick (.t 46) (.t 49) (.k (.bool false)), none⟩, 0, 0),
    (⟨(some 0), .mov (.t 50), none⟩, 0, 0)]
def b5 : C :=
  .seq (.reg [⟨(some 0), .mov (.k (.bool false)), none⟩] [])
  (.seq (.reg [⟨(some 4), .call (.f 14) [(.k (.int .i64 0))] false, none⟩,
     ⟨(some 5), .buildSlice 1 [(.int .i64 0)] 2 [(0, (.k (.int .i64 1))), (1, (.k (.int .i64 2)))] false, none⟩,
     ⟨(some 6), .call (.f 15) [(.k (.int .i64 0)), (.t 5)] false, none⟩,
     ⟨(some 7), .call (.f 16) [(.t 4), (.t 6)] false, none⟩,
     ⟨(some 1), .new [(.list .full 0 []), (.bool false)], none⟩,
     ⟨none, .store 2 (.t 1) (.t 7), none⟩] [1])
  (.seq (.reg [⟨(some 8), .call (.f 14) [(.k (.int .i64 0))] false, none⟩,
     ⟨(some 9), .call (.f 14) [(.k (.int .i64 1))] false, none⟩,
     ⟨(some 10), .call (.f 16) [(.t 8), (.t 9)] false, none⟩,
     ⟨(some 11), .call (.f 18) [(.t 10), (.k (.int .i64 0))] false, none⟩,
     ⟨(some 2), .new [(.list .full 0 []), (.bool false)], none⟩,
     ⟨none, .store 2 (.t 2) (.t 11), none⟩] [1, 2])
  (.seq (.reg [⟨(some 12), .call (.f 14) [(.k (.int .i64 0))] false, none⟩,
     ⟨(some 13), .call (.f 13) [(.k (.bool true))] false, none⟩,
     ⟨(some 14), .call (.f 17) [(.t 12), (.t 13)] false, none⟩,
     ⟨(some 3), .new [(.list .full 0 []), (.bool false)], none⟩,
     ⟨none, .store 2 (.t 3) (.t 14), none⟩] [1, 2, 3])
  (.seq (.regD d5_0 [0])
  (.ret)))))
def f5 : IFn := { body := b5, params := 0, res := [(0, none)], pop := false, keep := false }
theorem ok5 : okFn Tryd.prog 5 f5 = true := by kernel_rfl

-- (resolvent/pos.Func).Vars
def b6_0 : C :=
  .seq (.block 1 (.seq (.reg [⟨(some 11), .indexAddr 3 (.t 7) (.t 9), none⟩,
       ⟨(some 12), .load (some 3) (.t 11), none⟩,
       ⟨(some 5), .new [(.int .i64 0), (.int .i64 0), (.int .i64 0)], none⟩,
       ⟨none, .store 3 (.t 5) (.t 12), none⟩] [3, 5, 7, 8, 9])
    (.reg [⟨(some 13), .mov (.t 3), none⟩,
      ⟨(some 14), .fieldAddr 0 1 (.t 5), none⟩,
      ⟨(some 15), .load none (.t 14), none⟩,
      ⟨(some 16), .buildSlice 1 [(.int .i64 0)] 1 [(0, (.t 15))] false, none⟩,
      ⟨(some 17), .append 1 8 (.t 13) (.t 16) 1, none⟩,
      ⟨(some 3), .mov (.t 17), none⟩] [3, 7, 8, 9])))
  (.reg [⟨(some 18), .bin .add (.t 9) (.k (.int .i64 1)), none⟩,
    ⟨(some 9), .mov (.t 18), none⟩] [3, 7, 8, 9])
def c6_1 (b6_0 : C) : C :=
  .seq (.reg [⟨(some 10), .bin .lss (.t 9) (.t 8), none⟩] [3, 7, 8, 9, 10])
  (.seqT (.cond (.t 10) (.skip)
   (.exit 0)) [3, 7, 8, 9] b6_0)
def b6_1 : C := c6_1 b6_0
def b6_2 : C :=
  .seq (.reg [⟨(some 19), .mov (.t 3), none⟩,
     ⟨(some 20), .call (.f 23) [(.t 19)] false, none⟩] [3])
  (.seq (.reg [⟨(some 21), .mov (.t 3), none⟩,
     ⟨(some 22), .call (.f 24) [(.t 21)] false, none⟩,
     ⟨(some 2), .mov (.t 22), none⟩] [2])
  (.ret))
def c6 (b6_1 b6_2 : C) : C :=
  .seq (.reg [⟨(some 1), .box (.t 0), none⟩,
     ⟨(some 2), .mov (.k (.list .full 1 [])), none⟩] [1])
  (.seq (.reg [⟨(some 3), .mov (.k (.list .full 1 [])), none⟩] [1, 3])
  (.seqT (.seq (.reg [⟨(some 6), .fieldAddr 0 1 (.t 1), none⟩,
      ⟨(some 7), .load none (.t 6), none⟩,
      ⟨(some 8), .len 1 (.t 7), none⟩,
      ⟨(some 9), .mov (.k (.int .i64 0)), none⟩] [3, 7, 8, 9])
   (.block 0 (.loop [3, 7, 8, 9] false b6_1))) [3] b6_2))
def b6 : C := c6 b6_1 b6_2
def f6 : IFn := { body := b6, params := 1, res := [(2, none)], pop := false, keep := false }
theorem ok6 : okFn Tryd.prog 6 f6 = true := by kernel_rfl

-- resolvent/resolventlaw16.bit
def b7 : C :=
  .seq (.reg [⟨(some 4), .mov (.k (.bool false)), none⟩] [0, 1])
  (.seq (.reg [⟨(some 5), .mov (.t 1), none⟩,
     ⟨(some 6), .bin .geq (.t 5) (.k (.int .i64 0)), none⟩,
     ⟨(some 7), .mov (.t 6), none⟩,
     ⟨(some 8), .mov (.t 1), some (7, true)⟩,
     ⟨(some 9), .bin .lss (.t 8) (.k (.int .i64 6)), some (7, true)⟩,
     ⟨(some 10), .pick (.t 7) (.t 9) (.k (.bool false)), none⟩,
     ⟨(some 11), .mov (.t 10), none⟩,
     ⟨(some 12), .mov (.t 0), some (11, true)⟩,
     ⟨(some 13), .mov (.t 1), some (11, true)⟩,
     ⟨(some 14), .bin .shr (.t 12) (.t 13), some (11, true)⟩,
     ⟨(some 15), .bin .and (.t 14) (.k (.int .i64 1)), some (11, true)⟩,
     ⟨(some 16), .bin .eql (.t 15) (.k (.int .i64 1)), some (11, true)⟩,
     ⟨(some 17), .pick (.t 11) (.t 16) (.k (.bool false)), none⟩,
     ⟨(some 4), .mov (.t 17), none⟩] [4])
  (.ret))
def f7 : IFn := { body := b7, params := 2, res := [(4, none)], pop := false, keep := false }
theorem ok7 : okFn Tryd.prog 7 f7 = true := by kernel_rfl

-- (resolvent/pos.Func).Eval
def b8_0 : C :=
  .block 1 (.seq (.reg [⟨(some 19), .fieldAddr 0 1 (.t 2), none⟩,
      ⟨(some 20), .load none (.t 19), none⟩,
      ⟨(some 21), .mov (.t 5), none⟩,
      ⟨(some 22), .bin .sub (.t 21) (.k (.int .i64 2)), none⟩,
      ⟨(some 23), .indexAddr 3 (.t 20) (.t 22), none⟩,
      ⟨(some 24), .load (some 3) (.t 23), none⟩,
      ⟨(some 6), .new [(.int .i64 0), (.int .i64 0), (.int .i64 0)], none⟩,
      ⟨none, .store 3 (.t 6) (.t 24), none⟩] [1, 2, 6])
   (.seq (.reg [⟨(some 25), .fieldAddr 1 1 (.t 6), none⟩,
      ⟨(some 26), .load none (.t 25), none⟩,
      ⟨(some 5), .mov (.t 26), none⟩] [1, 2, 5, 6])
   (.seq (.reg [⟨(some 27), .mov (.t 1), none⟩,
      ⟨(some 28), .fieldAddr 0 1 (.t 6), none⟩,
      ⟨(some 29), .load none (.t 28), none⟩,
      ⟨(some 30), .call (.f 25) [(.t 27), (.t 29)] false, none⟩] [1, 2, 5, 6, 30])
   (.cond (.t 30) (.reg [⟨(some 31), .fieldAddr 2 1 (.t 6), none⟩,
      ⟨(some 32), .load none (.t 31), none⟩,
      ⟨(some 5), .mov (.t 32), none⟩] [1, 2, 5])
   (.skip)))))
def c8_1 (b8_0 : C) : C :=
  .seqT (.seq (.reg [⟨(some 17), .mov (.t 5), none⟩,
      ⟨(some 18), .bin .geq (.t 17) (.k (.int .i64 2)), none⟩] [1, 2, 5, 18])
   (.cond (.t 18) (.skip)
   (.exit 0))) [1, 2, 5] b8_0
def b8_1 : C := c8_1 b8_0
def b8_2 : C :=
  .seq (.reg [⟨(some 33), .mov (.t 5), none⟩,
     ⟨(some 34), .bin .eql (.t 33) (.k (.int .i64 1)), none⟩,
     ⟨(some 4), .mov (.t 34), none⟩] [4])
  (.ret)
def c8_3 (b8_1 b8_2 : C) : C :=
  .seq (.reg [⟨(some 13), .fieldAddr 0 1 (.t 2), none⟩,
     ⟨(some 14), .load none (.t 13), none⟩,
     ⟨(some 15), .len 1 (.t 14), none⟩,
     ⟨(some 16), .bin .add (.t 15) (.k (.int .i64 1)), none⟩,
     ⟨(some 5), .mov (.t 16), none⟩] [1, 2, 5])
  (.seqT (.block 0 (.loop [1, 2, 5] false b8_1)) [5] b8_2)
def b8_3 : C := c8_3 b8_1 b8_2
def c8 (b8_3 : C) : C :=
  .seq (.reg [⟨(some 2), .box (.t 0), none⟩,
     ⟨(some 4), .mov (.k (.bool false)), none⟩] [1, 2])
  (.seqT (.seq (.reg [⟨(some 7), .fieldAddr 0 1 (.t 2), none⟩,
      ⟨(some 8), .load none (.t 7), none⟩,
      ⟨(some 9), .len 1 (.t 8), none⟩,
      ⟨(some 10), .bin .eql (.t 9) (.k (.int .i64 0)), none⟩] [1, 2, 10])
   (.cond (.t 10) (.seq (.reg [⟨(some 11), .fieldAddr 1 1 (.t 2), none⟩,
       ⟨(some 12), .load none (.t 11), none⟩,
       ⟨(some 4), .mov (.t 12), none⟩] [4])
    (.ret))
   (.skip))) [1, 2] b8_3)
def b8 : C := c8 b8_3
def f8 : IFn := { body := b8, params := 2, res := [(4, none)], pop := false, keep := false }
theorem ok8 : okFn Tryd.prog 8 f8 = true := by kernel_rfl

-- (resolvent/pos.Func).Holds
def b9_0 : C :=
  .seq (.block 3 (.seq (.reg [⟨(some 36), .indexAddr 1 (.t 32) (.t 34), none⟩,
       ⟨(some 37), .load none (.t 36), none⟩,
       ⟨(some 11), .mov (.t 37), none⟩] [1, 2, 5, 6, 8, 9, 11, 17, 18, 19, 32, 33, 34])
    (.reg [⟨(some 38), .mov (.t 5), none⟩,
      ⟨(some 39), .mov (.t 9), none⟩,
      ⟨(some 40), .mov (.t 5), none⟩,
      ⟨(some 41), .mov (.t 11), none⟩,
      ⟨(some 42), .call (.f 14) [(.t 41)] false, none⟩,
      ⟨(some 43), .call (.f 28) [(.t 40), (.t 42)] false, none⟩,
      ⟨(some 44), .call (.f 27) [(.t 38), (.t 39), (.t 43), (.f 29)] false, none⟩,
      ⟨(some 9), .mov (.t 44), none⟩] [1, 2, 5, 6, 8, 9, 17, 18, 19, 32, 33, 34])))
  (.reg [⟨(some 45), .bin .add (.t 34) (.k (.int .i64 1)), none⟩,
    ⟨(some 34), .mov (.t 45), none⟩] [1, 2, 5, 6, 8, 9, 17, 18, 19, 32, 33, 34])
def c9_1 (b9_0 : C) : C :=
  .seq (.reg [⟨(some 35), .bin .lss (.t 34) (.t 33), none⟩] [1, 2, 5, 6, 8, 9, 17, 18, 19, 32, 33, 34, 35])
  (.seqT (.cond (.t 35) (.skip)
   (.exit 2)) [1, 2, 5, 6, 8, 9, 17, 18, 19, 32, 33, 34] b9_0)
def b9_1 : C := c9_1 b9_0
def d9_2 : List (IOper × Nat × Nat) :=
  [(⟨(some 54), .mov (.t 5), none⟩, 0, 0),
    (⟨(some 55), .mov (.t 5), none⟩, 0, 0),
    (⟨(some 56), .mov (.t 9), none⟩, 0, 0),
    (⟨(some 57), .call (.f 30) [(.t 55), (.t 56)] false, none⟩, 0, 0),
    (⟨(some 58), .mov (.t 6), none⟩, 0, 0),
    (⟨(some 59), .fieldAddr 1 1 (.t 8), none⟩, 0, 0),
    (⟨(some 60), .load none (.t 59), none⟩, 0, 2),
    (⟨(some 61), .indexAddr 1 (.t 58) (.t 60), none⟩, 0, 0),
    (⟨(some 62), .load none (.t 61), none⟩, 0, 2),
    (⟨(some 63), .call (.f 27) [(.t 54), (.t 57), (.t 62), (.f 29)] false, none⟩, 0, 0),
    (⟨(some 13), .mov (.t 63), none⟩, 0, 0)]
def b9_3 : C :=
  .seq (.reg [⟨(some 46), .mov (.t 5), none⟩,
     ⟨(some 47), .mov (.t 9), none⟩,
     ⟨(some 48), .mov (.t 6), none⟩,
     ⟨(some 49), .fieldAddr 2 1 (.t 8), none⟩,
     ⟨(some 50), .load none (.t 49), none⟩,
     ⟨(some 51), .indexAddr 1 (.t 48) (.t 50), none⟩,
     ⟨(some 52), .load none (.t 51), none⟩,
     ⟨(some 53), .call (.f 27) [(.t 46), (.t 47), (.t 52), (.f 29)] false, none⟩,
     ⟨(some 12), .mov (.t 53), none⟩] [1, 2, 5, 6, 8, 9, 12, 17, 18, 19])
  (.seq (.regD d9_2 [1, 2, 5, 6, 12, 13, 17, 18, 19])
  (.reg [⟨(some 64), .mov (.t 6), none⟩,
    ⟨(some 65), .mov (.t 5), none⟩,
    ⟨(some 66), .mov (.t 12), none⟩,
    ⟨(some 67), .mov (.t 13), none⟩,
    ⟨(some 68), .call (.f 27) [(.t 65), (.t 66), (.t 67), (.f 31)] false, none⟩,
    ⟨(some 69), .buildSlice 1 [(.int .i64 0)] 1 [(0, (.t 68))] false, none⟩,
    ⟨(some 70), .append 1 8 (.t 64) (.t 69) 0, none⟩,
    ⟨(some 6), .mov (.t 70), none⟩] [1, 2, 5, 6, 17, 18, 19]))
def c9_4 (b9_1 b9_3 : C) : C :=
  .seq (.reg [⟨(some 9), .mov (.k (.int .i64 1)), none⟩] [1, 2, 5, 6, 8, 9, 17, 18, 19])
  (.seqT (.seq (.reg [⟨(some 28), .mov (.t 1), none⟩,
      ⟨(some 29), .fieldAddr 0 1 (.t 8), none⟩,
      ⟨(some 30), .load none (.t 29), none⟩,
      ⟨(some 31), .indexAddr 1 (.t 28) (.t 30), none⟩,
      ⟨(some 32), .load none (.t 31), none⟩,
      ⟨(some 33), .len 1 (.t 32), none⟩,
      ⟨(some 34), .mov (.k (.int .i64 0)), none⟩] [1, 2, 5, 6, 8, 9, 17, 18, 19, 32, 33, 34])
   (.block 2 (.loop [1, 2, 5, 6, 8, 9, 17, 18, 19, 32, 33, 34] false b9_1))) [1, 2, 5, 6, 8, 9, 17, 18, 19] b9_3)
def b9_4 : C := c9_4 b9_1 b9_3
def b9_5 : C :=
  .reg [⟨(some 71), .bin .add (.t 19) (.k (.int .i64 1)), none⟩,
    ⟨(some 19), .mov (.t 71), none⟩] [1, 2, 5, 6, 17, 18, 19]
def c9_6 (b9_4 b9_5 : C) : C :=
  .seqT (.block 1 (.seq (.reg [⟨(some 21), .indexAddr 3 (.t 17) (.t 19), none⟩,
       ⟨(some 22), .load (some 3) (.t 21), none⟩,
       ⟨(some 8), .new [(.int .i64 0), (.int .i64 0), (.int .i64 0)], none⟩,
       ⟨none, .store 3 (.t 8) (.t 22), none⟩] [1, 2, 5, 6, 8, 17, 18, 19])
    (.seqT (.seq (.reg [⟨(some 23), .fieldAddr 0 1 (.t 8), none⟩,
        ⟨(some 24), .load none (.t 23), none⟩,
        ⟨(some 25), .mov (.t 1), none⟩,
        ⟨(some 26), .len 1 (.t 25), none⟩,
        ⟨(some 27), .bin .geq (.t 24) (.t 26), none⟩] [1, 2, 5, 6, 8, 17, 18, 19, 27])
     (.cond (.t 27) (.seq (.reg [⟨(some 4), .mov (.k (.bool false)), none⟩] [4])
      (.ret))
     (.skip))) [1, 2, 5, 6, 8, 17, 18, 19] b9_4))) [1, 2, 5, 6, 17, 18, 19] b9_5
def b9_6 : C := c9_6 b9_4 b9_5
def c9_7 (b9_6 : C) : C :=
  .seq (.reg [⟨(some 20), .bin .lss (.t 19) (.t 18), none⟩] [1, 2, 5, 6, 17, 18, 19, 20])
  (.seqT (.cond (.t 20) (.skip)
   (.exit 0)) [1, 2, 5, 6, 17, 18, 19] b9_6)
def b9_7 : C := c9_7 b9_6
def b9_8 : C :=
  .seq (.reg [⟨(some 78), .mov (.t 6), none⟩,
     ⟨(some 79), .mov (.t 6), none⟩,
     ⟨(some 80), .len 1 (.t 79), none⟩,
     ⟨(some 81), .bin .sub (.t 80) (.k (.int .i64 1)), none⟩,
     ⟨(some 82), .indexAddr 1 (.t 78) (.t 81), none⟩,
     ⟨(some 83), .load none (.t 82), none⟩,
     ⟨(some 84), .bin .eql (.t 83) (.k (.int .i64 1)), none⟩,
     ⟨(some 4), .mov (.t 84), none⟩] [4])
  (.ret)
def c9_9 (b9_8 : C) : C :=
  .seqT (.seq (.reg [⟨(some 72), .fieldAddr 0 1 (.t 2), none⟩,
      ⟨(some 73), .load none (.t 72), none⟩,
      ⟨(some 74), .len 1 (.t 73), none⟩,
      ⟨(some 75), .bin .eql (.t 74) (.k (.int .i64 0)), none⟩] [2, 6, 75])
   (.cond (.t 75) (.seq (.reg [⟨(some 76), .fieldAddr 1 1 (.t 2), none⟩,
       ⟨(some 77), .load none (.t 76), none⟩,
       ⟨(some 4), .mov (.t 77), none⟩] [4])
    (.ret))
   (.skip))) [6] b9_8
def b9_9 : C := c9_9 b9_8
def c9 (b9_7 b9_9 : C) : C :=
  .seq (.reg [⟨(some 2), .box (.t 0), none⟩,
     ⟨(some 4), .mov (.k (.bool false)), none⟩] [1, 2])
  (.seq (.reg [⟨(some 14), .call (.f 26) [] false, none⟩,
     ⟨(some 5), .mov (.t 14), none⟩] [1, 2, 5])
  (.seq (.reg [⟨(some 15), .buildSlice 1 [(.int .i64 0)] 2 [(0, (.k (.int .i64 0))), (1, (.k (.int .i64 1)))] false, none⟩,
     ⟨(some 6), .mov (.t 15), none⟩] [1, 2, 5, 6])
  (.seqT (.seq (.reg [⟨(some 16), .fieldAddr 0 1 (.t 2), none⟩,
      ⟨(some 17), .load none (.t 16), none⟩,
      ⟨(some 18), .len 1 (.t 17), none⟩,
      ⟨(some 19), .mov (.k (.int .i64 0)), none⟩] [1, 2, 5, 6, 17, 18, 19])
   (.block 0 (.loop [1, 2, 5, 6, 17, 18, 19] false b9_7))) [2, 6] b9_9)))
def b9 : C := c9 b9_7 b9_9
def f9 : IFn := { body := b9, params := 2, res := [(4, none)], pop := false, keep := false }
theorem ok9 : okFn Tryd.prog 9 f9 = true := by kernel_rfl

-- (resolvent/pos.Func).Text
def d10_0 : List (IOper × Nat × Nat) :=
  [(⟨(some 20), .mov (.t 3), none⟩, 0, 0),
    (⟨(some 21), .fieldAddr 0 1 (.t 5), none⟩, 0, 0),
    (⟨(some 22), .load none (.t 21), none⟩, 0, 1),
    (⟨(some 23), .call (.f 33) [(.t 22)] false, none⟩, 0, 0),
    (⟨(some 24), .bin .add (.t 23) (.k (.str ⟨#[58]⟩)), none⟩, 0, 0),
    (⟨(some 25), .fieldAddr 1 1 (.t 5), none⟩, 0, 0),
    (⟨(some 26), .load none (.t 25), none⟩, 0, 2),
    (⟨(some 27), .call (.f 33) [(.t 26)] false, none⟩, 0, 0),
    (⟨(some 28), .bin .add (.t 24) (.t 27), none⟩, 0, 0),
    (⟨(some 29), .bin .add (.t 28) (.k (.str ⟨#[58]⟩)), none⟩, 0, 0),
    (⟨(some 30), .fieldAddr 2 1 (.t 5), none⟩, 0, 0),
    (⟨(some 31), .load none (.t 30), none⟩, 0, 3),
    (⟨(some 32), .call (.f 33) [(.t 31)] false, none⟩, 0, 0),
    (⟨(some 33), .bin .add (.t 29) (.t 32), none⟩, 0, 0),
    (⟨(some 34), .bin .add (.t 33) (.k (.str ⟨#[59]⟩)), none⟩, 0, 0),
    (⟨(some 35), .bin .add (.t 20) (.t 34), none⟩, 0, 0),
    (⟨(some 3), .mov (.t 35), none⟩, 0, 0)]
def b10_1 : C :=
  .seq (.block 1 (.seq (.reg [⟨(some 18), .indexAddr 3 (.t 14) (.t 16), none⟩,
       ⟨(some 19), .load (some 3) (.t 18), none⟩,
       ⟨(some 5), .new [(.int .i64 0), (.int .i64 0), (.int .i64 0)], none⟩,
       ⟨none, .store 3 (.t 5) (.t 19), none⟩] [3, 5, 14, 15, 16])
    (.regD d10_0 [3, 14, 15, 16])))
  (.reg [⟨(some 36), .bin .add (.t 16) (.k (.int .i64 1)), none⟩,
    ⟨(some 16), .mov (.t 36), none⟩] [3, 14, 15, 16])
def c10_2 (b10_1 : C) : C :=
  .seq (.reg [⟨(some 17), .bin .lss (.t 16) (.t 15), none⟩] [3, 14, 15, 16, 17])
  (.seqT (.cond (.t 17) (.skip)
   (.exit 0)) [3, 14, 15, 16] b10_1)
def b10_2 : C := c10_2 b10_1
def b10_3 : C :=
  .seq (.reg [⟨(some 37), .mov (.t 3), none⟩,
     ⟨(some 2), .mov (.t 37), none⟩] [2])
  (.ret)
def c10_4 (b10_2 b10_3 : C) : C :=
  .seq (.reg [⟨(some 3), .mov (.k (.str ⟨#[]⟩)), none⟩] [1, 3])
  (.seqT (.seq (.reg [⟨(some 13), .fieldAddr 0 1 (.t 1), none⟩,
      ⟨(some 14), .load none (.t 13), none⟩,
      ⟨(some 15), .len 1 (.t 14), none⟩,
      ⟨(some 16), .mov (.k (.int .i64 0)), none⟩] [3, 14, 15, 16])
   (.block 0 (.loop [3, 14, 15, 16] false b10_2))) [3] b10_3)
def b10_4 : C := c10_4 b10_2 b10_3
def c10 (b10_4 : C) : C :=
  .seq (.reg [⟨(some 1), .box (.t 0), none⟩,
     ⟨(some 2), .mov (.k (.str ⟨#[]⟩)), none⟩] [1])
  (.seqT (.seq (.reg [⟨(some 6), .fieldAddr 0 1 (.t 1), none⟩,
      ⟨(some 7), .load none (.t 6), none⟩,
      ⟨(some 8), .len 1 (.t 7), none⟩,
      ⟨(some 9), .bin .eql (.t 8) (.k (.int .i64 0)), none⟩] [1, 9])
   (.cond (.t 9) (.seq (.reg [⟨(some 10), .fieldAddr 1 1 (.t 1), none⟩,
       ⟨(some 11), .load none (.t 10), none⟩,
       ⟨(some 12), .call (.f 32) [(.t 11)] false, none⟩,
       ⟨(some 2), .mov (.t 12), none⟩] [2])
    (.ret))
   (.skip))) [1] b10_4)
def b10 : C := c10 b10_4
def f10 : IFn := { body := b10, params := 1, res := [(2, none)], pop := false, keep := false }
theorem ok10 : okFn Tryd.prog 10 f10 = true := by kernel_rfl

-- (resolvent/pos.Func).Same
def b11 : C :=
  .seq (.reg [⟨(some 2), .box (.t 0), none⟩,
     ⟨(some 3), .box (.t 1), none⟩,
     ⟨(some 4), .mov (.k (.bool false)), none⟩] [2, 3])
  (.seq (.reg [⟨(some 5), .fieldAddr 1 1 (.t 2), none⟩,
     ⟨(some 6), .load none (.t 5), none⟩,
     ⟨(some 7), .fieldAddr 1 1 (.t 3), none⟩,
     ⟨(some 8), .load none (.t 7), none⟩,
     ⟨(some 9), .eqv ⟨[.b], false⟩ false (.t 6) (.t 8), none⟩,
     ⟨(some 10), .mov (.t 9), none⟩,
     ⟨(some 11), .fieldAddr 0 1 (.t 2), some (10, true)⟩,
     ⟨(some 12), .load none (.t 11), some (10, true)⟩,
     ⟨(some 13), .fieldAddr 0 1 (.t 3), some (10, true)⟩,
     ⟨(some 14), .load none (.t 13), some (10, true)⟩,
     ⟨(some 15), .call (.f 34) [(.t 12), (.t 14)] false, some (10, true)⟩,
     ⟨(some 16), .pick (.t 10) (.t 15) (.k (.bool false)), none⟩,
     ⟨(some 4), .mov (.t 16), none⟩] [4])
  (.ret))
def f11 : IFn := { body := b11, params := 2, res := [(4, none)], pop := false, keep := false }
theorem ok11 : okFn Tryd.prog 11 f11 = true := by kernel_rfl

-- resolvent/resolventlaw16.place
def b12 : C :=
  .seq (.reg [⟨(some 4), .mov (.k (.int .i64 0)), none⟩] [0, 1])
  (.seq (.reg [⟨(some 5), .mov (.t 0), none⟩,
     ⟨(some 6), .mov (.t 1), none⟩,
     ⟨(some 7), .bin .rem (.t 5) (.t 6), none⟩,
     ⟨(some 8), .mov (.t 1), none⟩,
     ⟨(some 9), .bin .add (.t 7) (.t 8), none⟩,
     ⟨(some 10), .mov (.t 1), none⟩,
     ⟨(some 11), .bin .rem (.t 9) (.t 10), none⟩,
     ⟨(some 4), .mov (.t 11), none⟩] [4])
  (.ret))
def f12 : IFn := { body := b12, params := 2, res := [(4, none)], pop := false, keep := false }
theorem ok12 : okFn Tryd.prog 12 f12 = true := by kernel_rfl

-- resolvent/pos.Const
def b13 : C :=
  .seq (.reg [⟨(some 2), .new [(.list .full 0 []), (.bool false)], none⟩] [0, 2])
  (.seq (.reg [⟨(some 3), .mov (.t 0), none⟩,
     ⟨(some 4), .build [(.list .full 0 []), (.bool false)] [(1, 1, (.t 3))], none⟩,
     ⟨none, .store 2 (.t 2) (.t 4), none⟩] [2])
  (.ret))
def f13 : IFn := { body := b13, params := 1, res := [(2, some (some 2))], pop := false, keep := false }
theorem ok13 : okFn Tryd.prog 13 f13 = true := by kernel_rfl

-- resolvent/pos.Var
def b14_0 : C :=
  .seq (.reg [⟨(some 6), .mov (.t 0), none⟩,
     ⟨(some 7), .build [(.int .i64 0), (.int .i64 0), (.int .i64 0)] [(0, 1, (.t 6)), (1, 1, (.k (.int .i64 0))), (2, 1, (.k (.int .i64 1)))], none⟩,
     ⟨(some 8), .buildSlice 3 [(.int .i64 0), (.int .i64 0), (.int .i64 0)] 1 [(0, (.t 7))] false, none⟩,
     ⟨(some 9), .build [(.list .full 0 []), (.bool false)] [(0, 1, (.t 8))], none⟩,
     ⟨none, .store 2 (.t 2) (.t 9), none⟩] [2])
  (.ret)
def c14 (b14_0 : C) : C :=
  .seq (.reg [⟨(some 2), .new [(.list .full 0 []), (.bool false)], none⟩] [0, 2])
  (.seqT (.seq (.reg [⟨(some 3), .mov (.t 0), none⟩,
      ⟨(some 4), .bin .lss (.t 3) (.k (.int .i64 0)), none⟩] [0, 2, 4])
   (.cond (.t 4) (.seq (.reg [⟨(some 5), .call (.f 13) [(.k (.bool true))] false, none⟩,
       ⟨none, .store 2 (.t 2) (.t 5), none⟩] [2])
    (.ret))
   (.skip))) [0, 2] b14_0)
def b14 : C := c14 b14_0
def f14 : IFn := { body := b14, params := 1, res := [(2, some (some 2))], pop := false, keep := false }
theorem ok14 : okFn Tryd.prog 14 f14 = true := by kernel_rfl

-- resolvent/pos.Iff
def b15_0 : C :=
  .reg [⟨(some 33), .bin .add (.t 19) (.k (.int .i64 1)), none⟩,
    ⟨(some 19), .mov (.t 33), none⟩] [0, 1, 4, 5, 6, 17, 18, 19]
def c15_1 (b15_0 : C) : C :=
  .seqT (.block 1 (.seq (.reg [⟨(some 21), .indexAddr 1 (.t 17) (.t 19), none⟩,
       ⟨(some 22), .load none (.t 21), none⟩,
       ⟨(some 8), .mov (.t 22), none⟩] [0, 1, 4, 5, 6, 8, 17, 18, 19])
    (.seq (.reg [⟨(some 23), .mov (.t 8), none⟩,
       ⟨(some 24), .mov (.t 0), none⟩,
       ⟨(some 25), .bin .neq (.t 23) (.t 24), none⟩] [0, 1, 4, 5, 6, 8, 17, 18, 19, 25])
    (.cond (.t 25) (.reg [⟨(some 26), .mov (.t 5), none⟩,
       ⟨(some 27), .mov (.t 6), none⟩,
       ⟨(some 28), .mov (.t 5), none⟩,
       ⟨(some 29), .mov (.t 8), none⟩,
       ⟨(some 30), .call (.f 14) [(.t 29)] false, none⟩,
       ⟨(some 31), .call (.f 28) [(.t 28), (.t 30)] false, none⟩,
       ⟨(some 32), .call (.f 27) [(.t 26), (.t 27), (.t 31), (.f 29)] false, none⟩,
       ⟨(some 6), .mov (.t 32), none⟩] [0, 1, 4, 5, 6, 17, 18, 19])
    (.skip))))) [0, 1, 4, 5, 6, 17, 18, 19] b15_0
def b15_1 : C := c15_1 b15_0
def c15_2 (b15_1 : C) : C :=
  .seq (.reg [⟨(some 20), .bin .lss (.t 19) (.t 18), none⟩] [0, 1, 4, 5, 6, 17, 18, 19, 20])
  (.seqT (.cond (.t 20) (.skip)
   (.exit 0)) [0, 1, 4, 5, 6, 17, 18, 19] b15_1)
def b15_2 : C := c15_2 b15_1
def b15_3 : C :=
  .seq (.reg [⟨(some 56), .mov (.t 5), none⟩,
     ⟨(some 57), .mov (.t 5), none⟩,
     ⟨(some 58), .mov (.t 11), none⟩,
     ⟨(some 59), .mov (.t 5), none⟩,
     ⟨(some 60), .mov (.t 12), none⟩,
     ⟨(some 61), .mov (.t 5), none⟩,
     ⟨(some 62), .mov (.t 6), none⟩,
     ⟨(some 63), .call (.f 30) [(.t 61), (.t 62)] false, none⟩,
     ⟨(some 64), .call (.f 27) [(.t 59), (.t 60), (.t 63), (.f 29)] false, none⟩,
     ⟨(some 65), .call (.f 27) [(.t 57), (.t 58), (.t 64), (.f 31)] false, none⟩,
     ⟨(some 66), .call (.f 36) [(.t 56), (.t 65)] false, none⟩,
     ⟨none, .store 2 (.t 4) (.t 66), none⟩] [4])
  (.ret)
def c15_4 (b15_3 : C) : C :=
  .seq (.reg [⟨(some 34), .mov (.t 5), none⟩,
     ⟨(some 35), .mov (.t 0), none⟩,
     ⟨(some 36), .call (.f 14) [(.t 35)] false, none⟩,
     ⟨(some 37), .call (.f 28) [(.t 34), (.t 36)] false, none⟩,
     ⟨(some 9), .mov (.t 37), none⟩] [0, 1, 4, 5, 6, 9])
  (.seq (.reg [⟨(some 38), .mov (.t 1), none⟩,
     ⟨(some 39), .mov (.t 0), none⟩,
     ⟨(some 40), .call (.f 25) [(.t 38), (.t 39)] false, none⟩,
     ⟨(some 10), .mov (.t 40), none⟩] [0, 4, 5, 6, 9, 10])
  (.seq (.reg [⟨(some 41), .mov (.t 5), none⟩,
     ⟨(some 42), .mov (.t 9), none⟩,
     ⟨(some 43), .mov (.t 6), none⟩,
     ⟨(some 44), .call (.f 27) [(.t 41), (.t 42), (.t 43), (.f 29)] false, none⟩,
     ⟨(some 11), .mov (.t 44), none⟩] [0, 4, 5, 6, 10, 11])
  (.seq (.reg [⟨(some 45), .mov (.t 5), none⟩,
     ⟨(some 46), .mov (.t 0), none⟩,
     ⟨(some 47), .build [(.int .i64 0), (.int .i64 0), (.int .i64 0)] [(0, 1, (.t 46)), (1, 1, (.k (.int .i64 1))), (2, 1, (.k (.int .i64 0)))], none⟩,
     ⟨(some 48), .call (.f 35) [(.t 45), (.t 47)] false, none⟩,
     ⟨(some 12), .mov (.t 48), none⟩] [4, 5, 6, 10, 11, 12])
  (.seqT (.seq (.reg [⟨(some 49), .mov (.t 10), none⟩] [4, 5, 6, 11, 12, 49])
   (.cond (.t 49) (.seq (.reg [⟨(some 50), .mov (.t 5), none⟩,
       ⟨(some 51), .mov (.t 5), none⟩,
       ⟨(some 52), .mov (.t 11), none⟩,
       ⟨(some 53), .mov (.t 12), none⟩,
       ⟨(some 54), .call (.f 27) [(.t 51), (.t 52), (.t 53), (.f 31)] false, none⟩,
       ⟨(some 55), .call (.f 36) [(.t 50), (.t 54)] false, none⟩,
       ⟨none, .store 2 (.t 4) (.t 55), none⟩] [4])
    (.ret))
   (.skip))) [4, 5, 6, 11, 12] b15_3))))
def b15_4 : C := c15_4 b15_3
def c15_5 (b15_2 b15_4 : C) : C :=
  .seq (.reg [⟨(some 16), .call (.f 26) [] false, none⟩,
     ⟨(some 5), .mov (.t 16), none⟩] [0, 1, 4, 5])
  (.seq (.reg [⟨(some 6), .mov (.k (.int .i64 1)), none⟩] [0, 1, 4, 5, 6])
  (.seqT (.seq (.reg [⟨(some 17), .mov (.t 1), none⟩,
      ⟨(some 18), .len 1 (.t 17), none⟩,
      ⟨(some 19), .mov (.k (.int .i64 0)), none⟩] [0, 1, 4, 5, 6, 17, 18, 19])
   (.block 0 (.loop [0, 1, 4, 5, 6, 17, 18, 19] false b15_2))) [0, 1, 4, 5, 6] b15_4))
def b15_5 : C := c15_5 b15_2 b15_4
def c15 (b15_5 : C) : C :=
  .seq (.reg [⟨(some 4), .new [(.list .full 0 []), (.bool false)], none⟩] [0, 1, 4])
  (.seqT (.seq (.reg [⟨(some 13), .mov (.t 0), none⟩,
      ⟨(some 14), .bin .lss (.t 13) (.k (.int .i64 0)), none⟩] [0, 1, 4, 14])
   (.cond (.t 14) (.seq (.reg [⟨(some 15), .call (.f 13) [(.k (.bool true))] false, none⟩,
       ⟨none, .store 2 (.t 4) (.t 15), none⟩] [4])
    (.ret))
   (.skip))) [0, 1, 4] b15_5)
def b15 : C := c15 b15_5
def f15 : IFn := { body := b15, params := 2, res := [(4, some (some 2))], pop := false, keep := false }
theorem ok15 : okFn Tryd.prog 15 f15 = true := by kernel_rfl

-- resolvent/pos.And
def b16 : C :=
  .seq (.reg [⟨(some 2), .box (.t 0), none⟩,
     ⟨(some 3), .box (.t 1), none⟩,
     ⟨(some 4), .new [(.list .full 0 []), (.bool false)], none⟩] [2, 3, 4])
  (.seq (.reg [⟨(some 5), .load (some 2) (.t 2), none⟩,
     ⟨(some 6), .load (some 2) (.t 3), none⟩,
     ⟨(some 7), .buildSlice 2 [(.list .full 0 []), (.bool false)] 1 [(0, (.t 6))] false, none⟩,
     ⟨(some 8), .call (.f 37) [(.f 29), (.t 5), (.t 7)] false, none⟩,
     ⟨none, .store 2 (.t 4) (.t 8), none⟩] [4])
  (.ret))
def f16 : IFn := { body := b16, params := 2, res := [(4, some (some 2))], pop := false, keep := false }
theorem ok16 : okFn Tryd.prog 16 f16 = true := by kernel_rfl

-- resolvent/pos.Or
def b17 : C :=
  .seq (.reg [⟨(some 2), .box (.t 0), none⟩,
     ⟨(some 3), .box (.t 1), none⟩,
     ⟨(some 4), .new [(.list .full 0 []), (.bool false)], none⟩] [2, 3, 4])
  (.seq (.reg [⟨(some 5), .load (some 2) (.t 2), none⟩,
     ⟨(some 6), .load (some 2) (.t 3), none⟩,
     ⟨(some 7), .buildSlice 2 [(.list .full 0 []), (.bool false)] 1 [(0, (.t 6))] false, none⟩,
     ⟨(some 8), .call (.f 37) [(.f 31), (.t 5), (.t 7)] false, none⟩,
     ⟨none, .store 2 (.t 4) (.t 8), none⟩] [4])
  (.ret))
def f17 : IFn := { body := b17, params := 2, res := [(4, some (some 2))], pop := false, keep := false }
theorem ok17 : okFn Tryd.prog 17 f17 = true := by kernel_rfl

-- resolvent/pos.Exists
def b18_0 : C :=
  .seq (.reg [⟨(some 10), .call (.f 26) [] false, none⟩,
     ⟨(some 5), .mov (.t 10), none⟩] [1, 2, 4, 5])
  (.seq (.reg [⟨(some 11), .mov (.t 5), none⟩,
     ⟨(some 12), .load (some 2) (.t 2), none⟩,
     ⟨(some 13), .call (.f 28) [(.t 11), (.t 12)] false, none⟩,
     ⟨(some 6), .mov (.t 13), none⟩] [1, 4, 5, 6])
  (.seq (.reg [⟨(some 14), .mov (.t 5), none⟩,
     ⟨(some 15), .mov (.t 5), none⟩,
     ⟨(some 16), .mov (.t 5), none⟩,
     ⟨(some 17), .mov (.t 6), none⟩,
     ⟨(some 18), .mov (.t 1), none⟩,
     ⟨(some 19), .call (.f 38) [(.t 16), (.t 17), (.t 18), (.k (.bool false))] false, none⟩,
     ⟨(some 20), .mov (.t 5), none⟩,
     ⟨(some 21), .mov (.t 6), none⟩,
     ⟨(some 22), .mov (.t 1), none⟩,
     ⟨(some 23), .call (.f 38) [(.t 20), (.t 21), (.t 22), (.k (.bool true))] false, none⟩,
     ⟨(some 24), .call (.f 27) [(.t 15), (.t 19), (.t 23), (.f 31)] false, none⟩,
     ⟨(some 25), .call (.f 36) [(.t 14), (.t 24)] false, none⟩,
     ⟨none, .store 2 (.t 4) (.t 25), none⟩] [4])
  (.ret)))
def c18 (b18_0 : C) : C :=
  .seq (.reg [⟨(some 2), .box (.t 0), none⟩,
     ⟨(some 4), .new [(.list .full 0 []), (.bool false)], none⟩] [1, 2, 4])
  (.seqT (.seq (.reg [⟨(some 7), .mov (.t 1), none⟩,
      ⟨(some 8), .bin .lss (.t 7) (.k (.int .i64 0)), none⟩] [1, 2, 4, 8])
   (.cond (.t 8) (.seq (.reg [⟨(some 9), .load (some 2) (.t 2), none⟩,
       ⟨none, .store 2 (.t 4) (.t 9), none⟩] [4])
    (.ret))
   (.skip))) [1, 2, 4] b18_0)
def b18 : C := c18 b18_0
def f18 : IFn := { body := b18, params := 2, res := [(4, some (some 2))], pop := false, keep := false }
theorem ok18 : okFn Tryd.prog 18 f18 = true := by kernel_rfl

-- resolvent/pos.Rename
def b19_0 : C :=
  .reg [⟨(some 43), .mov (.t 5), none⟩,
    ⟨(some 44), .mov (.t 1), none⟩,
    ⟨(some 45), .mov (.t 7), none⟩,
    ⟨(some 46), .indexAddr 1 (.t 44) (.t 45), none⟩,
    ⟨(some 47), .load none (.t 46), none⟩,
    ⟨none, .mapUpdate ⟨[.i], false⟩ (.t 43) (.t 47) (.k (.bool true)), none⟩] [1, 2, 4, 5, 17, 18, 19]
def b19_1 : C :=
  .reg [⟨(some 48), .bin .add (.t 19) (.k (.int .i64 1)), none⟩,
    ⟨(some 19), .mov (.t 48), none⟩] [1, 2, 4, 5, 17, 18, 19]
def c19_2 (b19_0 b19_1 : C) : C :=
  .seqT (.block 1 (.seq (.reg [⟨(some 21), .indexAddr 1 (.t 17) (.t 19), none⟩,
       ⟨(some 22), .load none (.t 21), none⟩,
       ⟨(some 7), .mov (.t 22), none⟩] [1, 2, 4, 5, 7, 17, 18, 19])
    (.seqT (.seq (.reg [⟨(some 23), .mov (.t 7), none⟩,
        ⟨(some 24), .mov (.t 1), none⟩,
        ⟨(some 25), .len 1 (.t 24), none⟩,
        ⟨(some 26), .bin .geq (.t 23) (.t 25), none⟩,
        ⟨(some 27), .mov (.t 26), none⟩,
        ⟨(some 28), .mov (.t 1), some (27, false)⟩,
        ⟨(some 29), .mov (.t 7), some (27, false)⟩,
        ⟨(some 30), .indexAddr 1 (.t 28) (.t 29), some (27, false)⟩,
        ⟨(some 31), .load none (.t 30), some (27, false)⟩,
        ⟨(some 32), .bin .lss (.t 31) (.k (.int .i64 0)), some (27, false)⟩,
        ⟨(some 33), .pick (.t 27) (.k (.bool true)) (.t 32), none⟩,
        ⟨(some 34), .mov (.t 33), none⟩,
        ⟨(some 35), .mov (.t 5), some (34, false)⟩,
        ⟨(some 36), .mov (.t 1), some (34, false)⟩,
        ⟨(some 37), .mov (.t 7), some (34, false)⟩,
        ⟨(some 38), .indexAddr 1 (.t 36) (.t 37), some (34, false)⟩,
        ⟨(some 39), .load none (.t 38), some (34, false)⟩,
        ⟨(some 40), .lookup ⟨[.i], false⟩ (.bool false) false (.t 35) (.t 39), some (34, false)⟩,
        ⟨(some 41), .pick (.t 34) (.k (.bool true)) (.t 40), none⟩] [1, 2, 4, 5, 7, 17, 18, 19, 41])
     (.cond (.t 41) (.seq (.reg [⟨(some 42), .call (.f 13) [(.k (.bool true))] false, none⟩,
         ⟨none, .store 2 (.t 4) (.t 42), none⟩] [4])
      (.ret))
     (.skip))) [1, 2, 4, 5, 7, 17, 18, 19] b19_0))) [1, 2, 4, 5, 17, 18, 19] b19_1
def b19_2 : C := c19_2 b19_0 b19_1
def c19_3 (b19_2 : C) : C :=
  .seq (.reg [⟨(some 20), .bin .lss (.t 19) (.t 18), none⟩] [1, 2, 4, 5, 17, 18, 19, 20])
  (.seqT (.cond (.t 20) (.skip)
   (.exit 0)) [1, 2, 4, 5, 17, 18, 19] b19_2)
def b19_3 : C := c19_3 b19_2
def d19_4 : List (IOper × Nat × Nat) :=
  [(⟨(some 74), .mov (.t 8), none⟩, 0, 0),
    (⟨(some 75), .mov (.t 8), none⟩, 0, 0),
    (⟨(some 76), .mov (.t 12), none⟩, 0, 0),
    (⟨(some 77), .call (.f 30) [(.t 75), (.t 76)] false, none⟩, 0, 0),
    (⟨(some 78), .mov (.t 9), none⟩, 0, 0),
    (⟨(some 79), .fieldAddr 1 1 (.t 11), none⟩, 0, 0),
    (⟨(some 80), .load none (.t 79), none⟩, 0, 2),
    (⟨(some 81), .indexAddr 1 (.t 78) (.t 80), none⟩, 0, 0),
    (⟨(some 82), .load none (.t 81), none⟩, 0, 2),
    (⟨(some 83), .call (.f 27) [(.t 74), (.t 77), (.t 82), (.f 29)] false, none⟩, 0, 0),
    (⟨(some 14), .mov (.t 83), none⟩, 0, 0)]
def b19_5 : C :=
  .seq (.block 3 (.seq (.reg [⟨(some 56), .indexAddr 3 (.t 52) (.t 54), none⟩,
       ⟨(some 57), .load (some 3) (.t 56), none⟩,
       ⟨(some 11), .new [(.int .i64 0), (.int .i64 0), (.int .i64 0)], none⟩,
       ⟨none, .store 3 (.t 11) (.t 57), none⟩] [1, 2, 4, 8, 9, 11, 52, 53, 54])
    (.seq (.reg [⟨(some 58), .mov (.t 8), none⟩,
       ⟨(some 59), .mov (.t 1), none⟩,
       ⟨(some 60), .fieldAddr 0 1 (.t 11), none⟩,
       ⟨(some 61), .load none (.t 60), none⟩,
       ⟨(some 62), .indexAddr 1 (.t 59) (.t 61), none⟩,
       ⟨(some 63), .load none (.t 62), none⟩,
       ⟨(some 64), .call (.f 14) [(.t 63)] false, none⟩,
       ⟨(some 65), .call (.f 28) [(.t 58), (.t 64)] false, none⟩,
       ⟨(some 12), .mov (.t 65), none⟩] [1, 2, 4, 8, 9, 11, 12, 52, 53, 54])
    (.seq (.reg [⟨(some 66), .mov (.t 8), none⟩,
       ⟨(some 67), .mov (.t 12), none⟩,
       ⟨(some 68), .mov (.t 9), none⟩,
       ⟨(some 69), .fieldAddr 2 1 (.t 11), none⟩,
       ⟨(some 70), .load none (.t 69), none⟩,
       ⟨(some 71), .indexAddr 1 (.t 68) (.t 70), none⟩,
       ⟨(some 72), .load none (.t 71), none⟩,
       ⟨(some 73), .call (.f 27) [(.t 66), (.t 67), (.t 72), (.f 29)] false, none⟩,
       ⟨(some 13), .mov (.t 73), none⟩] [1, 2, 4, 8, 9, 11, 12, 13, 52, 53, 54])
    (.seq (.regD d19_4 [1, 2, 4, 8, 9, 13, 14, 52, 53, 54])
    (.reg [⟨(some 84), .mov (.t 9), none⟩,
      ⟨(some 85), .mov (.t 8), none⟩,
      ⟨(some 86), .mov (.t 13), none⟩,
      ⟨(some 87), .mov (.t 14), none⟩,
      ⟨(some 88), .call (.f 27) [(.t 85), (.t 86), (.t 87), (.f 31)] false, none⟩,
      ⟨(some 89), .buildSlice 1 [(.int .i64 0)] 1 [(0, (.t 88))] false, none⟩,
      ⟨(some 90), .append 1 8 (.t 84) (.t 89) 0, none⟩,
      ⟨(some 9), .mov (.t 90), none⟩] [1, 2, 4, 8, 9, 52, 53, 54]))))))
  (.reg [⟨(some 91), .bin .add (.t 54) (.k (.int .i64 1)), none⟩,
    ⟨(some 54), .mov (.t 91), none⟩] [1, 2, 4, 8, 9, 52, 53, 54])
def c19_6 (b19_5 : C) : C :=
  .seq (.reg [⟨(some 55), .bin .lss (.t 54) (.t 53), none⟩] [1, 2, 4, 8, 9, 52, 53, 54, 55])
  (.seqT (.cond (.t 55) (.skip)
   (.exit 2)) [1, 2, 4, 8, 9, 52, 53, 54] b19_5)
def b19_6 : C := c19_6 b19_5
def b19_7 : C :=
  .seq (.reg [⟨(some 97), .mov (.t 8), none⟩,
     ⟨(some 98), .mov (.t 9), none⟩,
     ⟨(some 99), .mov (.t 9), none⟩,
     ⟨(some 100), .len 1 (.t 99), none⟩,
     ⟨(some 101), .bin .sub (.t 100) (.k (.int .i64 1)), none⟩,
     ⟨(some 102), .indexAddr 1 (.t 98) (.t 101), none⟩,
     ⟨(some 103), .load none (.t 102), none⟩,
     ⟨(some 104), .call (.f 36) [(.t 97), (.t 103)] false, none⟩,
     ⟨none, .store 2 (.t 4) (.t 104), none⟩] [4])
  (.ret)
def c19_8 (b19_7 : C) : C :=
  .seqT (.seq (.reg [⟨(some 92), .fieldAddr 0 1 (.t 2), none⟩,
      ⟨(some 93), .load none (.t 92), none⟩,
      ⟨(some 94), .len 1 (.t 93), none⟩,
      ⟨(some 95), .bin .eql (.t 94) (.k (.int .i64 0)), none⟩] [2, 4, 8, 9, 95])
   (.cond (.t 95) (.seq (.reg [⟨(some 96), .load (some 2) (.t 2), none⟩,
       ⟨none, .store 2 (.t 4) (.t 96), none⟩] [4])
    (.ret))
   (.skip))) [4, 8, 9] b19_7
def b19_8 : C := c19_8 b19_7
def c19_9 (b19_6 b19_8 : C) : C :=
  .seq (.reg [⟨(some 49), .call (.f 26) [] false, none⟩,
     ⟨(some 8), .mov (.t 49), none⟩] [1, 2, 4, 8])
  (.seq (.reg [⟨(some 50), .buildSlice 1 [(.int .i64 0)] 2 [(0, (.k (.int .i64 0))), (1, (.k (.int .i64 1)))] false, none⟩,
     ⟨(some 9), .mov (.t 50), none⟩] [1, 2, 4, 8, 9])
  (.seqT (.seq (.reg [⟨(some 51), .fieldAddr 0 1 (.t 2), none⟩,
      ⟨(some 52), .load none (.t 51), none⟩,
      ⟨(some 53), .len 1 (.t 52), none⟩,
      ⟨(some 54), .mov (.k (.int .i64 0)), none⟩] [1, 2, 4, 8, 9, 52, 53, 54])
   (.block 2 (.loop [1, 2, 4, 8, 9, 52, 53, 54] false b19_6))) [2, 4, 8, 9] b19_8))
def b19_9 : C := c19_9 b19_6 b19_8
def c19 (b19_3 b19_9 : C) : C :=
  .seq (.reg [⟨(some 2), .box (.t 0), none⟩,
     ⟨(some 4), .new [(.list .full 0 []), (.bool false)], none⟩] [1, 2, 4])
  (.seq (.reg [⟨(some 15), .makeMap, none⟩,
     ⟨(some 5), .mov (.t 15), none⟩] [1, 2, 4, 5])
  (.seqT (.seq (.reg [⟨(some 16), .load (some 2) (.t 2), none⟩,
      ⟨(some 17), .call (.f 6) [(.t 16)] false, none⟩,
      ⟨(some 18), .len 1 (.t 17), none⟩,
      ⟨(some 19), .mov (.k (.int .i64 0)), none⟩] [1, 2, 4, 5, 17, 18, 19])
   (.block 0 (.loop [1, 2, 4, 5, 17, 18, 19] false b19_3))) [1, 2, 4] b19_9))
def b19 : C := c19 b19_3 b19_9
def f19 : IFn := { body := b19, params := 2, res := [(4, some (some 2))], pop := false, keep := false }
theorem ok19 : okFn Tryd.prog 19 f19 = true := by kernel_rfl

-- resolvent/resolventlaw16.holds
def b20_0 : C :=
  .seq (.block 2 (.reg [⟨(some 35), .mov (.t 8), none⟩,
      ⟨(some 36), .mov (.t 35), none⟩,
      ⟨(some 37), .fieldAddr 4 1 (.t 3), some (36, true)⟩,
      ⟨(some 38), .load none (.t 37), some (36, true)⟩,
      ⟨(some 39), .mov (.t 9), some (36, true)⟩,
      ⟨(some 40), .indexAddr 1 (.t 38) (.t 39), some (36, true)⟩,
      ⟨(some 41), .load none (.t 40), some (36, true)⟩,
      ⟨(some 42), .bin .lss (.t 41) (.k (.int .i64 0)), some (36, true)⟩,
      ⟨(some 43), .mov (.t 42), some (36, true)⟩,
      ⟨(some 44), .mov (.t 2), some (43, false)⟩,
      ⟨(some 45), .fieldAddr 4 1 (.t 3), some (43, false)⟩,
      ⟨(some 46), .load none (.t 45), some (43, false)⟩,
      ⟨(some 47), .mov (.t 9), some (43, false)⟩,
      ⟨(some 48), .indexAddr 1 (.t 46) (.t 47), some (43, false)⟩,
      ⟨(some 49), .load none (.t 48), some (43, false)⟩,
      ⟨(some 50), .call (.f 7) [(.t 44), (.t 49)] false, some (43, false)⟩,
      ⟨(some 51), .pick (.t 43) (.k (.bool true)) (.t 50), some (36, true)⟩,
      ⟨(some 52), .pick (.t 36) (.t 51) (.k (.bool false)), none⟩,
      ⟨(some 8), .mov (.t 52), none⟩] [2, 3, 8, 9]))
  (.reg [⟨(some 33), .mov (.t 9), none⟩,
    ⟨(some 34), .bin .add (.t 33) (.k (.int .i64 1)), none⟩,
    ⟨(some 9), .mov (.t 34), none⟩] [2, 3, 8, 9])
def c20_1 (b20_0 : C) : C :=
  .seqT (.seq (.reg [⟨(some 28), .mov (.t 9), none⟩,
      ⟨(some 29), .fieldAddr 4 1 (.t 3), none⟩,
      ⟨(some 30), .load none (.t 29), none⟩,
      ⟨(some 31), .len 1 (.t 30), none⟩,
      ⟨(some 32), .bin .lss (.t 28) (.t 31), none⟩] [2, 3, 8, 9, 32])
   (.cond (.t 32) (.skip)
   (.exit 1))) [2, 3, 8, 9] b20_0
def b20_1 : C := c20_1 b20_0
def b20_2 : C :=
  .seq (.reg [⟨(some 53), .fieldAddr 1 1 (.t 3), none⟩,
     ⟨(some 54), .load none (.t 53), none⟩,
     ⟨(some 55), .bin .lss (.t 54) (.k (.int .i64 0)), none⟩,
     ⟨(some 56), .mov (.t 55), none⟩,
     ⟨(some 57), .mov (.t 2), some (56, false)⟩,
     ⟨(some 58), .fieldAddr 1 1 (.t 3), some (56, false)⟩,
     ⟨(some 59), .load none (.t 58), some (56, false)⟩,
     ⟨(some 60), .call (.f 7) [(.t 57), (.t 59)] false, some (56, false)⟩,
     ⟨(some 61), .mov (.t 8), some (56, false)⟩,
     ⟨(some 62), .eqv ⟨[.b], false⟩ false (.t 60) (.t 61), some (56, false)⟩,
     ⟨(some 63), .pick (.t 56) (.k (.bool true)) (.t 62), none⟩,
     ⟨(some 6), .mov (.t 63), none⟩] [6])
  (.ret)
def d20_3 : List (IOper × Nat × Nat) :=
  [(⟨(some 112), .indexAddrA 2 1 (.t 7) (.k (.int .i64 0)), none⟩, 0, 0),
    (⟨(some 113), .load none (.t 112), none⟩, 0, 1),
    (⟨(some 114), .mov (.t 2), none⟩, 0, 0),
    (⟨(some 115), .fieldAddr 1 1 (.t 3), none⟩, 0, 0),
    (⟨(some 116), .load none (.t 115), none⟩, 0, 1),
    (⟨(some 117), .bin .shl (.k (.int .i64 1)) (.t 116), none⟩, 0, 0),
    (⟨(some 118), .bin .or (.t 114) (.t 117), none⟩, 0, 0),
    (⟨(some 119), .bin .shr (.t 113) (.t 118), none⟩, 0, 0),
    (⟨(some 120), .bin .and (.t 119) (.k (.int .u64 1)), none⟩, 0, 0),
    (⟨(some 121), .bin .eql (.t 120) (.k (.int .u64 1)), none⟩, 0, 0),
    (⟨(some 122), .mov (.t 121), none⟩, 0, 0),
    (⟨(some 123), .indexAddrA 2 1 (.t 7) (.k (.int .i64 0)), some (122, false)⟩, 0, 0),
    (⟨(some 124), .load none (.t 123), some (122, false)⟩, 0, 1),
    (⟨(some 125), .mov (.t 2), some (122, false)⟩, 0, 0),
    (⟨(some 126), .fieldAddr 1 1 (.t 3), some (122, false)⟩, 0, 0),
    (⟨(some 127), .load none (.t 126), some (122, false)⟩, 0, 1),
    (⟨(some 128), .bin .shl (.k (.int .i64 1)) (.t 127), some (122, false)⟩, 0, 0),
    (⟨(some 129), .bin .andNot (.t 125) (.t 128), some (122, false)⟩, 0, 0),
    (⟨(some 130), .bin .shr (.t 124) (.t 129), some (122, false)⟩, 0, 0),
    (⟨(some 131), .bin .and (.t 130) (.k (.int .u64 1)), some (122, false)⟩, 0, 0),
    (⟨(some 132), .bin .eql (.t 131) (.k (.int .u64 1)), some (122, false)⟩, 0, 0),
    (⟨(some 133), .pick (.t 122) (.k (.bool true)) (.t 132), none⟩, 0, 0),
    (⟨(some 6), .mov (.t 133), none⟩, 0, 0)]
def b20_4 : C :=
  .seq (.regD d20_3 [6])
  (.ret)
def b20_5 : C :=
  .seq (.reg [⟨(some 141), .fieldAddr 1 1 (.t 3), none⟩,
     ⟨(some 142), .load none (.t 141), none⟩,
     ⟨(some 143), .bin .gtr (.t 142) (.k (.int .i64 0)), none⟩,
     ⟨(some 6), .mov (.t 143), none⟩] [6])
  (.ret)
def c20 (b20_1 b20_2 b20_4 b20_5 : C) : C :=
  .seq (.reg [⟨(some 3), .box (.t 0), none⟩,
     ⟨(some 6), .mov (.k (.bool false)), none⟩] [1, 2, 3])
  (.seq (.reg [⟨(some 10), .load (some 5) (.t 3), none⟩,
     ⟨(some 11), .mov (.t 1), none⟩,
     ⟨(some 12), .call (.f 39) [(.t 10), (.t 11)] false, none⟩,
     ⟨(some 7), .new [(.int .u64 0), (.int .u64 0)], none⟩,
     ⟨none, .store 2 (.t 7) (.t 12), none⟩] [2, 3, 7])
  (.seqT (.seq (.reg [⟨(some 13), .fieldAddr 0 1 (.t 3), none⟩,
      ⟨(some 14), .load none (.t 13), none⟩] [2, 3, 7, 14])
   (.block 0 (.seq (.reg [⟨(some 16), .bin .eql (.t 14) (.k (.int .i64 0)), none⟩,
       ⟨(some 15), .mov (.t 16), none⟩] [2, 3, 7, 14, 15])
    (.cond (.t 15) (.seq (.reg [⟨(some 17), .fieldAddr 1 1 (.t 3), none⟩,
        ⟨(some 18), .load none (.t 17), none⟩,
        ⟨(some 19), .bin .lss (.t 18) (.k (.int .i64 0)), none⟩,
        ⟨(some 20), .mov (.t 19), none⟩,
        ⟨(some 21), .mov (.t 2), some (20, false)⟩,
        ⟨(some 22), .fieldAddr 1 1 (.t 3), some (20, false)⟩,
        ⟨(some 23), .load none (.t 22), some (20, false)⟩,
        ⟨(some 24), .call (.f 7) [(.t 21), (.t 23)] false, some (20, false)⟩,
        ⟨(some 25), .pick (.t 20) (.k (.bool true)) (.t 24), none⟩,
        ⟨(some 6), .mov (.t 25), none⟩] [6])
     (.ret))
    (.seq (.reg [⟨(some 27), .bin .eql (.t 14) (.k (.int .i64 1)), none⟩,
        ⟨(some 26), .mov (.t 27), none⟩] [2, 3, 7, 14, 26])
     (.cond (.t 26) (.seq (.reg [⟨(some 8), .mov (.k (.bool true)), none⟩] [2, 3, 8])
      (.seqT (.seq (.reg [⟨(some 9), .mov (.k (.int .i64 0)), none⟩] [2, 3, 8, 9])
       (.block 1 (.loop [2, 3, 8, 9] false b20_1))) [2, 3, 8] b20_2))
     (.seq (.reg [⟨(some 65), .bin .eql (.t 14) (.k (.int .i64 2)), none⟩,
         ⟨(some 64), .mov (.t 65), none⟩] [2, 3, 7, 14, 64])
      (.cond (.t 64) (.seq (.reg [⟨(some 66), .indexAddrA 2 1 (.t 7) (.k (.int .i64 0)), none⟩,
          ⟨(some 67), .load none (.t 66), none⟩,
          ⟨(some 68), .mov (.t 2), none⟩,
          ⟨(some 69), .bin .shr (.t 67) (.t 68), none⟩,
          ⟨(some 70), .bin .and (.t 69) (.k (.int .u64 1)), none⟩,
          ⟨(some 71), .bin .eql (.t 70) (.k (.int .u64 1)), none⟩,
          ⟨(some 72), .mov (.t 71), none⟩,
          ⟨(some 73), .indexAddrA 2 1 (.t 7) (.k (.int .i64 1)), some (72, true)⟩,
          ⟨(some 74), .load none (.t 73), some (72, true)⟩,
          ⟨(some 75), .mov (.t 2), some (72, true)⟩,
          ⟨(some 76), .bin .shr (.t 74) (.t 75), some (72, true)⟩,
          ⟨(some 77), .bin .and (.t 76) (.k (.int .u64 1)), some (72, true)⟩,
          ⟨(some 78), .bin .eql (.t 77) (.k (.int .u64 1)), some (72, true)⟩,
          ⟨(some 79), .pick (.t 72) (.t 78) (.k (.bool false)), none⟩,
          ⟨(some 6), .mov (.t 79), none⟩] [6])
       (.ret))
      (.seq (.reg [⟨(some 81), .bin .eql (.t 14) (.k (.int .i64 3)), none⟩,
          ⟨(some 80), .mov (.t 81), none⟩] [2, 3, 7, 14, 80])
       (.cond (.t 80) (.seq (.reg [⟨(some 82), .indexAddrA 2 1 (.t 7) (.k (.int .i64 0)), none⟩,
           ⟨(some 83), .load none (.t 82), none⟩,
           ⟨(some 84), .mov (.t 2), none⟩,
           ⟨(some 85), .bin .shr (.t 83) (.t 84), none⟩,
           ⟨(some 86), .bin .and (.t 85) (.k (.int .u64 1)), none⟩,
           ⟨(some 87), .bin .eql (.t 86) (.k (.int .u64 1)), none⟩,
           ⟨(some 88), .mov (.t 87), none⟩,
           ⟨(some 89), .indexAddrA 2 1 (.t 7) (.k (.int .i64 1)), some (88, false)⟩,
           ⟨(some 90), .load none (.t 89), some (88, false)⟩,
           ⟨(some 91), .mov (.t 2), some (88, false)⟩,
           ⟨(some 92), .bin .shr (.t 90) (.t 91), some (88, false)⟩,
           ⟨(some 93), .bin .and (.t 92) (.k (.int .u64 1)), some (88, false)⟩,
           ⟨(some 94), .bin .eql (.t 93) (.k (.int .u64 1)), some (88, false)⟩,
           ⟨(some 95), .pick (.t 88) (.k (.bool true)) (.t 94), none⟩,
           ⟨(some 6), .mov (.t 95), none⟩] [6])
        (.ret))
       (.seq (.reg [⟨(some 97), .bin .eql (.t 14) (.k (.int .i64 4)), none⟩,
           ⟨(some 96), .mov (.t 97), none⟩] [2, 3, 7, 14, 96])
        (.cond (.t 96) (.seqT (.seq (.reg [⟨(some 98), .fieldAddr 1 1 (.t 3), none⟩,
             ⟨(some 99), .load none (.t 98), none⟩,
             ⟨(some 100), .bin .lss (.t 99) (.k (.int .i64 0)), none⟩,
             ⟨(some 101), .mov (.t 100), none⟩,
             ⟨(some 102), .fieldAddr 1 1 (.t 3), some (101, false)⟩,
             ⟨(some 103), .load none (.t 102), some (101, false)⟩,
             ⟨(some 104), .bin .gtr (.t 103) (.k (.int .i64 5)), some (101, false)⟩,
             ⟨(some 105), .pick (.t 101) (.k (.bool true)) (.t 104), none⟩] [2, 3, 7, 105])
          (.cond (.t 105) (.seq (.reg [⟨(some 106), .indexAddrA 2 1 (.t 7) (.k (.int .i64 0)), none⟩,
              ⟨(some 107), .load none (.t 106), none⟩,
              ⟨(some 108), .mov (.t 2), none⟩,
              ⟨(some 109), .bin .shr (.t 107) (.t 108), none⟩,
              ⟨(some 110), .bin .and (.t 109) (.k (.int .u64 1)), none⟩,
              ⟨(some 111), .bin .eql (.t 110) (.k (.int .u64 1)), none⟩,
              ⟨(some 6), .mov (.t 111), none⟩] [6])
           (.ret))
          (.skip))) [2, 3, 7] b20_4)
        (.seq (.reg [⟨(some 135), .bin .eql (.t 14) (.k (.int .i64 5)), none⟩,
            ⟨(some 134), .mov (.t 135), none⟩] [2, 3, 7, 134])
         (.cond (.t 134) (.seq (.reg [⟨(some 136), .load (some 5) (.t 3), none⟩,
             ⟨(some 137), .indexAddrA 2 1 (.t 7) (.k (.int .i64 0)), none⟩,
             ⟨(some 138), .load none (.t 137), none⟩,
             ⟨(some 139), .mov (.t 2), none⟩,
             ⟨(some 140), .call (.f 40) [(.t 136), (.t 138), (.t 139)] false, none⟩,
             ⟨(some 6), .mov (.t 140), none⟩] [6])
          (.ret))
         (.skip))))))))))))))) [3] b20_5))
def b20 : C := c20 b20_1 b20_2 b20_4 b20_5
def f20 : IFn := { body := b20, params := 3, res := [(6, none)], pop := false, keep := false }
theorem ok20 : okFn Tryd.prog 20 f20 = true := by kernel_rfl

-- (resolvent/pos.Func).Entails
def d21_0 : List (IOper × Nat × Nat) :=
  [(⟨(some 5), .load (some 2) (.t 2), none⟩, 0, 2),
    (⟨(some 6), .mov (.t 1), none⟩, 0, 0),
    (⟨(some 7), .call (.f 14) [(.t 6)] false, none⟩, 0, 0),
    (⟨(some 8), .call (.f 16) [(.t 5), (.t 7)] false, none⟩, 0, 0),
    (⟨(some 9), .load (some 2) (.t 2), none⟩, 0, 3),
    (⟨(some 10), .call (.f 11) [(.t 8), (.t 9)] false, none⟩, 0, 0),
    (⟨(some 11), .mov (.t 10), none⟩, 0, 0),
    (⟨(some 12), .mov (.t 1), some (11, true)⟩, 0, 0),
    (⟨(some 13), .bin .geq (.t 12) (.k (.int .i64 0)), some (11, true)⟩, 0, 0),
    (⟨(some 14), .pick (.t 11) (.t 13) (.k (.bool false)), none⟩, 0, 0),
    (⟨(some 4), .mov (.t 14), none⟩, 0, 0)]
def b21 : C :=
  .seq (.reg [⟨(some 2), .box (.t 0), none⟩,
     ⟨(some 4), .mov (.k (.bool false)), none⟩] [1, 2])
  (.seq (.regD d21_0 [4])
  (.ret))
def f21 : IFn := { body := b21, params := 2, res := [(4, none)], pop := false, keep := false }
theorem ok21 : okFn Tryd.prog 21 f21 = true := by kernel_rfl

-- (resolvent/pos.Func).Size
def b22 : C :=
  .seq (.reg [⟨(some 1), .box (.t 0), none⟩,
     ⟨(some 2), .mov (.k (.int .i64 0)), none⟩] [1])
  (.seq (.reg [⟨(some 3), .fieldAddr 0 1 (.t 1), none⟩,
     ⟨(some 4), .load none (.t 3), none⟩,
     ⟨(some 5), .len 1 (.t 4), none⟩,
     ⟨(some 2), .mov (.t 5), none⟩] [2])
  (.ret))
def f22 : IFn := { body := b22, params := 1, res := [(2, none)], pop := false, keep := false }
theorem ok22 : okFn Tryd.prog 22 f22 = true := by kernel_rfl

-- slices.Sort[[]int,int]
def b23 : C :=
  .seq (.reg [⟨(some 3), .mov (.t 0), none⟩,
     ⟨(some 4), .len 1 (.t 3), none⟩,
     ⟨(some 2), .mov (.t 4), none⟩] [0, 2])
  (.reg [⟨(some 5), .mov (.t 0), none⟩,
    ⟨(some 6), .mov (.t 2), none⟩,
    ⟨(some 7), .mov (.t 2), none⟩,
    ⟨(some 8), .conv .u64 (.t 7), none⟩,
    ⟨(some 9), .call (.f 42) [(.t 8)] false, none⟩,
    ⟨(some 10), .call (.f 41) [(.t 5), (.k (.int .i64 0)), (.t 6), (.t 9)] false, none⟩] [])
def f23 : IFn := { body := b23, params := 1, res := [], pop := false, keep := false }
theorem ok23o : okFn Tryd.prog 23 { f23 with orc := sortO } = true := by kernel_rfl
-- slices.Compact[[]int,int]
def d24_0 : List (IOper × Nat × Nat) :=
  [(⟨(some 16), .mov (.t 0), none⟩, 0, 0),
    (⟨(some 17), .mov (.t 3), none⟩, 0, 0),
    (⟨(some 18), .indexAddr 1 (.t 16) (.t 17), none⟩, 0, 0),
    (⟨(some 19), .load none (.t 18), none⟩, 0, 1),
    (⟨(some 20), .mov (.t 0), none⟩, 0, 0),
    (⟨(some 21), .mov (.t 3), none⟩, 0, 0),
    (⟨(some 22), .bin .sub (.t 21) (.k (.int .i64 1)), none⟩, 0, 0),
    (⟨(some 23), .indexAddr 1 (.t 20) (.t 22), none⟩, 0, 0),
    (⟨(some 24), .load none (.t 23), none⟩, 0, 1),
    (⟨(some 25), .bin .eql (.t 19) (.t 24), none⟩, 0, 0)]
def d24_1 : List (IOper × Nat × Nat) :=
  [(⟨(some 35), .mov (.t 4), none⟩, 0, 0),
    (⟨(some 36), .mov (.t 5), none⟩, 0, 0),
    (⟨(some 37), .indexAddr 1 (.t 35) (.t 36), none⟩, 0, 0),
    (⟨(some 38), .load none (.t 37), none⟩, 0, 1),
    (⟨(some 39), .mov (.t 4), none⟩, 0, 0),
    (⟨(some 40), .mov (.t 5), none⟩, 0, 0),
    (⟨(some 41), .bin .sub (.t 40) (.k (.int .i64 1)), none⟩, 0, 0),
    (⟨(some 42), .indexAddr 1 (.t 39) (.t 41), none⟩, 0, 0),
    (⟨(some 43), .load none (.t 42), none⟩, 0, 1),
    (⟨(some 44), .bin .neq (.t 38) (.t 43), none⟩, 0, 0)]
def b24_2 : C :=
  .reg [⟨(some 33), .mov (.t 5), none⟩,
    ⟨(some 34), .bin .add (.t 33) (.k (.int .i64 1)), none⟩,
    ⟨(some 5), .mov (.t 34), none⟩] [0, 3, 4, 5]
def c24_3 (b24_2 : C) : C :=
  .seqT (.block 3 (.seq (.regD d24_1 [0, 3, 4, 5, 44])
    (.cond (.t 44) (.seq (.reg [⟨(some 45), .mov (.t 0), none⟩,
        ⟨(some 46), .mov (.t 3), none⟩,
        ⟨(some 47), .mov (.t 4), none⟩,
        ⟨(some 48), .mov (.t 5), none⟩,
        ⟨(some 49), .indexAddr 1 (.t 47) (.t 48), none⟩,
        ⟨(some 50), .load none (.t 49), none⟩,
        ⟨(some 51), .indexAddr 1 (.t 45) (.t 46), none⟩,
        ⟨none, .store 1 (.t 51) (.t 50), none⟩] [0, 3, 4, 5])
     (.reg [⟨(some 52), .mov (.t 3), none⟩,
       ⟨(some 53), .bin .add (.t 52) (.k (.int .i64 1)), none⟩,
       ⟨(some 3), .mov (.t 53), none⟩] [0, 3, 4, 5]))
    (.skip)))) [0, 3, 4, 5] b24_2
def b24_3 : C := c24_3 b24_2
def c24_4 (b24_3 : C) : C :=
  .seqT (.seq (.reg [⟨(some 29), .mov (.t 5), none⟩,
      ⟨(some 30), .mov (.t 4), none⟩,
      ⟨(some 31), .len 1 (.t 30), none⟩,
      ⟨(some 32), .bin .lss (.t 29) (.t 31), none⟩] [0, 3, 4, 5, 32])
   (.cond (.t 32) (.skip)
   (.exit 2))) [0, 3, 4, 5] b24_3
def b24_4 : C := c24_4 b24_3
def b24_5 : C :=
  .seq (.reg [⟨(some 54), .mov (.t 0), none⟩,
     ⟨(some 55), .mov (.t 3), none⟩,
     ⟨(some 56), .slice 1 (.t 54) (some (.t 55)) none, none⟩,
     ⟨none, .clear 1 [(.int .i64 0)] (.t 56), none⟩] [0, 3])
  (.seq (.reg [⟨(some 57), .mov (.t 0), none⟩,
     ⟨(some 58), .mov (.t 3), none⟩,
     ⟨(some 59), .slice 1 (.t 57) none (some (.t 58)), none⟩,
     ⟨(some 2), .mov (.t 59), none⟩] [2])
  (.ret))
def b24_6 : C :=
  .reg [⟨(some 14), .mov (.t 3), none⟩,
    ⟨(some 15), .bin .add (.t 14) (.k (.int .i64 1)), none⟩,
    ⟨(some 3), .mov (.t 15), none⟩] [0, 3]
def c24_7 (b24_4 b24_5 b24_6 : C) : C :=
  .seqT (.block 1 (.seq (.regD d24_0 [0, 3, 25])
    (.cond (.t 25) (.seq (.reg [⟨(some 26), .mov (.t 0), none⟩,
        ⟨(some 27), .mov (.t 3), none⟩,
        ⟨(some 28), .slice 1 (.t 26) (some (.t 27)) none, none⟩,
        ⟨(some 4), .mov (.t 28), none⟩] [0, 3, 4])
     (.seqT (.seq (.reg [⟨(some 5), .mov (.k (.int .i64 1)), none⟩] [0, 3, 4, 5])
      (.block 2 (.loop [0, 3, 4, 5] false b24_4))) [0, 3] b24_5))
    (.skip)))) [0, 3] b24_6
def b24_7 : C := c24_7 b24_4 b24_5 b24_6
def c24_8 (b24_7 : C) : C :=
  .seqT (.seq (.reg [⟨(some 10), .mov (.t 3), none⟩,
      ⟨(some 11), .mov (.t 0), none⟩,
      ⟨(some 12), .len 1 (.t 11), none⟩,
      ⟨(some 13), .bin .lss (.t 10) (.t 12), none⟩] [0, 3, 13])
   (.cond (.t 13) (.skip)
   (.exit 0))) [0, 3] b24_7
def b24_8 : C := c24_8 b24_7
def b24_9 : C :=
  .seq (.reg [⟨(some 60), .mov (.t 0), none⟩,
     ⟨(some 2), .mov (.t 60), none⟩] [2])
  (.ret)
def c24_10 (b24_8 b24_9 : C) : C :=
  .seqT (.seq (.reg [⟨(some 3), .mov (.k (.int .i64 1)), none⟩] [0, 3])
   (.block 0 (.loop [0, 3] false b24_8))) [0] b24_9
def b24_10 : C := c24_10 b24_8 b24_9
def c24 (b24_10 : C) : C :=
  .seq (.reg [⟨(some 2), .mov (.k (.list .full 1 [])), none⟩] [0])
  (.seqT (.seq (.reg [⟨(some 6), .mov (.t 0), none⟩,
      ⟨(some 7), .len 1 (.t 6), none⟩,
      ⟨(some 8), .bin .lss (.t 7) (.k (.int .i64 2)), none⟩] [0, 8])
   (.cond (.t 8) (.seq (.reg [⟨(some 9), .mov (.t 0), none⟩,
       ⟨(some 2), .mov (.t 9), none⟩] [2])
    (.ret))
   (.skip))) [0] b24_10)
def b24 : C := c24 b24_10
def f24 : IFn := { body := b24, params := 1, res := [(2, none)], pop := false, keep := false }
theorem ok24o : okFn Tryd.prog 24 { f24 with orc := compO } = true := by kernel_rfl
-- slices.Contains[[]int,int]
def b25 : C :=
  .seq (.reg [⟨(some 4), .mov (.k (.bool false)), none⟩] [0, 1])
  (.seq (.reg [⟨(some 5), .mov (.t 0), none⟩,
     ⟨(some 6), .mov (.t 1), none⟩,
     ⟨(some 7), .call (.f 43) [(.t 5), (.t 6)] false, none⟩,
     ⟨(some 8), .bin .geq (.t 7) (.k (.int .i64 0)), none⟩,
     ⟨(some 4), .mov (.t 8), none⟩] [4])
  (.ret))
def f25 : IFn := { body := b25, params := 2, res := [(4, none)], pop := false, keep := false }
theorem ok25 : okFn Tryd.prog 25 f25 = true := by kernel_rfl

-- resolvent/pos.open
def b26 : C :=
  .seq (.reg [⟨(some 0), .mov (.k .nilptr), none⟩] [])
  (.seq (.reg [⟨(some 1), .makeMap, none⟩,
     ⟨(some 2), .buildT [(.list .full 0 []), .nilmap] 0 3 [(1, 1, (.t 1))], none⟩,
     ⟨(some 3), .box (.t 2), none⟩,
     ⟨(some 0), .mov (.t 3), none⟩] [0])
  (.ret))
def f26 : IFn := { body := b26, params := 0, res := [(0, none)], pop := false, keep := false }
theorem ok26 : okFn Tryd.prog 26 f26 = true := by kernel_rfl

-- (*resolvent/pos.table).both
def b27 : C :=
  .seq (.reg [⟨(some 4), .box (.t 0), none⟩,
     ⟨(some 7), .box (.t 3), none⟩,
     ⟨(some 8), .mov (.k (.int .i64 0)), none⟩] [1, 2, 4, 7])
  (.seq (.reg [⟨(some 11), .makeMap, none⟩,
     ⟨(some 9), .new [.nilmap], none⟩,
     ⟨none, .store 1 (.t 9) (.t 11), none⟩] [1, 2, 4, 7, 9])
  (.seq (.reg [⟨(some 10), .new [.nilfunc], none⟩] [1, 2, 4, 7, 9, 10])
  (.seq (.reg [⟨(some 12), .makeFunc 44 [] [(.t 7), (.t 9), (.t 4), (.t 10)], none⟩,
     ⟨none, .store 1 (.t 10) (.t 12), none⟩] [1, 2, 10])
  (.seq (.reg [⟨(some 13), .load none (.t 10), none⟩,
     ⟨(some 14), .mov (.t 1), none⟩,
     ⟨(some 15), .mov (.t 2), none⟩,
     ⟨(some 16), .call (.t 13) [(.t 14), (.t 15)] false, none⟩,
     ⟨(some 8), .mov (.t 16), none⟩] [8])
  (.ret)))))
def f27 : IFn := { body := b27, params := 4, res := [(8, none)], pop := false, keep := false }
theorem ok27 : okFn Tryd.prog 27 f27 = true := by kernel_rfl

-- (*resolvent/pos.table).put
def d28_0 : List (IOper × Nat × Nat) :=
  [(⟨(some 16), .mov (.t 5), none⟩, 0, 0),
    (⟨(some 17), .mov (.t 0), none⟩, 0, 0),
    (⟨(some 18), .fieldAddr 0 1 (.t 7), none⟩, 0, 0),
    (⟨(some 19), .load none (.t 18), none⟩, 0, 1),
    (⟨(some 20), .mov (.t 5), none⟩, 0, 0),
    (⟨(some 21), .fieldAddr 1 1 (.t 7), none⟩, 0, 0),
    (⟨(some 22), .load none (.t 21), none⟩, 0, 1),
    (⟨(some 23), .indexAddr 1 (.t 20) (.t 22), none⟩, 0, 0),
    (⟨(some 24), .load none (.t 23), none⟩, 0, 1),
    (⟨(some 25), .mov (.t 5), none⟩, 0, 0),
    (⟨(some 26), .fieldAddr 2 1 (.t 7), none⟩, 0, 0),
    (⟨(some 27), .load none (.t 26), none⟩, 0, 1),
    (⟨(some 28), .indexAddr 1 (.t 25) (.t 27), none⟩, 0, 0),
    (⟨(some 29), .load none (.t 28), none⟩, 0, 1),
    (⟨(some 30), .build [(.int .i64 0), (.int .i64 0), (.int .i64 0)] [(0, 1, (.t 19)), (1, 1, (.t 24)), (2, 1, (.t 29))], none⟩, 0, 0),
    (⟨(some 31), .call (.f 35) [(.t 17), (.t 30)] false, none⟩, 0, 0),
    (⟨(some 32), .buildSlice 1 [(.int .i64 0)] 1 [(0, (.t 31))] false, none⟩, 0, 0),
    (⟨(some 33), .append 1 8 (.t 16) (.t 32) 0, none⟩, 0, 0),
    (⟨(some 5), .mov (.t 33), none⟩, 0, 0)]
def b28_1 : C :=
  .seq (.block 1 (.seq (.reg [⟨(some 14), .indexAddr 3 (.t 10) (.t 12), none⟩,
       ⟨(some 15), .load (some 3) (.t 14), none⟩,
       ⟨(some 7), .new [(.int .i64 0), (.int .i64 0), (.int .i64 0)], none⟩,
       ⟨none, .store 3 (.t 7) (.t 15), none⟩] [0, 3, 5, 7, 10, 11, 12])
    (.regD d28_0 [0, 3, 5, 10, 11, 12])))
  (.reg [⟨(some 34), .bin .add (.t 12) (.k (.int .i64 1)), none⟩,
    ⟨(some 12), .mov (.t 34), none⟩] [0, 3, 5, 10, 11, 12])
def c28_2 (b28_1 : C) : C :=
  .seq (.reg [⟨(some 13), .bin .lss (.t 12) (.t 11), none⟩] [0, 3, 5, 10, 11, 12, 13])
  (.seqT (.cond (.t 13) (.skip)
   (.exit 0)) [0, 3, 5, 10, 11, 12] b28_1)
def b28_2 : C := c28_2 b28_1
def b28_3 : C :=
  .seq (.reg [⟨(some 42), .mov (.t 5), none⟩,
     ⟨(some 43), .mov (.t 5), none⟩,
     ⟨(some 44), .len 1 (.t 43), none⟩,
     ⟨(some 45), .bin .sub (.t 44) (.k (.int .i64 1)), none⟩,
     ⟨(some 46), .indexAddr 1 (.t 42) (.t 45), none⟩,
     ⟨(some 47), .load none (.t 46), none⟩,
     ⟨(some 4), .mov (.t 47), none⟩] [4])
  (.ret)
def c28_4 (b28_3 : C) : C :=
  .seqT (.seq (.reg [⟨(some 35), .fieldAddr 0 1 (.t 3), none⟩,
      ⟨(some 36), .load none (.t 35), none⟩,
      ⟨(some 37), .len 1 (.t 36), none⟩,
      ⟨(some 38), .bin .eql (.t 37) (.k (.int .i64 0)), none⟩] [3, 5, 38])
   (.cond (.t 38) (.seq (.reg [⟨(some 39), .fieldAddr 1 1 (.t 3), none⟩,
       ⟨(some 40), .load none (.t 39), none⟩,
       ⟨(some 41), .call (.f 47) [(.t 40)] false, none⟩,
       ⟨(some 4), .mov (.t 41), none⟩] [4])
    (.ret))
   (.skip))) [5] b28_3
def b28_4 : C := c28_4 b28_3
def c28 (b28_2 b28_4 : C) : C :=
  .seq (.reg [⟨(some 3), .box (.t 1), none⟩,
     ⟨(some 4), .mov (.k (.int .i64 0)), none⟩] [0, 3])
  (.seq (.reg [⟨(some 8), .buildSlice 1 [(.int .i64 0)] 2 [(0, (.k (.int .i64 0))), (1, (.k (.int .i64 1)))] false, none⟩,
     ⟨(some 5), .mov (.t 8), none⟩] [0, 3, 5])
  (.seqT (.seq (.reg [⟨(some 9), .fieldAddr 0 1 (.t 3), none⟩,
      ⟨(some 10), .load none (.t 9), none⟩,
      ⟨(some 11), .len 1 (.t 10), none⟩,
      ⟨(some 12), .mov (.k (.int .i64 0)), none⟩] [0, 3, 5, 10, 11, 12])
   (.block 0 (.loop [0, 3, 5, 10, 11, 12] false b28_2))) [3, 5] b28_4))
def b28 : C := c28 b28_2 b28_4
def f28 : IFn := { body := b28, params := 2, res := [(4, none)], pop := false, keep := false }
theorem ok28 : okFn Tryd.prog 28 f28 = true := by kernel_rfl

-- resolvent/pos.and
def b29_0 : C :=
  .seq (.reg [⟨(some 4), .mov (.k (.int .i64 0)), none⟩,
     ⟨(some 5), .mov (.k (.bool false)), none⟩] [4, 5])
  (.ret)
def c29 (b29_0 : C) : C :=
  .seq (.reg [⟨(some 4), .mov (.k (.int .i64 0)), none⟩,
     ⟨(some 5), .mov (.k (.bool false)), none⟩] [0, 1])
  (.seqT (.block 0 (.seq (.reg [⟨(some 7), .mov (.t 0), none⟩,
       ⟨(some 8), .bin .eql (.t 7) (.k (.int .i64 0)), none⟩,
       ⟨(some 9), .mov (.t 8), none⟩,
       ⟨(some 10), .mov (.t 1), some (9, false)⟩,
       ⟨(some 11), .bin .eql (.t 10) (.k (.int .i64 0)), some (9, false)⟩,
       ⟨(some 12), .pick (.t 9) (.k (.bool true)) (.t 11), none⟩,
       ⟨(some 6), .mov (.t 12), none⟩] [0, 1, 6])
    (.cond (.t 6) (.seq (.reg [⟨(some 4), .mov (.k (.int .i64 0)), none⟩,
        ⟨(some 5), .mov (.k (.bool true)), none⟩] [4, 5])
     (.ret))
    (.seq (.reg [⟨(some 14), .mov (.t 0), none⟩,
        ⟨(some 15), .bin .eql (.t 14) (.k (.int .i64 1)), none⟩,
        ⟨(some 13), .mov (.t 15), none⟩] [0, 1, 13])
     (.cond (.t 13) (.seq (.reg [⟨(some 16), .mov (.t 1), none⟩,
         ⟨(some 4), .mov (.t 16), none⟩,
         ⟨(some 5), .mov (.k (.bool true)), none⟩] [4, 5])
      (.ret))
     (.seq (.reg [⟨(some 18), .mov (.t 1), none⟩,
         ⟨(some 19), .bin .eql (.t 18) (.k (.int .i64 1)), none⟩,
         ⟨(some 20), .mov (.t 19), none⟩,
         ⟨(some 21), .mov (.t 0), some (20, false)⟩,
         ⟨(some 22), .mov (.t 1), some (20, false)⟩,
         ⟨(some 23), .bin .eql (.t 21) (.t 22), some (20, false)⟩,
         ⟨(some 24), .pick (.t 20) (.k (.bool true)) (.t 23), none⟩,
         ⟨(some 17), .mov (.t 24), none⟩] [0, 17])
      (.cond (.t 17) (.seq (.reg [⟨(some 25), .mov (.t 0), none⟩,
          ⟨(some 4), .mov (.t 25), none⟩,
          ⟨(some 5), .mov (.k (.bool true)), none⟩] [4, 5])
       (.ret))
      (.skip)))))))) [] b29_0)
def b29 : C := c29 b29_0
def f29 : IFn := { body := b29, params := 2, res := [(4, none), (5, none)], pop := false, keep := false }
theorem ok29 : okFn Tryd.prog 29 f29 = true := by kernel_rfl

-- (*resolvent/pos.table).opposite
def d30_0 : List (IOper × Nat × Nat) :=
  [(⟨(some 23), .mov (.t 0), none⟩, 0, 0),
    (⟨(some 24), .fieldAddr 0 1 (.t 5), none⟩, 0, 0),
    (⟨(some 25), .load none (.t 24), none⟩, 0, 2),
    (⟨(some 26), .mov (.t 6), none⟩, 0, 0),
    (⟨(some 27), .mov (.t 0), none⟩, 0, 0),
    (⟨(some 28), .fieldAddr 2 1 (.t 5), none⟩, 0, 0),
    (⟨(some 29), .load none (.t 28), none⟩, 0, 1),
    (⟨(some 30), .call (.f 30) [(.t 27), (.t 29)] false, none⟩, 0, 0),
    (⟨(some 31), .build [(.int .i64 0), (.int .i64 0), (.int .i64 0)] [(0, 1, (.t 25)), (1, 1, (.t 26)), (2, 1, (.t 30))], none⟩, 0, 0),
    (⟨(some 32), .call (.f 35) [(.t 23), (.t 31)] false, none⟩, 0, 0),
    (⟨(some 4), .mov (.t 32), none⟩, 0, 0)]
def b30_1 : C :=
  .seq (.reg [⟨(some 11), .mov (.t 0), none⟩,
     ⟨(some 12), .nilCheck (.t 11), none⟩,
     ⟨(some 13), .fieldAddr 0 1 (.t 12), none⟩,
     ⟨(some 14), .load none (.t 13), none⟩,
     ⟨(some 15), .mov (.t 1), none⟩,
     ⟨(some 16), .bin .sub (.t 15) (.k (.int .i64 2)), none⟩,
     ⟨(some 17), .indexAddr 3 (.t 14) (.t 16), none⟩,
     ⟨(some 18), .load (some 3) (.t 17), none⟩,
     ⟨(some 5), .new [(.int .i64 0), (.int .i64 0), (.int .i64 0)], none⟩,
     ⟨none, .store 3 (.t 5) (.t 18), none⟩] [0, 5])
  (.seq (.reg [⟨(some 19), .mov (.t 0), none⟩,
     ⟨(some 20), .fieldAddr 1 1 (.t 5), none⟩,
     ⟨(some 21), .load none (.t 20), none⟩,
     ⟨(some 22), .call (.f 30) [(.t 19), (.t 21)] false, none⟩,
     ⟨(some 6), .mov (.t 22), none⟩] [0, 5, 6])
  (.seq (.regD d30_0 [4])
  (.ret)))
def c30 (b30_1 : C) : C :=
  .seq (.reg [⟨(some 4), .mov (.k (.int .i64 0)), none⟩] [0, 1])
  (.seqT (.seq (.reg [⟨(some 7), .mov (.t 1), none⟩,
      ⟨(some 8), .bin .lss (.t 7) (.k (.int .i64 2)), none⟩] [0, 1, 8])
   (.cond (.t 8) (.seq (.reg [⟨(some 9), .mov (.t 1), none⟩,
       ⟨(some 10), .bin .sub (.k (.int .i64 1)) (.t 9), none⟩,
       ⟨(some 4), .mov (.t 10), none⟩] [4])
    (.ret))
   (.skip))) [0, 1] b30_1)
def b30 : C := c30 b30_1
def f30 : IFn := { body := b30, params := 2, res := [(4, none)], pop := false, keep := false }
theorem ok30 : okFn Tryd.prog 30 f30 = true := by kernel_rfl

-- resolvent/pos.or
def b31_0 : C :=
  .seq (.reg [⟨(some 4), .mov (.k (.int .i64 0)), none⟩,
     ⟨(some 5), .mov (.k (.bool false)), none⟩] [4, 5])
  (.ret)
def c31 (b31_0 : C) : C :=
  .seq (.reg [⟨(some 4), .mov (.k (.int .i64 0)), none⟩,
     ⟨(some 5), .mov (.k (.bool false)), none⟩] [0, 1])
  (.seqT (.block 0 (.seq (.reg [⟨(some 7), .mov (.t 0), none⟩,
       ⟨(some 8), .bin .eql (.t 7) (.k (.int .i64 1)), none⟩,
       ⟨(some 9), .mov (.t 8), none⟩,
       ⟨(some 10), .mov (.t 1), some (9, false)⟩,
       ⟨(some 11), .bin .eql (.t 10) (.k (.int .i64 1)), some (9, false)⟩,
       ⟨(some 12), .pick (.t 9) (.k (.bool true)) (.t 11), none⟩,
       ⟨(some 6), .mov (.t 12), none⟩] [0, 1, 6])
    (.cond (.t 6) (.seq (.reg [⟨(some 4), .mov (.k (.int .i64 1)), none⟩,
        ⟨(some 5), .mov (.k (.bool true)), none⟩] [4, 5])
     (.ret))
    (.seq (.reg [⟨(some 14), .mov (.t 0), none⟩,
        ⟨(some 15), .bin .eql (.t 14) (.k (.int .i64 0)), none⟩,
        ⟨(some 13), .mov (.t 15), none⟩] [0, 1, 13])
     (.cond (.t 13) (.seq (.reg [⟨(some 16), .mov (.t 1), none⟩,
         ⟨(some 4), .mov (.t 16), none⟩,
         ⟨(some 5), .mov (.k (.bool true)), none⟩] [4, 5])
      (.ret))
     (.seq (.reg [⟨(some 18), .mov (.t 1), none⟩,
         ⟨(some 19), .bin .eql (.t 18) (.k (.int .i64 0)), none⟩,
         ⟨(some 20), .mov (.t 19), none⟩,
         ⟨(some 21), .mov (.t 0), some (20, false)⟩,
         ⟨(some 22), .mov (.t 1), some (20, false)⟩,
         ⟨(some 23), .bin .eql (.t 21) (.t 22), some (20, false)⟩,
         ⟨(some 24), .pick (.t 20) (.k (.bool true)) (.t 23), none⟩,
         ⟨(some 17), .mov (.t 24), none⟩] [0, 17])
      (.cond (.t 17) (.seq (.reg [⟨(some 25), .mov (.t 0), none⟩,
          ⟨(some 4), .mov (.t 25), none⟩,
          ⟨(some 5), .mov (.k (.bool true)), none⟩] [4, 5])
       (.ret))
      (.skip)))))))) [] b31_0)
def b31 : C := c31 b31_0
def f31 : IFn := { body := b31, params := 2, res := [(4, none), (5, none)], pop := false, keep := false }
theorem ok31 : okFn Tryd.prog 31 f31 = true := by kernel_rfl

-- strconv.FormatBool
def b32 : C :=
  .seq (.reg [⟨(some 2), .mov (.k (.str ⟨#[]⟩)), none⟩] [0])
  (.seq (.reg [⟨(some 3), .mov (.t 0), none⟩,
     ⟨(some 4), .call (.f 48) [(.t 3)] false, none⟩,
     ⟨(some 2), .mov (.t 4), none⟩] [2])
  (.ret))
def f32 : IFn := { body := b32, params := 1, res := [(2, none)], pop := false, keep := false }
theorem ok32 : okFn Tryd.prog 32 f32 = true := by kernel_rfl

-- strconv.Itoa
def b33 : C :=
  .seq (.reg [⟨(some 2), .mov (.k (.str ⟨#[]⟩)), none⟩] [0])
  (.seq (.reg [⟨(some 3), .mov (.t 0), none⟩,
     ⟨(some 4), .call (.f 49) [(.t 3)] false, none⟩,
     ⟨(some 2), .mov (.t 4), none⟩] [2])
  (.ret))
def f33 : IFn := { body := b33, params := 1, res := [(2, none)], pop := true, keep := false }
theorem ok33o : okFn Tryd.prog 33 { f33 with orc := itoaO } = true := by kernel_rfl
-- slices.Equal[[]resolvent/pos.node,resolvent/pos.node]
def d34_0 : List (IOper × Nat × Nat) :=
  [(⟨(some 16), .mov (.t 0), none⟩, 0, 0),
    (⟨(some 17), .mov (.t 5), none⟩, 0, 0),
    (⟨(some 18), .indexAddr 3 (.t 16) (.t 17), none⟩, 0, 0),
    (⟨(some 19), .load (some 3) (.t 18), none⟩, 0, 1),
    (⟨(some 20), .mov (.t 1), none⟩, 0, 0),
    (⟨(some 21), .mov (.t 5), none⟩, 0, 0),
    (⟨(some 22), .indexAddr 3 (.t 20) (.t 21), none⟩, 0, 0),
    (⟨(some 23), .load (some 3) (.t 22), none⟩, 0, 1),
    (⟨(some 24), .eqv ⟨[.i, .i, .i], true⟩ true (.t 19) (.t 23), none⟩, 0, 0)]
def b34_1 : C :=
  .reg [⟨(some 25), .bin .add (.t 13) (.k (.int .i64 1)), none⟩,
    ⟨(some 13), .mov (.t 25), none⟩] [0, 1, 12, 13]
def c34_2 (b34_1 : C) : C :=
  .seqT (.block 1 (.seq (.reg [⟨(some 15), .mov (.t 13), none⟩,
       ⟨(some 5), .mov (.t 15), none⟩] [0, 1, 5, 12, 13])
    (.seq (.regD d34_0 [0, 1, 12, 13, 24])
    (.cond (.t 24) (.seq (.reg [⟨(some 4), .mov (.k (.bool false)), none⟩] [4])
     (.ret))
    (.skip))))) [0, 1, 12, 13] b34_1
def b34_2 : C := c34_2 b34_1
def c34_3 (b34_2 : C) : C :=
  .seq (.reg [⟨(some 14), .bin .lss (.t 13) (.t 12), none⟩] [0, 1, 12, 13, 14])
  (.seqT (.cond (.t 14) (.skip)
   (.exit 0)) [0, 1, 12, 13] b34_2)
def b34_3 : C := c34_3 b34_2
def b34_4 : C :=
  .seq (.reg [⟨(some 4), .mov (.k (.bool true)), none⟩] [4])
  (.ret)
def c34_5 (b34_3 b34_4 : C) : C :=
  .seqT (.seq (.reg [⟨(some 11), .mov (.t 0), none⟩,
      ⟨(some 12), .len 1 (.t 11), none⟩,
      ⟨(some 13), .mov (.k (.int .i64 0)), none⟩] [0, 1, 12, 13])
   (.block 0 (.loop [0, 1, 12, 13] false b34_3))) [] b34_4
def b34_5 : C := c34_5 b34_3 b34_4
def c34 (b34_5 : C) : C :=
  .seq (.reg [⟨(some 4), .mov (.k (.bool false)), none⟩] [0, 1])
  (.seqT (.seq (.reg [⟨(some 6), .mov (.t 0), none⟩,
      ⟨(some 7), .len 1 (.t 6), none⟩,
      ⟨(some 8), .mov (.t 1), none⟩,
      ⟨(some 9), .len 1 (.t 8), none⟩,
      ⟨(some 10), .bin .neq (.t 7) (.t 9), none⟩] [0, 1, 10])
   (.cond (.t 10) (.seq (.reg [⟨(some 4), .mov (.k (.bool false)), none⟩] [4])
    (.ret))
   (.skip))) [0, 1] b34_5)
def b34 : C := c34 b34_5
def f34 : IFn := { body := b34, params := 2, res := [(4, none)], pop := false, keep := false }
theorem ok34 : okFn Tryd.prog 34 f34 = true := by kernel_rfl

-- (*resolvent/pos.table).make
def d35_0 : List (IOper × Nat × Nat) :=
  [(⟨(some 15), .mov (.t 0), none⟩, 0, 0),
    (⟨(some 16), .nilCheck (.t 15), none⟩, 0, 0),
    (⟨(some 17), .fieldAddr 1 1 (.t 16), none⟩, 0, 0),
    (⟨(some 18), .load none (.t 17), none⟩, 0, 1),
    (⟨(some 19), .load (some 3) (.t 3), none⟩, 0, 1),
    (⟨(some 20), .lookup ⟨[.i, .i, .i], true⟩ (.int .i64 0) true (.t 18) (.t 19), none⟩, 0, 1),
    (⟨(some 14), .mov (.t 20), none⟩, 0, 0),
    (⟨(some 21), .extract (.t 14) 0, none⟩, 0, 0),
    (⟨(some 22), .extract (.t 14) 1, none⟩, 0, 0),
    (⟨(some 5), .mov (.t 21), none⟩, 0, 0),
    (⟨(some 6), .mov (.t 22), none⟩, 0, 0)]
def d35_1 : List (IOper × Nat × Nat) :=
  [(⟨(some 25), .mov (.t 0), none⟩, 0, 0),
    (⟨(some 26), .mov (.t 0), none⟩, 0, 0),
    (⟨(some 27), .nilCheck (.t 26), none⟩, 0, 0),
    (⟨(some 28), .fieldAddr 0 1 (.t 27), none⟩, 0, 0),
    (⟨(some 29), .load none (.t 28), none⟩, 0, 1),
    (⟨(some 30), .load (some 3) (.t 3), none⟩, 0, 1),
    (⟨(some 31), .buildSlice 3 [(.int .i64 0), (.int .i64 0), (.int .i64 0)] 1 [(0, (.t 30))] false, none⟩, 0, 0),
    (⟨(some 32), .append 3 24 (.t 29) (.t 31) 0, none⟩, 0, 0),
    (⟨(some 33), .nilCheck (.t 25), none⟩, 0, 0),
    (⟨(some 34), .fieldAddr 0 1 (.t 33), none⟩, 0, 0),
    (⟨none, .store 1 (.t 34) (.t 32), none⟩, 0, 0)]
def d35_2 : List (IOper × Nat × Nat) :=
  [(⟨(some 35), .mov (.t 0), none⟩, 0, 0),
    (⟨(some 36), .nilCheck (.t 35), none⟩, 0, 0),
    (⟨(some 37), .fieldAddr 1 1 (.t 36), none⟩, 0, 0),
    (⟨(some 38), .load none (.t 37), none⟩, 0, 1),
    (⟨(some 39), .load (some 3) (.t 3), none⟩, 0, 1),
    (⟨(some 40), .mov (.t 0), none⟩, 0, 0),
    (⟨(some 41), .nilCheck (.t 40), none⟩, 0, 0),
    (⟨(some 42), .fieldAddr 0 1 (.t 41), none⟩, 0, 0),
    (⟨(some 43), .load none (.t 42), none⟩, 0, 1),
    (⟨(some 44), .len 1 (.t 43), none⟩, 0, 1),
    (⟨(some 45), .bin .add (.t 44) (.k (.int .i64 1)), none⟩, 0, 0),
    (⟨none, .mapUpdate ⟨[.i, .i, .i], true⟩ (.t 38) (.t 39) (.t 45), none⟩, 0, 0)]
def d35_3 : List (IOper × Nat × Nat) :=
  [(⟨(some 46), .mov (.t 0), none⟩, 0, 0),
    (⟨(some 47), .nilCheck (.t 46), none⟩, 0, 0),
    (⟨(some 48), .fieldAddr 1 1 (.t 47), none⟩, 0, 0),
    (⟨(some 49), .load none (.t 48), none⟩, 0, 1),
    (⟨(some 50), .load (some 3) (.t 3), none⟩, 0, 1),
    (⟨(some 51), .lookup ⟨[.i, .i, .i], true⟩ (.int .i64 0) false (.t 49) (.t 50), none⟩, 0, 1),
    (⟨(some 4), .mov (.t 51), none⟩, 0, 0)]
def b35_4 : C :=
  .seq (.regD d35_3 [4])
  (.ret)
def c35_5 (b35_4 : C) : C :=
  .seqT (.seq (.regD d35_0 [0, 3, 6])
   (.seq (.reg [⟨(some 23), .mov (.t 6), none⟩,
      ⟨(some 24), .un .not (.t 23), none⟩] [0, 3, 24])
   (.cond (.t 24) (.seq (.regD d35_1 [0, 3])
    (.regD d35_2 [0, 3]))
   (.skip)))) [0, 3] b35_4
def b35_5 : C := c35_5 b35_4
def c35 (b35_5 : C) : C :=
  .seq (.reg [⟨(some 3), .box (.t 1), none⟩,
     ⟨(some 4), .mov (.k (.int .i64 0)), none⟩] [0, 3])
  (.seqT (.seq (.reg [⟨(some 7), .fieldAddr 1 1 (.t 3), none⟩,
      ⟨(some 8), .load none (.t 7), none⟩,
      ⟨(some 9), .fieldAddr 2 1 (.t 3), none⟩,
      ⟨(some 10), .load none (.t 9), none⟩,
      ⟨(some 11), .bin .eql (.t 8) (.t 10), none⟩] [0, 3, 11])
   (.cond (.t 11) (.seq (.reg [⟨(some 12), .fieldAddr 1 1 (.t 3), none⟩,
       ⟨(some 13), .load none (.t 12), none⟩,
       ⟨(some 4), .mov (.t 13), none⟩] [4])
    (.ret))
   (.skip))) [0, 3] b35_5)
def b35 : C := c35 b35_5
def f35 : IFn := { body := b35, params := 2, res := [(4, none)], pop := false, keep := false }
theorem ok35 : okFn Tryd.prog 35 f35 = true := by kernel_rfl

-- (*resolvent/pos.table).take
def b36_0 : C :=
  .seq (.reg [⟨(some 24), .load (some 2) (.t 5), none⟩,
     ⟨none, .store 2 (.t 4) (.t 24), none⟩] [4])
  (.ret)
def c36_1 (b36_0 : C) : C :=
  .seq (.reg [⟨(some 5), .new [(.list .full 0 []), (.bool false)], none⟩] [1, 2, 4, 5])
  (.seq (.reg [⟨(some 13), .makeMap, none⟩,
     ⟨none, .mapUpdate ⟨[.i], false⟩ (.t 13) (.k (.int .i64 0)) (.k (.int .i64 0)), none⟩,
     ⟨none, .mapUpdate ⟨[.i], false⟩ (.t 13) (.k (.int .i64 1)) (.k (.int .i64 1)), none⟩,
     ⟨(some 14), .mov (.t 13), none⟩,
     ⟨(some 6), .new [.nilmap], none⟩,
     ⟨none, .store 1 (.t 6) (.t 14), none⟩] [1, 2, 4, 5, 6])
  (.seq (.reg [⟨(some 7), .new [.nilfunc], none⟩] [1, 2, 4, 5, 6, 7])
  (.seq (.reg [⟨(some 15), .makeFunc 50 [] [(.t 6), (.t 2), (.t 7), (.t 5)], none⟩,
     ⟨none, .store 1 (.t 7) (.t 15), none⟩] [1, 4, 5, 7])
  (.seq (.reg [⟨(some 16), .load none (.t 7), none⟩,
     ⟨(some 17), .mov (.t 1), none⟩,
     ⟨(some 18), .call (.t 16) [(.t 17)] false, none⟩] [4, 5])
  (.seqT (.seq (.reg [⟨(some 19), .fieldAddr 0 1 (.t 5), none⟩,
      ⟨(some 20), .load none (.t 19), none⟩,
      ⟨(some 21), .len 1 (.t 20), none⟩,
      ⟨(some 22), .bin .gtr (.t 21) (.k (.int .i64 256)), none⟩] [4, 5, 22])
   (.cond (.t 22) (.seq (.reg [⟨(some 23), .call (.f 13) [(.k (.bool true))] false, none⟩,
       ⟨none, .store 2 (.t 4) (.t 23), none⟩] [4])
    (.ret))
   (.skip))) [4, 5] b36_0)))))
def b36_1 : C := c36_1 b36_0
def c36 (b36_1 : C) : C :=
  .seq (.reg [⟨(some 2), .box (.t 0), none⟩,
     ⟨(some 4), .new [(.list .full 0 []), (.bool false)], none⟩] [1, 2, 4])
  (.seqT (.seq (.reg [⟨(some 8), .mov (.t 1), none⟩,
      ⟨(some 9), .bin .lss (.t 8) (.k (.int .i64 2)), none⟩] [1, 2, 4, 9])
   (.cond (.t 9) (.seq (.reg [⟨(some 10), .mov (.t 1), none⟩,
       ⟨(some 11), .bin .eql (.t 10) (.k (.int .i64 1)), none⟩,
       ⟨(some 12), .build [(.list .full 0 []), (.bool false)] [(1, 1, (.t 11))], none⟩,
       ⟨none, .store 2 (.t 4) (.t 12), none⟩] [4])
    (.ret))
   (.skip))) [1, 2, 4] b36_1)
def b36 : C := c36 b36_1
def f36 : IFn := { body := b36, params := 2, res := [(4, some (some 2))], pop := false, keep := false }
theorem ok36 : okFn Tryd.prog 36 f36 = true := by kernel_rfl

-- resolvent/pos.join
def b37_0 : C :=
  .seq (.block 1 (.seq (.reg [⟨(some 19), .indexAddr 2 (.t 15) (.t 17), none⟩,
       ⟨(some 20), .load (some 2) (.t 19), none⟩,
       ⟨(some 10), .new [(.list .full 0 []), (.bool false)], none⟩,
       ⟨none, .store 2 (.t 10) (.t 20), none⟩] [0, 6, 7, 8, 10, 15, 16, 17])
    (.reg [⟨(some 21), .mov (.t 7), none⟩,
      ⟨(some 22), .mov (.t 8), none⟩,
      ⟨(some 23), .mov (.t 7), none⟩,
      ⟨(some 24), .load (some 2) (.t 10), none⟩,
      ⟨(some 25), .call (.f 28) [(.t 23), (.t 24)] false, none⟩,
      ⟨(some 26), .mov (.t 0), none⟩,
      ⟨(some 27), .call (.f 27) [(.t 21), (.t 22), (.t 25), (.t 26)] false, none⟩,
      ⟨(some 8), .mov (.t 27), none⟩] [0, 6, 7, 8, 15, 16, 17])))
  (.reg [⟨(some 28), .bin .add (.t 17) (.k (.int .i64 1)), none⟩,
    ⟨(some 17), .mov (.t 28), none⟩] [0, 6, 7, 8, 15, 16, 17])
def c37_1 (b37_0 : C) : C :=
  .seq (.reg [⟨(some 18), .bin .lss (.t 17) (.t 16), none⟩] [0, 6, 7, 8, 15, 16, 17, 18])
  (.seqT (.cond (.t 18) (.skip)
   (.exit 0)) [0, 6, 7, 8, 15, 16, 17] b37_0)
def b37_1 : C := c37_1 b37_0
def b37_2 : C :=
  .seq (.reg [⟨(some 29), .mov (.t 7), none⟩,
     ⟨(some 30), .mov (.t 8), none⟩,
     ⟨(some 31), .call (.f 36) [(.t 29), (.t 30)] false, none⟩,
     ⟨none, .store 2 (.t 6) (.t 31), none⟩] [6])
  (.ret)
def c37 (b37_1 b37_2 : C) : C :=
  .seq (.reg [⟨(some 4), .box (.t 1), none⟩,
     ⟨(some 6), .new [(.list .full 0 []), (.bool false)], none⟩] [0, 2, 4, 6])
  (.seq (.reg [⟨(some 11), .call (.f 26) [] false, none⟩,
     ⟨(some 7), .mov (.t 11), none⟩] [0, 2, 4, 6, 7])
  (.seq (.reg [⟨(some 12), .mov (.t 7), none⟩,
     ⟨(some 13), .load (some 2) (.t 4), none⟩,
     ⟨(some 14), .call (.f 28) [(.t 12), (.t 13)] false, none⟩,
     ⟨(some 8), .mov (.t 14), none⟩] [0, 2, 6, 7, 8])
  (.seqT (.seq (.reg [⟨(some 15), .mov (.t 2), none⟩,
      ⟨(some 16), .len 1 (.t 15), none⟩,
      ⟨(some 17), .mov (.k (.int .i64 0)), none⟩] [0, 6, 7, 8, 15, 16, 17])
   (.block 0 (.loop [0, 6, 7, 8, 15, 16, 17] false b37_1))) [6, 7, 8] b37_2)))
def b37 : C := c37 b37_1 b37_2
def f37 : IFn := { body := b37, params := 3, res := [(6, some (some 2))], pop := false, keep := false }
theorem ok37 : okFn Tryd.prog 37 f37 = true := by kernel_rfl

-- (*resolvent/pos.table).with
def b38_0 : C :=
  .seq (.reg [⟨(some 32), .fieldAddr 1 1 (.t 9), none⟩,
     ⟨(some 33), .load none (.t 32), none⟩,
     ⟨(some 8), .mov (.t 33), none⟩] [8])
  (.ret)
def d38_1 : List (IOper × Nat × Nat) :=
  [(⟨(some 40), .mov (.t 0), none⟩, 0, 0),
    (⟨(some 41), .fieldAddr 0 1 (.t 9), none⟩, 0, 0),
    (⟨(some 42), .load none (.t 41), none⟩, 0, 2),
    (⟨(some 43), .mov (.t 10), none⟩, 0, 0),
    (⟨(some 44), .mov (.t 0), none⟩, 0, 0),
    (⟨(some 45), .fieldAddr 2 1 (.t 9), none⟩, 0, 0),
    (⟨(some 46), .load none (.t 45), none⟩, 0, 1),
    (⟨(some 47), .mov (.t 2), none⟩, 0, 0),
    (⟨(some 48), .mov (.t 3), none⟩, 0, 0),
    (⟨(some 49), .call (.f 38) [(.t 44), (.t 46), (.t 47), (.t 48)] false, none⟩, 0, 0),
    (⟨(some 50), .build [(.int .i64 0), (.int .i64 0), (.int .i64 0)] [(0, 1, (.t 42)), (1, 1, (.t 43)), (2, 1, (.t 49))], none⟩, 0, 0),
    (⟨(some 51), .call (.f 35) [(.t 40), (.t 50)] false, none⟩, 0, 0),
    (⟨(some 8), .mov (.t 51), none⟩, 0, 0)]
def b38_2 : C :=
  .seq (.reg [⟨(some 34), .mov (.t 0), none⟩,
     ⟨(some 35), .fieldAddr 1 1 (.t 9), none⟩,
     ⟨(some 36), .load none (.t 35), none⟩,
     ⟨(some 37), .mov (.t 2), none⟩,
     ⟨(some 38), .mov (.t 3), none⟩,
     ⟨(some 39), .call (.f 38) [(.t 34), (.t 36), (.t 37), (.t 38)] false, none⟩,
     ⟨(some 10), .mov (.t 39), none⟩] [0, 2, 3, 9, 10])
  (.seq (.regD d38_1 [8])
  (.ret))
def c38_3 (b38_0 b38_2 : C) : C :=
  .seq (.reg [⟨(some 17), .mov (.t 0), none⟩,
     ⟨(some 18), .nilCheck (.t 17), none⟩,
     ⟨(some 19), .fieldAddr 0 1 (.t 18), none⟩,
     ⟨(some 20), .load none (.t 19), none⟩,
     ⟨(some 21), .mov (.t 1), none⟩,
     ⟨(some 22), .bin .sub (.t 21) (.k (.int .i64 2)), none⟩,
     ⟨(some 23), .indexAddr 3 (.t 20) (.t 22), none⟩,
     ⟨(some 24), .load (some 3) (.t 23), none⟩,
     ⟨(some 9), .new [(.int .i64 0), (.int .i64 0), (.int .i64 0)], none⟩,
     ⟨none, .store 3 (.t 9) (.t 24), none⟩] [0, 2, 3, 9])
  (.seqT (.seq (.reg [⟨(some 25), .fieldAddr 0 1 (.t 9), none⟩,
      ⟨(some 26), .load none (.t 25), none⟩,
      ⟨(some 27), .mov (.t 2), none⟩,
      ⟨(some 28), .bin .eql (.t 26) (.t 27), none⟩] [0, 2, 3, 9, 28])
   (.cond (.t 28) (.seqT (.seq (.reg [⟨(some 29), .mov (.t 3), none⟩] [9, 29])
     (.cond (.t 29) (.seq (.reg [⟨(some 30), .fieldAddr 2 1 (.t 9), none⟩,
         ⟨(some 31), .load none (.t 30), none⟩,
         ⟨(some 8), .mov (.t 31), none⟩] [8])
      (.ret))
     (.skip))) [9] b38_0)
   (.skip))) [0, 2, 3, 9] b38_2)
def b38_3 : C := c38_3 b38_0 b38_2
def c38 (b38_3 : C) : C :=
  .seq (.reg [⟨(some 8), .mov (.k (.int .i64 0)), none⟩] [0, 1, 2, 3])
  (.seqT (.seq (.reg [⟨(some 11), .mov (.t 0), none⟩,
      ⟨(some 12), .mov (.t 1), none⟩,
      ⟨(some 13), .call (.f 45) [(.t 11), (.t 12)] false, none⟩,
      ⟨(some 14), .mov (.t 2), none⟩,
      ⟨(some 15), .bin .gtr (.t 13) (.t 14), none⟩] [0, 1, 2, 3, 15])
   (.cond (.t 15) (.seq (.reg [⟨(some 16), .mov (.t 1), none⟩,
       ⟨(some 8), .mov (.t 16), none⟩] [8])
    (.ret))
   (.skip))) [0, 1, 2, 3] b38_3)
def b38 : C := c38 b38_3
def f38 : IFn := { body := b38, params := 4, res := [(8, none)], pop := false, keep := false }
theorem ok38 : okFn Tryd.prog 38 f38 = true := by kernel_rfl

-- resolvent/resolventlaw16.tables
def b39_0 : C :=
  .seq (.reg [⟨(some 28), .load (some 2) (.t 5), none⟩,
     ⟨none, .store 2 (.t 4) (.t 28), none⟩] [4])
  (.ret)
def c39 (b39_0 : C) : C :=
  .seq (.reg [⟨(some 2), .box (.t 0), none⟩,
     ⟨(some 4), .new [(.int .u64 0), (.int .u64 0)], none⟩] [1, 2, 4])
  (.seq (.reg [⟨(some 6), .build [(.int .u64 0), (.int .u64 0)] [], none⟩,
     ⟨(some 5), .new [(.int .u64 0), (.int .u64 0)], none⟩,
     ⟨none, .store 2 (.t 5) (.t 6), none⟩] [1, 2, 4, 5])
  (.seqT (.seq (.reg [⟨(some 7), .mov (.t 1), none⟩,
      ⟨(some 8), .len 1 (.t 7), none⟩,
      ⟨(some 9), .bin .gtr (.t 8) (.k (.int .i64 0)), none⟩] [1, 2, 4, 5, 9])
   (.cond (.t 9) (.seq (.reg [⟨(some 10), .mov (.t 1), none⟩,
       ⟨(some 11), .fieldAddr 2 1 (.t 2), none⟩,
       ⟨(some 12), .load none (.t 11), none⟩,
       ⟨(some 13), .mov (.t 1), none⟩,
       ⟨(some 14), .len 1 (.t 13), none⟩,
       ⟨(some 15), .call (.f 12) [(.t 12), (.t 14)] false, none⟩,
       ⟨(some 16), .indexAddr 1 (.t 10) (.t 15), none⟩,
       ⟨(some 17), .load none (.t 16), none⟩,
       ⟨(some 18), .indexAddrA 2 1 (.t 5) (.k (.int .i64 0)), none⟩,
       ⟨none, .store 1 (.t 18) (.t 17), none⟩] [1, 2, 4, 5])
    (.reg [⟨(some 19), .mov (.t 1), none⟩,
      ⟨(some 20), .fieldAddr 3 1 (.t 2), none⟩,
      ⟨(some 21), .load none (.t 20), none⟩,
      ⟨(some 22), .mov (.t 1), none⟩,
      ⟨(some 23), .len 1 (.t 22), none⟩,
      ⟨(some 24), .call (.f 12) [(.t 21), (.t 23)] false, none⟩,
      ⟨(some 25), .indexAddr 1 (.t 19) (.t 24), none⟩,
      ⟨(some 26), .load none (.t 25), none⟩,
      ⟨(some 27), .indexAddrA 2 1 (.t 5) (.k (.int .i64 1)), none⟩,
      ⟨none, .store 1 (.t 27) (.t 26), none⟩] [4, 5]))
   (.skip))) [4, 5] b39_0))
def b39 : C := c39 b39_0
def f39 : IFn := { body := b39, params := 2, res := [(4, some (some 2))], pop := false, keep := false }
theorem ok39 : okFn Tryd.prog 39 f39 = true := by kernel_rfl

-- resolvent/resolventlaw16.renamed
def d40_0 : List (IOper × Nat × Nat) :=
  [(⟨(some 38), .mov (.t 8), none⟩, 0, 0),
    (⟨(some 39), .mov (.t 10), none⟩, 0, 0),
    (⟨(some 40), .indexAddr 1 (.t 38) (.t 39), none⟩, 0, 0),
    (⟨(some 41), .load none (.t 40), none⟩, 0, 1),
    (⟨(some 42), .fieldAddr 4 1 (.t 3), none⟩, 0, 0),
    (⟨(some 43), .load none (.t 42), none⟩, 0, 1),
    (⟨(some 44), .mov (.t 9), none⟩, 0, 0),
    (⟨(some 45), .indexAddr 1 (.t 43) (.t 44), none⟩, 0, 0),
    (⟨(some 46), .load none (.t 45), none⟩, 0, 1),
    (⟨(some 47), .bin .eql (.t 41) (.t 46), none⟩, 0, 0)]
def b40_1 : C :=
  .reg [⟨(some 36), .mov (.t 10), none⟩,
    ⟨(some 37), .bin .add (.t 36) (.k (.int .i64 1)), none⟩,
    ⟨(some 10), .mov (.t 37), none⟩] [1, 2, 3, 7, 8, 9, 10]
def c40_2 (b40_1 : C) : C :=
  .seqT (.block 3 (.seq (.regD d40_0 [1, 2, 3, 7, 8, 9, 10, 47])
    (.cond (.t 47) (.seq (.reg [⟨(some 6), .mov (.k (.bool true)), none⟩] [6])
     (.ret))
    (.skip)))) [1, 2, 3, 7, 8, 9, 10] b40_1
def b40_2 : C := c40_2 b40_1
def c40_3 (b40_2 : C) : C :=
  .seqT (.seq (.reg [⟨(some 32), .mov (.t 10), none⟩,
      ⟨(some 33), .mov (.t 8), none⟩,
      ⟨(some 34), .len 1 (.t 33), none⟩,
      ⟨(some 35), .bin .lss (.t 32) (.t 34), none⟩] [1, 2, 3, 7, 8, 9, 10, 35])
   (.cond (.t 35) (.skip)
   (.exit 2))) [1, 2, 3, 7, 8, 9, 10] b40_2
def b40_3 : C := c40_3 b40_2
def b40_4 : C :=
  .seq (.reg [⟨(some 48), .mov (.t 8), none⟩,
     ⟨(some 49), .fieldAddr 4 1 (.t 3), none⟩,
     ⟨(some 50), .load none (.t 49), none⟩,
     ⟨(some 51), .mov (.t 9), none⟩,
     ⟨(some 52), .indexAddr 1 (.t 50) (.t 51), none⟩,
     ⟨(some 53), .load none (.t 52), none⟩,
     ⟨(some 54), .buildSlice 1 [(.int .i64 0)] 1 [(0, (.t 53))] false, none⟩,
     ⟨(some 55), .append 1 8 (.t 48) (.t 54) 0, none⟩,
     ⟨(some 8), .mov (.t 55), none⟩] [1, 2, 3, 7, 8, 9])
  (.seq (.reg [⟨(some 56), .mov (.t 2), none⟩,
     ⟨(some 57), .fieldAddr 4 1 (.t 3), none⟩,
     ⟨(some 58), .load none (.t 57), none⟩,
     ⟨(some 59), .mov (.t 9), none⟩,
     ⟨(some 60), .indexAddr 1 (.t 58) (.t 59), none⟩,
     ⟨(some 61), .load none (.t 60), none⟩,
     ⟨(some 62), .call (.f 7) [(.t 56), (.t 61)] false, none⟩] [1, 2, 3, 7, 8, 9, 62])
  (.cond (.t 62) (.reg [⟨(some 63), .mov (.t 7), none⟩,
     ⟨(some 64), .mov (.t 9), none⟩,
     ⟨(some 65), .bin .shl (.k (.int .i64 1)) (.t 64), none⟩,
     ⟨(some 66), .bin .or (.t 63) (.t 65), none⟩,
     ⟨(some 7), .mov (.t 66), none⟩] [1, 2, 3, 7, 8, 9])
  (.skip)))
def c40_5 (b40_3 b40_4 : C) : C :=
  .seqT (.seq (.reg [⟨(some 10), .mov (.k (.int .i64 0)), none⟩] [1, 2, 3, 7, 8, 9, 10])
   (.block 2 (.loop [1, 2, 3, 7, 8, 9, 10] false b40_3))) [1, 2, 3, 7, 8, 9] b40_4
def b40_5 : C := c40_5 b40_3 b40_4
def c40_6 (b40_5 : C) : C :=
  .seqT (.seq (.reg [⟨(some 19), .mov (.t 9), none⟩,
      ⟨(some 20), .fieldAddr 4 1 (.t 3), none⟩,
      ⟨(some 21), .load none (.t 20), none⟩,
      ⟨(some 22), .len 1 (.t 21), none⟩,
      ⟨(some 23), .bin .geq (.t 19) (.t 22), none⟩,
      ⟨(some 24), .mov (.t 23), none⟩,
      ⟨(some 25), .fieldAddr 4 1 (.t 3), some (24, false)⟩,
      ⟨(some 26), .load none (.t 25), some (24, false)⟩,
      ⟨(some 27), .mov (.t 9), some (24, false)⟩,
      ⟨(some 28), .indexAddr 1 (.t 26) (.t 27), some (24, false)⟩,
      ⟨(some 29), .load none (.t 28), some (24, false)⟩,
      ⟨(some 30), .bin .lss (.t 29) (.k (.int .i64 0)), some (24, false)⟩,
      ⟨(some 31), .pick (.t 24) (.k (.bool true)) (.t 30), none⟩] [1, 2, 3, 7, 8, 9, 31])
   (.cond (.t 31) (.seq (.reg [⟨(some 6), .mov (.k (.bool true)), none⟩] [6])
    (.ret))
   (.skip))) [1, 2, 3, 7, 8, 9] b40_5
def b40_6 : C := c40_6 b40_5
def b40_7 : C :=
  .reg [⟨(some 13), .mov (.t 9), none⟩,
    ⟨(some 14), .bin .add (.t 13) (.k (.int .i64 1)), none⟩,
    ⟨(some 9), .mov (.t 14), none⟩] [1, 2, 3, 7, 8, 9]
def c40_8 (b40_6 b40_7 : C) : C :=
  .seqT (.block 1 (.seqT (.seq (.reg [⟨(some 15), .mov (.t 1), none⟩,
        ⟨(some 16), .mov (.t 9), none⟩,
        ⟨(some 17), .call (.f 51) [(.t 15), (.t 16)] false, none⟩,
        ⟨(some 18), .un .not (.t 17), none⟩] [1, 2, 3, 7, 8, 9, 18])
     (.cond (.t 18) (.exit 1)
     (.skip))) [1, 2, 3, 7, 8, 9] b40_6)) [1, 2, 3, 7, 8, 9] b40_7
def b40_8 : C := c40_8 b40_6 b40_7
def c40_9 (b40_8 : C) : C :=
  .seqT (.seq (.reg [⟨(some 11), .mov (.t 9), none⟩,
      ⟨(some 12), .bin .lss (.t 11) (.k (.int .i64 6)), none⟩] [1, 2, 3, 7, 8, 9, 12])
   (.cond (.t 12) (.skip)
   (.exit 0))) [1, 2, 3, 7, 8, 9] b40_8
def b40_9 : C := c40_9 b40_8
def b40_10 : C :=
  .seq (.reg [⟨(some 67), .mov (.t 1), none⟩,
     ⟨(some 68), .mov (.t 7), none⟩,
     ⟨(some 69), .bin .shr (.t 67) (.t 68), none⟩,
     ⟨(some 70), .bin .and (.t 69) (.k (.int .u64 1)), none⟩,
     ⟨(some 71), .bin .eql (.t 70) (.k (.int .u64 1)), none⟩,
     ⟨(some 6), .mov (.t 71), none⟩] [6])
  (.ret)
def c40 (b40_9 b40_10 : C) : C :=
  .seq (.reg [⟨(some 3), .box (.t 0), none⟩,
     ⟨(some 6), .mov (.k (.bool false)), none⟩] [1, 2, 3])
  (.seq (.reg [⟨(some 7), .mov (.k (.int .i64 0)), none⟩] [1, 2, 3, 7])
  (.seq (.reg [⟨(some 8), .tipNew 1, none⟩] [1, 2, 3, 7, 8])
  (.seqT (.seq (.reg [⟨(some 9), .mov (.k (.int .i64 0)), none⟩] [1, 2, 3, 7, 8, 9])
   (.block 0 (.loop [1, 2, 3, 7, 8, 9] false b40_9))) [1, 7] b40_10)))
def b40 : C := c40 b40_9 b40_10
def f40 : IFn := { body := b40, params := 3, res := [(6, none)], pop := false, keep := false }
theorem ok40 : okFn Tryd.prog 40 f40 = true := by kernel_rfl

-- slices.Index[[]int,int]
def b43_0 : C :=
  .reg [⟨(some 18), .bin .add (.t 8) (.k (.int .i64 1)), none⟩,
    ⟨(some 8), .mov (.t 18), none⟩] [0, 1, 7, 8]
def c43_1 (b43_0 : C) : C :=
  .seqT (.block 1 (.seq (.reg [⟨(some 10), .mov (.t 8), none⟩,
       ⟨(some 5), .mov (.t 10), none⟩] [0, 1, 5, 7, 8])
    (.seq (.reg [⟨(some 11), .mov (.t 1), none⟩,
       ⟨(some 12), .mov (.t 0), none⟩,
       ⟨(some 13), .mov (.t 5), none⟩,
       ⟨(some 14), .indexAddr 1 (.t 12) (.t 13), none⟩,
       ⟨(some 15), .load none (.t 14), none⟩,
       ⟨(some 16), .bin .eql (.t 11) (.t 15), none⟩] [0, 1, 5, 7, 8, 16])
    (.cond (.t 16) (.seq (.reg [⟨(some 17), .mov (.t 5), none⟩,
        ⟨(some 4), .mov (.t 17), none⟩] [4])
     (.ret))
    (.skip))))) [0, 1, 7, 8] b43_0
def b43_1 : C := c43_1 b43_0
def c43_2 (b43_1 : C) : C :=
  .seq (.reg [⟨(some 9), .bin .lss (.t 8) (.t 7), none⟩] [0, 1, 7, 8, 9])
  (.seqT (.cond (.t 9) (.skip)
   (.exit 0)) [0, 1, 7, 8] b43_1)
def b43_2 : C := c43_2 b43_1
def b43_3 : C :=
  .seq (.reg [⟨(some 4), .mov (.k (.int .i64 (-1))), none⟩] [4])
  (.ret)
def c43 (b43_2 b43_3 : C) : C :=
  .seq (.reg [⟨(some 4), .mov (.k (.int .i64 0)), none⟩] [0, 1])
  (.seqT (.seq (.reg [⟨(some 6), .mov (.t 0), none⟩,
      ⟨(some 7), .len 1 (.t 6), none⟩,
      ⟨(some 8), .mov (.k (.int .i64 0)), none⟩] [0, 1, 7, 8])
   (.block 0 (.loop [0, 1, 7, 8] false b43_2))) [] b43_3)
def b43 : C := c43 b43_2 b43_3
def f43 : IFn := { body := b43, params := 2, res := [(4, none)], pop := false, keep := false }
theorem ok43 : okFn Tryd.prog 43 f43 = true := by kernel_rfl

-- (*resolvent/pos.table).both$1
def d44_0 : List (IOper × Nat × Nat) :=
  [(⟨(some 40), .load none (.t 4), none⟩, 0, 1),
    (⟨(some 41), .mov (.t 0), none⟩, 0, 0),
    (⟨(some 42), .call (.f 45) [(.t 40), (.t 41)] false, none⟩, 0, 0),
    (⟨(some 43), .load none (.t 4), none⟩, 0, 2),
    (⟨(some 44), .mov (.t 1), none⟩, 0, 0),
    (⟨(some 45), .call (.f 45) [(.t 43), (.t 44)] false, none⟩, 0, 0),
    (⟨(some 46), .min2 (.t 42) (.t 45), none⟩, 0, 0),
    (⟨(some 14), .mov (.t 46), none⟩, 0, 0)]
def d44_1 : List (IOper × Nat × Nat) :=
  [(⟨(some 65), .load none (.t 3), none⟩, 0, 3),
    (⟨(some 66), .load (some 2) (.t 11), none⟩, 0, 3),
    (⟨(some 67), .load none (.t 4), none⟩, 0, 2),
    (⟨(some 68), .mov (.t 14), none⟩, 0, 0),
    (⟨(some 69), .mov (.t 19), none⟩, 0, 0),
    (⟨(some 70), .load none (.t 5), none⟩, 0, 1),
    (⟨(some 71), .mov (.t 16), none⟩, 0, 0),
    (⟨(some 72), .mov (.t 18), none⟩, 0, 0),
    (⟨(some 73), .call (.t 70) [(.t 71), (.t 72)] false, none⟩, 0, 0),
    (⟨(some 74), .build [(.int .i64 0), (.int .i64 0), (.int .i64 0)] [(0, 1, (.t 68)), (1, 1, (.t 69)), (2, 1, (.t 73))], none⟩, 0, 0),
    (⟨(some 75), .call (.f 35) [(.t 67), (.t 74)] false, none⟩, 0, 0),
    (⟨none, .mapUpdate ⟨[.i, .i], true⟩ (.t 65) (.t 66) (.t 75), none⟩, 0, 0)]
def b44_2 : C :=
  .seq (.regD d44_0 [0, 1, 3, 4, 5, 11, 14])
  (.seq (.reg [⟨(some 48), .load none (.t 4), none⟩,
     ⟨(some 49), .mov (.t 0), none⟩,
     ⟨(some 50), .mov (.t 14), none⟩,
     ⟨(some 51), .call (.f 46) [(.t 48), (.t 49), (.t 50)] false, none⟩,
     ⟨(some 47), .mov (.t 51), none⟩,
     ⟨(some 52), .extract (.t 47) 0, none⟩,
     ⟨(some 53), .extract (.t 47) 1, none⟩,
     ⟨(some 15), .mov (.t 52), none⟩,
     ⟨(some 16), .mov (.t 53), none⟩] [1, 3, 4, 5, 11, 14, 15, 16])
  (.seq (.reg [⟨(some 55), .load none (.t 4), none⟩,
     ⟨(some 56), .mov (.t 1), none⟩,
     ⟨(some 57), .mov (.t 14), none⟩,
     ⟨(some 58), .call (.f 46) [(.t 55), (.t 56), (.t 57)] false, none⟩,
     ⟨(some 54), .mov (.t 58), none⟩,
     ⟨(some 59), .extract (.t 54) 0, none⟩,
     ⟨(some 60), .extract (.t 54) 1, none⟩,
     ⟨(some 17), .mov (.t 59), none⟩,
     ⟨(some 18), .mov (.t 60), none⟩] [3, 4, 5, 11, 14, 15, 16, 17, 18])
  (.seq (.reg [⟨(some 61), .load none (.t 5), none⟩,
     ⟨(some 62), .mov (.t 15), none⟩,
     ⟨(some 63), .mov (.t 17), none⟩,
     ⟨(some 64), .call (.t 61) [(.t 62), (.t 63)] false, none⟩,
     ⟨(some 19), .mov (.t 64), none⟩] [3, 4, 5, 11, 14, 16, 18, 19])
  (.seq (.regD d44_1 [3, 11])
  (.seq (.reg [⟨(some 76), .load none (.t 3), none⟩,
     ⟨(some 77), .load (some 2) (.t 11), none⟩,
     ⟨(some 78), .lookup ⟨[.i, .i], true⟩ (.int .i64 0) false (.t 76) (.t 77), none⟩,
     ⟨(some 8), .mov (.t 78), none⟩] [8])
  (.ret))))))
def c44_3 (b44_2 : C) : C :=
  .seq (.reg [⟨(some 29), .mov (.t 0), none⟩,
     ⟨(some 30), .mov (.t 1), none⟩,
     ⟨(some 31), .build [(.int .i64 0), (.int .i64 0)] [(0, 1, (.t 29)), (1, 1, (.t 30))], none⟩,
     ⟨(some 11), .new [(.int .i64 0), (.int .i64 0)], none⟩,
     ⟨none, .store 2 (.t 11) (.t 31), none⟩] [0, 1, 3, 4, 5, 11])
  (.seqT (.seq (.reg [⟨(some 33), .load none (.t 3), none⟩,
      ⟨(some 34), .load (some 2) (.t 11), none⟩,
      ⟨(some 35), .lookup ⟨[.i, .i], true⟩ (.int .i64 0) true (.t 33) (.t 34), none⟩,
      ⟨(some 32), .mov (.t 35), none⟩,
      ⟨(some 36), .extract (.t 32) 0, none⟩,
      ⟨(some 37), .extract (.t 32) 1, none⟩,
      ⟨(some 12), .mov (.t 36), none⟩,
      ⟨(some 13), .mov (.t 37), none⟩] [0, 1, 3, 4, 5, 11, 12, 13])
   (.seq (.reg [⟨(some 38), .mov (.t 13), none⟩] [0, 1, 3, 4, 5, 11, 12, 38])
   (.cond (.t 38) (.seq (.reg [⟨(some 39), .mov (.t 12), none⟩,
       ⟨(some 8), .mov (.t 39), none⟩] [8])
    (.ret))
   (.skip)))) [0, 1, 3, 4, 5, 11] b44_2)
def b44_3 : C := c44_3 b44_2
def c44 (b44_3 : C) : C :=
  .seq (.reg [⟨(some 8), .mov (.k (.int .i64 0)), none⟩] [0, 1, 2, 3, 4, 5])
  (.seqT (.seq (.reg [⟨(some 21), .load none (.t 2), none⟩,
      ⟨(some 22), .mov (.t 0), none⟩,
      ⟨(some 23), .mov (.t 1), none⟩,
      ⟨(some 24), .call (.t 21) [(.t 22), (.t 23)] false, none⟩,
      ⟨(some 20), .mov (.t 24), none⟩,
      ⟨(some 25), .extract (.t 20) 0, none⟩,
      ⟨(some 26), .extract (.t 20) 1, none⟩,
      ⟨(some 9), .mov (.t 25), none⟩,
      ⟨(some 10), .mov (.t 26), none⟩] [0, 1, 3, 4, 5, 9, 10])
   (.seq (.reg [⟨(some 27), .mov (.t 10), none⟩] [0, 1, 3, 4, 5, 9, 27])
   (.cond (.t 27) (.seq (.reg [⟨(some 28), .mov (.t 9), none⟩,
       ⟨(some 8), .mov (.t 28), none⟩] [8])
    (.ret))
   (.skip)))) [0, 1, 3, 4, 5] b44_3)
def b44 : C := c44 b44_3
def f44 : IFn := { body := b44, params := 6, res := [(8, none)], pop := false, keep := false }
theorem ok44 : okFn Tryd.prog 44 f44 = true := by kernel_rfl

-- (*resolvent/pos.table).top
def b45_0 : C :=
  .seq (.reg [⟨(some 7), .mov (.t 0), none⟩,
     ⟨(some 8), .nilCheck (.t 7), none⟩,
     ⟨(some 9), .fieldAddr 0 1 (.t 8), none⟩,
     ⟨(some 10), .load none (.t 9), none⟩,
     ⟨(some 11), .mov (.t 1), none⟩,
     ⟨(some 12), .bin .sub (.t 11) (.k (.int .i64 2)), none⟩,
     ⟨(some 13), .indexAddr 3 (.t 10) (.t 12), none⟩,
     ⟨(some 14), .fieldAddr 0 1 (.t 13), none⟩,
     ⟨(some 15), .load none (.t 14), none⟩,
     ⟨(some 4), .mov (.t 15), none⟩] [4])
  (.ret)
def c45 (b45_0 : C) : C :=
  .seq (.reg [⟨(some 4), .mov (.k (.int .i64 0)), none⟩] [0, 1])
  (.seqT (.seq (.reg [⟨(some 5), .mov (.t 1), none⟩,
      ⟨(some 6), .bin .lss (.t 5) (.k (.int .i64 2)), none⟩] [0, 1, 6])
   (.cond (.t 6) (.seq (.reg [⟨(some 4), .mov (.k (.int .i64 9223372036854775807)), none⟩] [4])
    (.ret))
   (.skip))) [0, 1] b45_0)
def b45 : C := c45 b45_0
def f45 : IFn := { body := b45, params := 2, res := [(4, none)], pop := false, keep := false }
theorem ok45 : okFn Tryd.prog 45 f45 = true := by kernel_rfl

-- (*resolvent/pos.table).ways
def d46_0 : List (IOper × Nat × Nat) :=
  [(⟨(some 15), .mov (.t 0), none⟩, 0, 0),
    (⟨(some 16), .nilCheck (.t 15), none⟩, 0, 0),
    (⟨(some 17), .fieldAddr 0 1 (.t 16), none⟩, 0, 0),
    (⟨(some 18), .load none (.t 17), none⟩, 0, 1),
    (⟨(some 19), .mov (.t 1), none⟩, 0, 0),
    (⟨(some 20), .bin .sub (.t 19) (.k (.int .i64 2)), none⟩, 0, 0),
    (⟨(some 21), .indexAddr 3 (.t 18) (.t 20), none⟩, 0, 0),
    (⟨(some 22), .fieldAddr 1 1 (.t 21), none⟩, 0, 0),
    (⟨(some 23), .load none (.t 22), none⟩, 0, 1),
    (⟨(some 24), .mov (.t 0), none⟩, 0, 0),
    (⟨(some 25), .nilCheck (.t 24), none⟩, 0, 0),
    (⟨(some 26), .fieldAddr 0 1 (.t 25), none⟩, 0, 0),
    (⟨(some 27), .load none (.t 26), none⟩, 0, 1),
    (⟨(some 28), .mov (.t 1), none⟩, 0, 0),
    (⟨(some 29), .bin .sub (.t 28) (.k (.int .i64 2)), none⟩, 0, 0),
    (⟨(some 30), .indexAddr 3 (.t 27) (.t 29), none⟩, 0, 0),
    (⟨(some 31), .fieldAddr 2 1 (.t 30), none⟩, 0, 0),
    (⟨(some 32), .load none (.t 31), none⟩, 0, 1),
    (⟨(some 6), .mov (.t 23), none⟩, 0, 0),
    (⟨(some 7), .mov (.t 32), none⟩, 0, 0)]
def b46_1 : C :=
  .seq (.regD d46_0 [6, 7])
  (.ret)
def c46 (b46_1 : C) : C :=
  .seq (.reg [⟨(some 6), .mov (.k (.int .i64 0)), none⟩,
     ⟨(some 7), .mov (.k (.int .i64 0)), none⟩] [0, 1, 2])
  (.seqT (.seq (.reg [⟨(some 8), .mov (.t 0), none⟩,
      ⟨(some 9), .mov (.t 1), none⟩,
      ⟨(some 10), .call (.f 45) [(.t 8), (.t 9)] false, none⟩,
      ⟨(some 11), .mov (.t 2), none⟩,
      ⟨(some 12), .bin .neq (.t 10) (.t 11), none⟩] [0, 1, 12])
   (.cond (.t 12) (.seq (.reg [⟨(some 13), .mov (.t 1), none⟩,
       ⟨(some 14), .mov (.t 1), none⟩,
       ⟨(some 6), .mov (.t 13), none⟩,
       ⟨(some 7), .mov (.t 14), none⟩] [6, 7])
    (.ret))
   (.skip))) [0, 1] b46_1)
def b46 : C := c46 b46_1
def f46 : IFn := { body := b46, params := 3, res := [(6, none), (7, none)], pop := false, keep := false }
theorem ok46 : okFn Tryd.prog 46 f46 = true := by kernel_rfl

-- resolvent/pos.bit
def b47_0 : C :=
  .seq (.reg [⟨(some 2), .mov (.k (.int .i64 0)), none⟩] [2])
  (.ret)
def c47 (b47_0 : C) : C :=
  .seq (.reg [⟨(some 2), .mov (.k (.int .i64 0)), none⟩] [0])
  (.seqT (.seq (.reg [⟨(some 3), .mov (.t 0), none⟩] [3])
   (.cond (.t 3) (.seq (.reg [⟨(some 2), .mov (.k (.int .i64 1)), none⟩] [2])
    (.ret))
   (.skip))) [] b47_0)
def b47 : C := c47 b47_0
def f47 : IFn := { body := b47, params := 1, res := [(2, none)], pop := false, keep := false }
theorem ok47 : okFn Tryd.prog 47 f47 = true := by kernel_rfl

-- internal/strconv.FormatBool
def b48_0 : C :=
  .seq (.reg [⟨(some 2), .mov (.k (.str ⟨#[102, 97, 108, 115, 101]⟩)), none⟩] [2])
  (.ret)
def c48 (b48_0 : C) : C :=
  .seq (.reg [⟨(some 2), .mov (.k (.str ⟨#[]⟩)), none⟩] [0])
  (.seqT (.seq (.reg [⟨(some 3), .mov (.t 0), none⟩] [3])
   (.cond (.t 3) (.seq (.reg [⟨(some 2), .mov (.k (.str ⟨#[116, 114, 117, 101]⟩)), none⟩] [2])
    (.ret))
   (.skip))) [] b48_0)
def b48 : C := c48 b48_0
def f48 : IFn := { body := b48, params := 1, res := [(2, none)], pop := false, keep := false }
theorem ok48 : okFn Tryd.prog 48 f48 = true := by kernel_rfl

-- (*resolvent/pos.table).take$1
def b50_0 : C :=
  .seq (.reg [⟨(some 20), .load none (.t 2), none⟩,
     ⟨(some 21), .nilCheck (.t 20), none⟩,
     ⟨(some 22), .fieldAddr 0 1 (.t 21), none⟩,
     ⟨(some 23), .load none (.t 22), none⟩,
     ⟨(some 24), .mov (.t 0), none⟩,
     ⟨(some 25), .bin .sub (.t 24) (.k (.int .i64 2)), none⟩,
     ⟨(some 26), .indexAddr 3 (.t 23) (.t 25), none⟩,
     ⟨(some 27), .load (some 3) (.t 26), none⟩,
     ⟨(some 9), .new [(.int .i64 0), (.int .i64 0), (.int .i64 0)], none⟩,
     ⟨none, .store 3 (.t 9) (.t 27), none⟩] [0, 1, 3, 4, 9])
  (.seq (.reg [⟨(some 28), .load none (.t 3), none⟩,
     ⟨(some 29), .fieldAddr 1 1 (.t 9), none⟩,
     ⟨(some 30), .load none (.t 29), none⟩,
     ⟨(some 31), .call (.t 28) [(.t 30)] false, none⟩,
     ⟨(some 10), .mov (.t 31), none⟩] [0, 1, 3, 4, 9, 10])
  (.seq (.reg [⟨(some 32), .load none (.t 3), none⟩,
     ⟨(some 33), .fieldAddr 2 1 (.t 9), none⟩,
     ⟨(some 34), .load none (.t 33), none⟩,
     ⟨(some 35), .call (.t 32) [(.t 34)] false, none⟩,
     ⟨(some 11), .mov (.t 35), none⟩] [0, 1, 4, 9, 10, 11])
  (.seq (.reg [⟨(some 36), .fieldAddr 0 1 (.t 4), none⟩,
     ⟨(some 37), .load none (.t 36), none⟩,
     ⟨(some 38), .fieldAddr 0 1 (.t 9), none⟩,
     ⟨(some 39), .load none (.t 38), none⟩,
     ⟨(some 40), .mov (.t 10), none⟩,
     ⟨(some 41), .mov (.t 11), none⟩,
     ⟨(some 42), .build [(.int .i64 0), (.int .i64 0), (.int .i64 0)] [(0, 1, (.t 39)), (1, 1, (.t 40)), (2, 1, (.t 41))], none⟩,
     ⟨(some 43), .buildSlice 3 [(.int .i64 0), (.int .i64 0), (.int .i64 0)] 1 [(0, (.t 42))] false, none⟩,
     ⟨(some 44), .append 3 24 (.t 37) (.t 43) 0, none⟩,
     ⟨(some 45), .fieldAddr 0 1 (.t 4), none⟩,
     ⟨none, .store 1 (.t 45) (.t 44), none⟩] [0, 1, 4])
  (.seq (.reg [⟨(some 46), .load none (.t 1), none⟩,
     ⟨(some 47), .mov (.t 0), none⟩,
     ⟨(some 48), .fieldAddr 0 1 (.t 4), none⟩,
     ⟨(some 49), .load none (.t 48), none⟩,
     ⟨(some 50), .len 1 (.t 49), none⟩,
     ⟨(some 51), .bin .add (.t 50) (.k (.int .i64 1)), none⟩,
     ⟨none, .mapUpdate ⟨[.i], false⟩ (.t 46) (.t 47) (.t 51), none⟩] [0, 1])
  (.seq (.reg [⟨(some 52), .load none (.t 1), none⟩,
     ⟨(some 53), .mov (.t 0), none⟩,
     ⟨(some 54), .lookup ⟨[.i], false⟩ (.int .i64 0) false (.t 52) (.t 53), none⟩,
     ⟨(some 6), .mov (.t 54), none⟩] [6])
  (.ret))))))
def c50 (b50_0 : C) : C :=
  .seq (.reg [⟨(some 6), .mov (.k (.int .i64 0)), none⟩] [0, 1, 2, 3, 4])
  (.seqT (.seq (.reg [⟨(some 13), .load none (.t 1), none⟩,
      ⟨(some 14), .mov (.t 0), none⟩,
      ⟨(some 15), .lookup ⟨[.i], false⟩ (.int .i64 0) true (.t 13) (.t 14), none⟩,
      ⟨(some 12), .mov (.t 15), none⟩,
      ⟨(some 16), .extract (.t 12) 0, none⟩,
      ⟨(some 17), .extract (.t 12) 1, none⟩,
      ⟨(some 7), .mov (.t 16), none⟩,
      ⟨(some 8), .mov (.t 17), none⟩] [0, 1, 2, 3, 4, 7, 8])
   (.seq (.reg [⟨(some 18), .mov (.t 8), none⟩] [0, 1, 2, 3, 4, 7, 18])
   (.cond (.t 18) (.seq (.reg [⟨(some 19), .mov (.t 7), none⟩,
       ⟨(some 6), .mov (.t 19), none⟩] [6])
    (.ret))
   (.skip)))) [0, 1, 2, 3, 4] b50_0)
def b50 : C := c50 b50_0
def f50 : IFn := { body := b50, params := 5, res := [(6, none)], pop := false, keep := false }
theorem ok50 : okFn Tryd.prog 50 f50 = true := by kernel_rfl

-- resolvent/resolventlaw16.hangs
def d51_0 : List (IOper × Nat × Nat) :=
  [(⟨(some 10), .mov (.t 0), none⟩, 0, 0),
    (⟨(some 11), .mov (.t 5), none⟩, 0, 0),
    (⟨(some 12), .mov (.t 1), none⟩, 0, 0),
    (⟨(some 13), .bin .shl (.k (.int .i64 1)) (.t 12), none⟩, 0, 0),
    (⟨(some 14), .bin .or (.t 11) (.t 13), none⟩, 0, 0),
    (⟨(some 15), .bin .shr (.t 10) (.t 14), none⟩, 0, 0),
    (⟨(some 16), .bin .and (.t 15) (.k (.int .u64 1)), none⟩, 0, 0),
    (⟨(some 17), .mov (.t 0), none⟩, 0, 0),
    (⟨(some 18), .mov (.t 5), none⟩, 0, 0),
    (⟨(some 19), .mov (.t 1), none⟩, 0, 0),
    (⟨(some 20), .bin .shl (.k (.int .i64 1)) (.t 19), none⟩, 0, 0),
    (⟨(some 21), .bin .andNot (.t 18) (.t 20), none⟩, 0, 0),
    (⟨(some 22), .bin .shr (.t 17) (.t 21), none⟩, 0, 0),
    (⟨(some 23), .bin .and (.t 22) (.k (.int .u64 1)), none⟩, 0, 0),
    (⟨(some 24), .bin .neq (.t 16) (.t 23), none⟩, 0, 0)]
def b51_1 : C :=
  .reg [⟨(some 8), .mov (.t 5), none⟩,
    ⟨(some 9), .bin .add (.t 8) (.k (.int .i64 1)), none⟩,
    ⟨(some 5), .mov (.t 9), none⟩] [0, 1, 5]
def c51_2 (b51_1 : C) : C :=
  .seqT (.block 1 (.seq (.regD d51_0 [0, 1, 5, 24])
    (.cond (.t 24) (.seq (.reg [⟨(some 4), .mov (.k (.bool true)), none⟩] [4])
     (.ret))
    (.skip)))) [0, 1, 5] b51_1
def b51_2 : C := c51_2 b51_1
def c51_3 (b51_2 : C) : C :=
  .seqT (.seq (.reg [⟨(some 6), .mov (.t 5), none⟩,
      ⟨(some 7), .bin .lss (.t 6) (.k (.int .i64 64)), none⟩] [0, 1, 5, 7])
   (.cond (.t 7) (.skip)
   (.exit 0))) [0, 1, 5] b51_2
def b51_3 : C := c51_3 b51_2
def b51_4 : C :=
  .seq (.reg [⟨(some 4), .mov (.k (.bool false)), none⟩] [4])
  (.ret)
def c51 (b51_3 b51_4 : C) : C :=
  .seq (.reg [⟨(some 4), .mov (.k (.bool false)), none⟩] [0, 1])
  (.seqT (.seq (.reg [⟨(some 5), .mov (.k (.int .i64 0)), none⟩] [0, 1, 5])
   (.block 0 (.loop [0, 1, 5] false b51_3))) [] b51_4)
def b51 : C := c51 b51_3 b51_4
def f51 : IFn := { body := b51, params := 2, res := [(4, none)], pop := false, keep := false }
theorem ok51 : okFn Tryd.prog 51 f51 = true := by kernel_rfl

theorem mixed : Tryd.prog.follows .mixedOrders = true := by kernel_rfl
def T : Nat → Option IFn
  | 3 => some f3
  | 4 => some f4
  | 5 => some f5
  | 6 => some f6
  | 7 => some f7
  | 8 => some f8
  | 9 => some f9
  | 10 => some f10
  | 11 => some f11
  | 12 => some f12
  | 13 => some f13
  | 14 => some f14
  | 15 => some f15
  | 16 => some f16
  | 17 => some f17
  | 18 => some f18
  | 19 => some f19
  | 20 => some f20
  | 21 => some f21
  | 22 => some f22
  | 23 => some { f23 with orc := sortO }
  | 24 => some { f24 with orc := compO }
  | 25 => some f25
  | 26 => some f26
  | 27 => some f27
  | 28 => some f28
  | 29 => some f29
  | 30 => some f30
  | 31 => some f31
  | 32 => some f32
  | 33 => some { f33 with orc := itoaO }
  | 34 => some f34
  | 35 => some f35
  | 36 => some f36
  | 37 => some f37
  | 38 => some f38
  | 39 => some f39
  | 40 => some f40
  | 43 => some f43
  | 44 => some f44
  | 45 => some f45
  | 46 => some f46
  | 47 => some f47
  | 48 => some f48
  | 50 => some f50
  | 51 => some f51
  | _ => none

theorem hT : ∀ f fn, T f = some fn → okFn Tryd.prog f fn = true := by
  intro f fn h
  unfold T at h
  split at h
  · cases h; exact ok3
  · cases h; exact ok4
  · cases h; exact ok5
  · cases h; exact ok6
  · cases h; exact ok7
  · cases h; exact ok8
  · cases h; exact ok9
  · cases h; exact ok10
  · cases h; exact ok11
  · cases h; exact ok12
  · cases h; exact ok13
  · cases h; exact ok14
  · cases h; exact ok15
  · cases h; exact ok16
  · cases h; exact ok17
  · cases h; exact ok18
  · cases h; exact ok19
  · cases h; exact ok20
  · cases h; exact ok21
  · cases h; exact ok22
  · cases h; exact ok23o
  · cases h; exact ok24o
  · cases h; exact ok25
  · cases h; exact ok26
  · cases h; exact ok27
  · cases h; exact ok28
  · cases h; exact ok29
  · cases h; exact ok30
  · cases h; exact ok31
  · cases h; exact ok32
  · cases h; exact ok33o
  · cases h; exact ok34
  · cases h; exact ok35
  · cases h; exact ok36
  · cases h; exact ok37
  · cases h; exact ok38
  · cases h; exact ok39
  · cases h; exact ok40
  · cases h; exact ok43
  · cases h; exact ok44
  · cases h; exact ok45
  · cases h; exact ok46
  · cases h; exact ok47
  · cases h; exact ok48
  · cases h; exact ok50
  · cases h; exact ok51
  · cases h
theorem hO (h23 : OrcSound Tryd.prog (okc0 Tryd.prog) 23 { f23 with orc := sortO }) (h24 : OrcSound Tryd.prog (okc0 Tryd.prog) 24 { f24 with orc := compO }) (h33 : OrcSound Tryd.prog (okc0 Tryd.prog) 33 { f33 with orc := itoaO }) : ∀ f fn, T f = some fn → OrcSound Tryd.prog (okc0 Tryd.prog) f fn := by
  intro f fn h
  unfold T at h
  split at h
  · cases h; exact orcSound_none fun _ _ => rfl
  · cases h; exact orcSound_none fun _ _ => rfl
  · cases h; exact orcSound_none fun _ _ => rfl
  · cases h; exact orcSound_none fun _ _ => rfl
  · cases h; exact orcSound_none fun _ _ => rfl
  · cases h; exact orcSound_none fun _ _ => rfl
  · cases h; exact orcSound_none fun _ _ => rfl
  · cases h; exact orcSound_none fun _ _ => rfl
  · cases h; exact orcSound_none fun _ _ => rfl
  · cases h; exact orcSound_none fun _ _ => rfl
  · cases h; exact orcSound_none fun _ _ => rfl
  · cases h; exact orcSound_none fun _ _ => rfl
  · cases h; exact orcSound_none fun _ _ => rfl
  · cases h; exact orcSound_none fun _ _ => rfl
  · cases h; exact orcSound_none fun _ _ => rfl
  · cases h; exact orcSound_none fun _ _ => rfl
  · cases h; exact orcSound_none fun _ _ => rfl
  · cases h; exact orcSound_none fun _ _ => rfl
  · cases h; exact orcSound_none fun _ _ => rfl
  · cases h; exact orcSound_none fun _ _ => rfl
  · cases h; exact h23
  · cases h; exact h24
  · cases h; exact orcSound_none fun _ _ => rfl
  · cases h; exact orcSound_none fun _ _ => rfl
  · cases h; exact orcSound_none fun _ _ => rfl
  · cases h; exact orcSound_none fun _ _ => rfl
  · cases h; exact orcSound_none fun _ _ => rfl
  · cases h; exact orcSound_none fun _ _ => rfl
  · cases h; exact orcSound_none fun _ _ => rfl
  · cases h; exact orcSound_none fun _ _ => rfl
  · cases h; exact h33
  · cases h; exact orcSound_none fun _ _ => rfl
  · cases h; exact orcSound_none fun _ _ => rfl
  · cases h; exact orcSound_none fun _ _ => rfl
  · cases h; exact orcSound_none fun _ _ => rfl
  · cases h; exact orcSound_none fun _ _ => rfl
  · cases h; exact orcSound_none fun _ _ => rfl
  · cases h; exact orcSound_none fun _ _ => rfl
  · cases h; exact orcSound_none fun _ _ => rfl
  · cases h; exact orcSound_none fun _ _ => rfl
  · cases h; exact orcSound_none fun _ _ => rfl
  · cases h; exact orcSound_none fun _ _ => rfl
  · cases h; exact orcSound_none fun _ _ => rfl
  · cases h; exact orcSound_none fun _ _ => rfl
  · cases h; exact orcSound_none fun _ _ => rfl
  · cases h; exact orcSound_none fun _ _ => rfl
  · cases h
end Go.Proofs.P16
