
import Derived.KernelRfl
import Derived.Test.YtdddcofggemnkaaAmIn
import Derived.Test.YtdddcofggemnkaaAmSort
import Derived.Test.YtdddcofggemnkaaSortO
import Derived.Test.YtdddcofggemnkaaProg
namespace Go.Proofs.P17
set_option linter.all false
open Go Go.Am

-- resolvent/resolventlaw17.PairsRename
def d7_0 : List (IOper × Nat × Nat) :=
  [(⟨(some 30), .mov (.t 0), none⟩, 0, 0),
    (⟨(some 31), .mov (.t 7), none⟩, 0, 0),
    (⟨(some 32), .indexAddr 2 (.t 30) (.t 31), none⟩, 0, 0),
    (⟨(some 33), .indexAddrA 2 1 (.t 32) (.k (.int .i64 0)), none⟩, 0, 0),
    (⟨(some 34), .load none (.t 33), none⟩, 0, 1),
    (⟨(some 35), .mov (.t 0), none⟩, 0, 0),
    (⟨(some 36), .mov (.t 7), none⟩, 0, 0),
    (⟨(some 37), .indexAddr 2 (.t 35) (.t 36), none⟩, 0, 0),
    (⟨(some 38), .indexAddrA 2 1 (.t 37) (.k (.int .i64 1)), none⟩, 0, 0),
    (⟨(some 39), .load none (.t 38), none⟩, 0, 1),
    (⟨(some 8), .mov (.t 34), none⟩, 0, 0),
    (⟨(some 9), .mov (.t 39), none⟩, 0, 0)]
def d7_1 : List (IOper × Nat × Nat) :=
  [(⟨(some 63), .mov (.t 6), none⟩, 0, 0),
    (⟨(some 64), .mov (.t 1), none⟩, 0, 0),
    (⟨(some 65), .mov (.t 8), none⟩, 0, 0),
    (⟨(some 66), .indexAddr 1 (.t 64) (.t 65), none⟩, 0, 0),
    (⟨(some 67), .load none (.t 66), none⟩, 0, 1),
    (⟨(some 68), .mov (.t 1), none⟩, 0, 0),
    (⟨(some 69), .mov (.t 9), none⟩, 0, 0),
    (⟨(some 70), .indexAddr 1 (.t 68) (.t 69), none⟩, 0, 0),
    (⟨(some 71), .load none (.t 70), none⟩, 0, 1),
    (⟨(some 72), .build [(.int .i64 0), (.int .i64 0)] [(0, 1, (.t 67)), (1, 1, (.t 71))], none⟩, 0, 0),
    (⟨(some 73), .buildSlice 2 [(.int .i64 0), (.int .i64 0)] 1 [(0, (.t 72))] false, none⟩, 0, 0),
    (⟨(some 74), .append 2 16 (.t 63) (.t 73) 0, none⟩, 0, 0),
    (⟨(some 6), .mov (.t 74), none⟩, 0, 0)]
def b7_2 : C :=
  .reg [⟨(some 28), .mov (.t 7), none⟩,
    ⟨(some 29), .bin .add (.t 28) (.k (.int .i64 1)), none⟩,
    ⟨(some 7), .mov (.t 29), none⟩] [0, 1, 5, 6, 7]
def c7_3 (b7_2 : C) : C :=
  .seqT (.block 1 (.seq (.regD d7_0 [0, 1, 5, 6, 7, 8, 9])
    (.seq (.reg [⟨(some 40), .mov (.t 8), none⟩,
       ⟨(some 41), .bin .geq (.t 40) (.k (.int .i64 0)), none⟩,
       ⟨(some 42), .mov (.t 41), none⟩,
       ⟨(some 43), .mov (.t 9), some (42, true)⟩,
       ⟨(some 44), .bin .geq (.t 43) (.k (.int .i64 0)), some (42, true)⟩,
       ⟨(some 45), .pick (.t 42) (.t 44) (.k (.bool false)), none⟩,
       ⟨(some 46), .mov (.t 45), none⟩,
       ⟨(some 47), .mov (.t 8), some (46, true)⟩,
       ⟨(some 48), .mov (.t 9), some (46, true)⟩,
       ⟨(some 49), .bin .neq (.t 47) (.t 48), some (46, true)⟩,
       ⟨(some 50), .pick (.t 46) (.t 49) (.k (.bool false)), none⟩,
       ⟨(some 51), .mov (.t 50), none⟩,
       ⟨(some 52), .mov (.t 8), some (51, true)⟩,
       ⟨(some 53), .mov (.t 1), some (51, true)⟩,
       ⟨(some 54), .len 1 (.t 53), some (51, true)⟩,
       ⟨(some 55), .bin .lss (.t 52) (.t 54), some (51, true)⟩,
       ⟨(some 56), .pick (.t 51) (.t 55) (.k (.bool false)), none⟩,
       ⟨(some 57), .mov (.t 56), none⟩,
       ⟨(some 58), .mov (.t 9), some (57, true)⟩,
       ⟨(some 59), .mov (.t 1), some (57, true)⟩,
       ⟨(some 60), .len 1 (.t 59), some (57, true)⟩,
       ⟨(some 61), .bin .lss (.t 58) (.t 60), some (57, true)⟩,
       ⟨(some 62), .pick (.t 57) (.t 61) (.k (.bool false)), none⟩] [0, 1, 5, 6, 7, 8, 9, 62])
    (.cond (.t 62) (.regD d7_1 [0, 1, 5, 6, 7])
    (.skip))))) [0, 1, 5, 6, 7] b7_2
def b7_3 : C := c7_3 b7_2
def c7_4 (b7_3 : C) : C :=
  .seqT (.seq (.reg [⟨(some 24), .mov (.t 7), none⟩,
      ⟨(some 25), .mov (.t 0), none⟩,
      ⟨(some 26), .len 1 (.t 25), none⟩,
      ⟨(some 27), .bin .lss (.t 24) (.t 26), none⟩] [0, 1, 5, 6, 7, 27])
   (.cond (.t 27) (.skip)
   (.exit 0))) [0, 1, 5, 6, 7] b7_3
def b7_4 : C := c7_4 b7_3
def d7_5 : List (IOper × Nat × Nat) :=
  [(⟨(some 84), .mov (.t 6), none⟩, 0, 0),
    (⟨(some 85), .mov (.t 5), none⟩, 0, 0),
    (⟨(some 86), .mov (.t 10), none⟩, 0, 0),
    (⟨(some 87), .indexAddr 2 (.t 85) (.t 86), none⟩, 0, 0),
    (⟨(some 88), .indexAddrA 2 1 (.t 87) (.k (.int .i64 0)), none⟩, 0, 0),
    (⟨(some 89), .load none (.t 88), none⟩, 0, 1),
    (⟨(some 90), .mov (.t 5), none⟩, 0, 0),
    (⟨(some 91), .mov (.t 10), none⟩, 0, 0),
    (⟨(some 92), .indexAddr 2 (.t 90) (.t 91), none⟩, 0, 0),
    (⟨(some 93), .indexAddrA 2 1 (.t 92) (.k (.int .i64 1)), none⟩, 0, 0),
    (⟨(some 94), .load none (.t 93), none⟩, 0, 1),
    (⟨(some 95), .call (.f 31) [(.t 84), (.t 89), (.t 94)] false, none⟩, 0, 0),
    (⟨(some 96), .un .not (.t 95), none⟩, 0, 0)]
def b7_6 : C :=
  .reg [⟨(some 82), .mov (.t 10), none⟩,
    ⟨(some 83), .bin .add (.t 82) (.k (.int .i64 1)), none⟩,
    ⟨(some 10), .mov (.t 83), none⟩] [5, 6, 10]
def c7_7 (b7_6 : C) : C :=
  .seqT (.block 3 (.seq (.regD d7_5 [5, 6, 10, 96])
    (.cond (.t 96) (.seq (.reg [⟨(some 4), .mov (.k (.bool false)), none⟩] [4])
     (.ret))
    (.skip)))) [5, 6, 10] b7_6
def b7_7 : C := c7_7 b7_6
def c7_8 (b7_7 : C) : C :=
  .seqT (.seq (.reg [⟨(some 78), .mov (.t 10), none⟩,
      ⟨(some 79), .mov (.t 5), none⟩,
      ⟨(some 80), .len 1 (.t 79), none⟩,
      ⟨(some 81), .bin .lss (.t 78) (.t 80), none⟩] [5, 6, 10, 81])
   (.cond (.t 81) (.skip)
   (.exit 2))) [5, 6, 10] b7_7
def b7_8 : C := c7_8 b7_7
def d7_9 : List (IOper × Nat × Nat) :=
  [(⟨(some 103), .mov (.t 6), none⟩, 0, 0),
    (⟨(some 104), .mov (.t 11), none⟩, 0, 0),
    (⟨(some 105), .indexAddr 2 (.t 103) (.t 104), none⟩, 0, 0),
    (⟨(some 106), .indexAddrA 2 1 (.t 105) (.k (.int .i64 0)), none⟩, 0, 0),
    (⟨(some 107), .load none (.t 106), none⟩, 0, 1),
    (⟨(some 108), .mov (.t 6), none⟩, 0, 0),
    (⟨(some 109), .mov (.t 11), none⟩, 0, 0),
    (⟨(some 110), .indexAddr 2 (.t 108) (.t 109), none⟩, 0, 0),
    (⟨(some 111), .indexAddrA 2 1 (.t 110) (.k (.int .i64 1)), none⟩, 0, 0),
    (⟨(some 112), .load none (.t 111), none⟩, 0, 1),
    (⟨(some 12), .mov (.t 107), none⟩, 0, 0),
    (⟨(some 13), .mov (.t 112), none⟩, 0, 0)]
def b7_10 : C :=
  .reg [⟨(some 101), .mov (.t 11), none⟩,
    ⟨(some 102), .bin .add (.t 101) (.k (.int .i64 1)), none⟩,
    ⟨(some 11), .mov (.t 102), none⟩] [5, 6, 11]
def c7_11 (b7_10 : C) : C :=
  .seqT (.block 5 (.seq (.regD d7_9 [5, 6, 11, 12, 13])
    (.seq (.reg [⟨(some 113), .mov (.t 6), none⟩,
       ⟨(some 114), .mov (.t 12), none⟩,
       ⟨(some 115), .mov (.t 13), none⟩,
       ⟨(some 116), .call (.f 31) [(.t 113), (.t 114), (.t 115)] false, none⟩,
       ⟨(some 117), .mov (.t 116), none⟩,
       ⟨(some 118), .mov (.t 5), some (117, true)⟩,
       ⟨(some 119), .mov (.t 12), some (117, true)⟩,
       ⟨(some 120), .mov (.t 13), some (117, true)⟩,
       ⟨(some 121), .call (.f 31) [(.t 118), (.t 119), (.t 120)] false, some (117, true)⟩,
       ⟨(some 122), .un .not (.t 121), some (117, true)⟩,
       ⟨(some 123), .pick (.t 117) (.t 122) (.k (.bool false)), none⟩] [5, 6, 11, 123])
    (.cond (.t 123) (.seq (.reg [⟨(some 4), .mov (.k (.bool false)), none⟩] [4])
     (.ret))
    (.skip))))) [5, 6, 11] b7_10
def b7_11 : C := c7_11 b7_10
def c7_12 (b7_11 : C) : C :=
  .seqT (.seq (.reg [⟨(some 97), .mov (.t 11), none⟩,
      ⟨(some 98), .mov (.t 6), none⟩,
      ⟨(some 99), .len 1 (.t 98), none⟩,
      ⟨(some 100), .bin .lss (.t 97) (.t 99), none⟩] [5, 6, 11, 100])
   (.cond (.t 100) (.skip)
   (.exit 4))) [5, 6, 11] b7_11
def b7_12 : C := c7_12 b7_11
def b7_13 : C :=
  .seq (.reg [⟨(some 124), .call (.f 28) [] false, none⟩,
     ⟨(some 4), .mov (.t 124), none⟩] [4])
  (.ret)
def c7_14 (b7_12 b7_13 : C) : C :=
  .seqT (.seq (.reg [⟨(some 11), .mov (.k (.int .i64 0)), none⟩] [5, 6, 11])
   (.block 4 (.loop [5, 6, 11] false b7_12))) [] b7_13
def b7_14 : C := c7_14 b7_12 b7_13
def c7_15 (b7_8 b7_14 : C) : C :=
  .seqT (.seq (.reg [⟨(some 10), .mov (.k (.int .i64 0)), none⟩] [5, 6, 10])
   (.block 2 (.loop [5, 6, 10] false b7_8))) [5, 6] b7_14
def b7_15 : C := c7_15 b7_8 b7_14
def c7_16 (b7_15 : C) : C :=
  .seqT (.seq (.reg [⟨(some 75), .mov (.t 5), none⟩,
      ⟨(some 76), .call (.f 30) [(.t 75)] false, none⟩,
      ⟨(some 77), .un .not (.t 76), none⟩] [5, 6, 77])
   (.cond (.t 77) (.seq (.reg [⟨(some 4), .mov (.k (.bool false)), none⟩] [4])
    (.ret))
   (.skip))) [5, 6] b7_15
def b7_16 : C := c7_16 b7_15
def c7_17 (b7_4 b7_16 : C) : C :=
  .seq (.reg [⟨(some 21), .mov (.t 0), none⟩,
     ⟨(some 22), .mov (.t 1), none⟩,
     ⟨(some 23), .call (.f 29) [(.t 21), (.t 22)] false, none⟩,
     ⟨(some 5), .mov (.t 23), none⟩] [0, 1, 5])
  (.seq (.reg [⟨(some 6), .tipNew 2, none⟩] [0, 1, 5, 6])
  (.seqT (.seq (.reg [⟨(some 7), .mov (.k (.int .i64 0)), none⟩] [0, 1, 5, 6, 7])
   (.block 0 (.loop [0, 1, 5, 6, 7] false b7_4))) [5, 6] b7_16))
def b7_17 : C := c7_17 b7_4 b7_16
def c7 (b7_17 : C) : C :=
  .seq (.reg [⟨(some 4), .mov (.k (.bool false)), none⟩] [0, 1])
  (.seqT (.seq (.reg [⟨(some 14), .mov (.t 0), none⟩,
      ⟨(some 15), .len 1 (.t 14), none⟩,
      ⟨(some 16), .mov (.t 1), none⟩,
      ⟨(some 17), .len 1 (.t 16), none⟩,
      ⟨(some 18), .buildSlice 1 [(.int .i64 0)] 2 [(0, (.t 15)), (1, (.t 17))] false, none⟩,
      ⟨(some 19), .call (.f 27) [(.t 18)] false, none⟩] [0, 1, 19])
   (.cond (.t 19) (.seq (.reg [⟨(some 20), .call (.f 28) [] false, none⟩,
       ⟨(some 4), .mov (.t 20), none⟩] [4])
    (.ret))
   (.skip))) [0, 1] b7_17)
def b7 : C := c7 b7_17
def f7 : IFn := { body := b7, params := 2, res := [(4, none)], pop := false, keep := false }
theorem ok7 : okFn Try.prog 7 f7 = true := by kernel_rfl

-- resolvent/resolventlaw17.PairsTells
def b8_0 : C :=
  .reg [⟨(some 117), .mov (.t 18), none⟩,
    ⟨(some 118), .bin .add (.t 117) (.k (.int .i64 1)), none⟩,
    ⟨(some 18), .mov (.t 118), none⟩] [0, 1, 2, 7, 8, 9, 10, 11, 12, 13, 14, 15, 16, 17, 18]
def c8_1 (b8_0 : C) : C :=
  .seqT (.block 3 (.seq (.reg [⟨(some 119), .mov (.t 15), none⟩,
       ⟨(some 120), .mov (.t 18), none⟩,
       ⟨(some 121), .indexAddr 1 (.t 119) (.t 120), none⟩,
       ⟨(some 122), .load none (.t 121), none⟩,
       ⟨(some 19), .mov (.t 122), none⟩] [0, 1, 2, 7, 8, 9, 10, 11, 12, 13, 14, 15, 16, 17, 18, 19])
    (.seq (.reg [⟨(some 123), .mov (.t 0), none⟩,
       ⟨(some 124), .mov (.t 17), none⟩,
       ⟨(some 125), .mov (.t 19), none⟩,
       ⟨(some 126), .call (.f 31) [(.t 123), (.t 124), (.t 125)] false, none⟩,
       ⟨(some 20), .mov (.t 126), none⟩] [0, 1, 2, 7, 8, 9, 10, 11, 12, 13, 14, 15, 16, 17, 18, 19, 20])
    (.seq (.reg [⟨(some 127), .mov (.t 0), none⟩,
       ⟨(some 128), .mov (.t 17), none⟩,
       ⟨(some 129), .mov (.t 19), none⟩,
       ⟨(some 130), .call (.f 42) [(.t 127), (.t 128), (.t 129)] false, none⟩,
       ⟨(some 131), .mov (.t 20), none⟩,
       ⟨(some 132), .eqv ⟨[.b], false⟩ true (.t 130) (.t 131), none⟩,
       ⟨(some 133), .mov (.t 132), none⟩,
       ⟨(some 134), .mov (.t 9), some (133, false)⟩,
       ⟨(some 135), .mov (.t 17), some (133, false)⟩,
       ⟨(some 136), .mov (.t 19), some (133, false)⟩,
       ⟨(some 137), .call (.f 31) [(.t 134), (.t 135), (.t 136)] false, some (133, false)⟩,
       ⟨(some 138), .mov (.t 20), some (133, false)⟩,
       ⟨(some 139), .eqv ⟨[.b], false⟩ true (.t 137) (.t 138), some (133, false)⟩,
       ⟨(some 140), .pick (.t 133) (.k (.bool true)) (.t 139), none⟩,
       ⟨(some 141), .mov (.t 140), none⟩,
       ⟨(some 142), .mov (.t 10), some (141, false)⟩,
       ⟨(some 143), .mov (.t 17), some (141, false)⟩,
       ⟨(some 144), .mov (.t 19), some (141, false)⟩,
       ⟨(some 145), .call (.f 31) [(.t 142), (.t 143), (.t 144)] false, some (141, false)⟩,
       ⟨(some 146), .mov (.t 20), some (141, false)⟩,
       ⟨(some 147), .mov (.t 146), some (141, false)⟩,
       ⟨(some 148), .mov (.t 1), some (147, false)⟩,
       ⟨(some 149), .mov (.t 17), some (147, false)⟩,
       ⟨(some 150), .mov (.t 19), some (147, false)⟩,
       ⟨(some 151), .call (.f 31) [(.t 148), (.t 149), (.t 150)] false, some (147, false)⟩,
       ⟨(some 152), .pick (.t 147) (.k (.bool true)) (.t 151), some (141, false)⟩,
       ⟨(some 153), .eqv ⟨[.b], false⟩ true (.t 145) (.t 152), some (141, false)⟩,
       ⟨(some 154), .pick (.t 141) (.k (.bool true)) (.t 153), none⟩,
       ⟨(some 155), .mov (.t 154), none⟩,
       ⟨(some 156), .mov (.t 11), some (155, false)⟩,
       ⟨(some 157), .mov (.t 17), some (155, false)⟩,
       ⟨(some 158), .mov (.t 19), some (155, false)⟩,
       ⟨(some 159), .call (.f 31) [(.t 156), (.t 157), (.t 158)] false, some (155, false)⟩,
       ⟨(some 160), .mov (.t 20), some (155, false)⟩,
       ⟨(some 161), .mov (.t 160), some (155, false)⟩,
       ⟨(some 162), .mov (.t 17), some (161, false)⟩,
       ⟨(some 163), .mov (.t 19), some (161, false)⟩,
       ⟨(some 164), .bin .neq (.t 162) (.t 163), some (161, false)⟩,
       ⟨(some 165), .mov (.t 164), some (161, false)⟩,
       ⟨(some 166), .mov (.t 2), some (165, true)⟩,
       ⟨(some 167), .mov (.t 17), some (165, true)⟩,
       ⟨(some 168), .call (.f 40) [(.t 166), (.t 167)] false, some (165, true)⟩,
       ⟨(some 169), .pick (.t 165) (.t 168) (.k (.bool false)), some (161, false)⟩,
       ⟨(some 170), .mov (.t 169), some (161, false)⟩,
       ⟨(some 171), .mov (.t 2), some (170, true)⟩,
       ⟨(some 172), .mov (.t 19), some (170, true)⟩,
       ⟨(some 173), .call (.f 40) [(.t 171), (.t 172)] false, some (170, true)⟩,
       ⟨(some 174), .pick (.t 170) (.t 173) (.k (.bool false)), some (161, false)⟩,
       ⟨(some 175), .pick (.t 161) (.k (.bool true)) (.t 174), some (155, false)⟩,
       ⟨(some 176), .eqv ⟨[.b], false⟩ true (.t 159) (.t 175), some (155, false)⟩,
       ⟨(some 177), .pick (.t 155) (.k (.bool true)) (.t 176), none⟩,
       ⟨(some 178), .mov (.t 177), none⟩,
       ⟨(some 179), .mov (.t 12), some (178, false)⟩,
       ⟨(some 180), .mov (.t 17), some (178, false)⟩,
       ⟨(some 181), .mov (.t 19), some (178, false)⟩,
       ⟨(some 182), .call (.f 31) [(.t 179), (.t 180), (.t 181)] false, some (178, false)⟩,
       ⟨(some 183), .mov (.t 20), some (178, false)⟩,
       ⟨(some 184), .mov (.t 183), some (178, false)⟩,
       ⟨(some 185), .mov (.t 2), some (184, true)⟩,
       ⟨(some 186), .mov (.t 17), some (184, true)⟩,
       ⟨(some 187), .call (.f 40) [(.t 185), (.t 186)] false, some (184, true)⟩,
       ⟨(some 188), .un .not (.t 187), some (184, true)⟩,
       ⟨(some 189), .pick (.t 184) (.t 188) (.k (.bool false)), some (178, false)⟩,
       ⟨(some 190), .mov (.t 189), some (178, false)⟩,
       ⟨(some 191), .mov (.t 2), some (190, true)⟩,
       ⟨(some 192), .mov (.t 19), some (190, true)⟩,
       ⟨(some 193), .call (.f 40) [(.t 191), (.t 192)] false, some (190, true)⟩,
       ⟨(some 194), .un .not (.t 193), some (190, true)⟩,
       ⟨(some 195), .pick (.t 190) (.t 194) (.k (.bool false)), some (178, false)⟩,
       ⟨(some 196), .eqv ⟨[.b], false⟩ true (.t 182) (.t 195), some (178, false)⟩,
       ⟨(some 197), .pick (.t 178) (.k (.bool true)) (.t 196), none⟩] [0, 1, 2, 7, 8, 9, 10, 11, 12, 13, 14, 15, 16, 17, 18, 197])
    (.cond (.t 197) (.seq (.reg [⟨(some 6), .mov (.k (.bool false)), none⟩] [6])
     (.ret))
    (.skip)))))) [0, 1, 2, 7, 8, 9, 10, 11, 12, 13, 14, 15, 16, 17, 18] b8_0
def b8_1 : C := c8_1 b8_0
def c8_2 (b8_1 : C) : C :=
  .seqT (.seq (.reg [⟨(some 113), .mov (.t 18), none⟩,
      ⟨(some 114), .mov (.t 15), none⟩,
      ⟨(some 115), .len 1 (.t 114), none⟩,
      ⟨(some 116), .bin .lss (.t 113) (.t 115), none⟩] [0, 1, 2, 7, 8, 9, 10, 11, 12, 13, 14, 15, 16, 17, 18, 116])
   (.cond (.t 116) (.skip)
   (.exit 2))) [0, 1, 2, 7, 8, 9, 10, 11, 12, 13, 14, 15, 16, 17, 18] b8_1
def b8_2 : C := c8_2 b8_1
def c8_3 (b8_2 : C) : C :=
  .seq (.reg [⟨(some 18), .mov (.k (.int .i64 0)), none⟩] [0, 1, 2, 7, 8, 9, 10, 11, 12, 13, 14, 15, 16, 17, 18])
  (.block 2 (.loop [0, 1, 2, 7, 8, 9, 10, 11, 12, 13, 14, 15, 16, 17, 18] false b8_2))
def b8_3 : C := c8_3 b8_2
def b8_4 : C :=
  .reg [⟨(some 90), .mov (.t 16), none⟩,
    ⟨(some 91), .bin .add (.t 90) (.k (.int .i64 1)), none⟩,
    ⟨(some 16), .mov (.t 91), none⟩] [0, 1, 2, 7, 8, 9, 10, 11, 12, 13, 14, 15, 16]
def c8_5 (b8_3 b8_4 : C) : C :=
  .seqT (.block 1 (.seq (.reg [⟨(some 92), .mov (.t 15), none⟩,
       ⟨(some 93), .mov (.t 16), none⟩,
       ⟨(some 94), .indexAddr 1 (.t 92) (.t 93), none⟩,
       ⟨(some 95), .load none (.t 94), none⟩,
       ⟨(some 17), .mov (.t 95), none⟩] [0, 1, 2, 7, 8, 9, 10, 11, 12, 13, 14, 15, 16, 17])
    (.seqT (.seq (.reg [⟨(some 96), .mov (.t 13), none⟩,
        ⟨(some 97), .mov (.t 17), none⟩,
        ⟨(some 98), .call (.f 40) [(.t 96), (.t 97)] false, none⟩,
        ⟨(some 99), .mov (.t 0), none⟩,
        ⟨(some 100), .mov (.t 2), none⟩,
        ⟨(some 101), .mov (.t 17), none⟩,
        ⟨(some 102), .call (.f 41) [(.t 99), (.t 100), (.t 101)] false, none⟩,
        ⟨(some 103), .eqv ⟨[.b], false⟩ true (.t 98) (.t 102), none⟩,
        ⟨(some 104), .mov (.t 103), none⟩,
        ⟨(some 105), .mov (.t 14), some (104, false)⟩,
        ⟨(some 106), .mov (.t 17), some (104, false)⟩,
        ⟨(some 107), .call (.f 40) [(.t 105), (.t 106)] false, some (104, false)⟩,
        ⟨(some 108), .mov (.t 2), some (104, false)⟩,
        ⟨(some 109), .mov (.t 17), some (104, false)⟩,
        ⟨(some 110), .call (.f 40) [(.t 108), (.t 109)] false, some (104, false)⟩,
        ⟨(some 111), .eqv ⟨[.b], false⟩ true (.t 107) (.t 110), some (104, false)⟩,
        ⟨(some 112), .pick (.t 104) (.k (.bool true)) (.t 111), none⟩] [0, 1, 2, 7, 8, 9, 10, 11, 12, 13, 14, 15, 16, 17, 112])
     (.cond (.t 112) (.seq (.reg [⟨(some 6), .mov (.k (.bool false)), none⟩] [6])
      (.ret))
     (.skip))) [0, 1, 2, 7, 8, 9, 10, 11, 12, 13, 14, 15, 16, 17] b8_3))) [0, 1, 2, 7, 8, 9, 10, 11, 12, 13, 14, 15, 16] b8_4
def b8_5 : C := c8_5 b8_3 b8_4
def c8_6 (b8_5 : C) : C :=
  .seqT (.seq (.reg [⟨(some 86), .mov (.t 16), none⟩,
      ⟨(some 87), .mov (.t 15), none⟩,
      ⟨(some 88), .len 1 (.t 87), none⟩,
      ⟨(some 89), .bin .lss (.t 86) (.t 88), none⟩] [0, 1, 2, 7, 8, 9, 10, 11, 12, 13, 14, 15, 16, 89])
   (.cond (.t 89) (.skip)
   (.exit 0))) [0, 1, 2, 7, 8, 9, 10, 11, 12, 13, 14, 15, 16] b8_5
def b8_6 : C := c8_6 b8_5
def d8_7 : List (IOper × Nat × Nat) :=
  [(⟨(some 204), .mov (.t 0), none⟩, 0, 0),
    (⟨(some 205), .mov (.t 9), none⟩, 0, 0),
    (⟨(some 206), .mov (.t 22), none⟩, 0, 0),
    (⟨(some 207), .indexAddr 2 (.t 205) (.t 206), none⟩, 0, 0),
    (⟨(some 208), .indexAddrA 2 1 (.t 207) (.k (.int .i64 0)), none⟩, 0, 0),
    (⟨(some 209), .load none (.t 208), none⟩, 0, 1),
    (⟨(some 210), .mov (.t 9), none⟩, 0, 0),
    (⟨(some 211), .mov (.t 22), none⟩, 0, 0),
    (⟨(some 212), .indexAddr 2 (.t 210) (.t 211), none⟩, 0, 0),
    (⟨(some 213), .indexAddrA 2 1 (.t 212) (.k (.int .i64 1)), none⟩, 0, 0),
    (⟨(some 214), .load none (.t 213), none⟩, 0, 1),
    (⟨(some 215), .call (.f 31) [(.t 204), (.t 209), (.t 214)] false, none⟩, 0, 0)]
def b8_8 : C :=
  .reg [⟨(some 202), .mov (.t 22), none⟩,
    ⟨(some 203), .bin .add (.t 202) (.k (.int .i64 1)), none⟩,
    ⟨(some 22), .mov (.t 203), none⟩] [0, 2, 7, 8, 9, 21, 22]
def c8_9 (b8_8 : C) : C :=
  .seqT (.block 5 (.seq (.regD d8_7 [0, 2, 7, 8, 9, 21, 22, 215])
    (.cond (.t 215) (.reg [⟨(some 216), .mov (.t 21), none⟩,
       ⟨(some 217), .bin .add (.t 216) (.k (.int .i64 1)), none⟩,
       ⟨(some 21), .mov (.t 217), none⟩] [0, 2, 7, 8, 9, 21, 22])
    (.skip)))) [0, 2, 7, 8, 9, 21, 22] b8_8
def b8_9 : C := c8_9 b8_8
def c8_10 (b8_9 : C) : C :=
  .seqT (.seq (.reg [⟨(some 198), .mov (.t 22), none⟩,
      ⟨(some 199), .mov (.t 9), none⟩,
      ⟨(some 200), .len 1 (.t 199), none⟩,
      ⟨(some 201), .bin .lss (.t 198) (.t 200), none⟩] [0, 2, 7, 8, 9, 21, 22, 201])
   (.cond (.t 201) (.skip)
   (.exit 4))) [0, 2, 7, 8, 9, 21, 22] b8_9
def b8_10 : C := c8_10 b8_9
def d8_11 : List (IOper × Nat × Nat) :=
  [(⟨(some 224), .mov (.t 0), none⟩, 0, 0),
    (⟨(some 225), .mov (.t 23), none⟩, 0, 0),
    (⟨(some 226), .indexAddr 2 (.t 224) (.t 225), none⟩, 0, 0),
    (⟨(some 227), .load (some 2) (.t 226), none⟩, 0, 1),
    (⟨(some 228), .mov (.t 7), none⟩, 0, 0),
    (⟨(some 229), .mov (.t 23), none⟩, 0, 0),
    (⟨(some 230), .indexAddr 2 (.t 228) (.t 229), none⟩, 0, 0),
    (⟨(some 231), .load (some 2) (.t 230), none⟩, 0, 1),
    (⟨(some 232), .eqv ⟨[.i, .i], true⟩ true (.t 227) (.t 231), none⟩, 0, 0)]
def b8_12 : C :=
  .reg [⟨(some 222), .mov (.t 23), none⟩,
    ⟨(some 223), .bin .add (.t 222) (.k (.int .i64 1)), none⟩,
    ⟨(some 23), .mov (.t 223), none⟩] [0, 2, 7, 8, 9, 21, 23]
def c8_13 (b8_12 : C) : C :=
  .seqT (.block 7 (.seq (.regD d8_11 [0, 2, 7, 8, 9, 21, 23, 232])
    (.cond (.t 232) (.seq (.reg [⟨(some 6), .mov (.k (.bool false)), none⟩] [6])
     (.ret))
    (.skip)))) [0, 2, 7, 8, 9, 21, 23] b8_12
def b8_13 : C := c8_13 b8_12
def c8_14 (b8_13 : C) : C :=
  .seqT (.seq (.reg [⟨(some 218), .mov (.t 23), none⟩,
      ⟨(some 219), .mov (.t 0), none⟩,
      ⟨(some 220), .len 1 (.t 219), none⟩,
      ⟨(some 221), .bin .lss (.t 218) (.t 220), none⟩] [0, 2, 7, 8, 9, 21, 23, 221])
   (.cond (.t 221) (.skip)
   (.exit 6))) [0, 2, 7, 8, 9, 21, 23] b8_13
def b8_14 : C := c8_14 b8_13
def d8_15 : List (IOper × Nat × Nat) :=
  [(⟨(some 239), .mov (.t 2), none⟩, 0, 0),
    (⟨(some 240), .mov (.t 24), none⟩, 0, 0),
    (⟨(some 241), .indexAddr 1 (.t 239) (.t 240), none⟩, 0, 0),
    (⟨(some 242), .load none (.t 241), none⟩, 0, 1),
    (⟨(some 243), .mov (.t 8), none⟩, 0, 0),
    (⟨(some 244), .mov (.t 24), none⟩, 0, 0),
    (⟨(some 245), .indexAddr 1 (.t 243) (.t 244), none⟩, 0, 0),
    (⟨(some 246), .load none (.t 245), none⟩, 0, 1),
    (⟨(some 247), .bin .neq (.t 242) (.t 246), none⟩, 0, 0)]
def b8_16 : C :=
  .reg [⟨(some 237), .mov (.t 24), none⟩,
    ⟨(some 238), .bin .add (.t 237) (.k (.int .i64 1)), none⟩,
    ⟨(some 24), .mov (.t 238), none⟩] [2, 8, 9, 21, 24]
def c8_17 (b8_16 : C) : C :=
  .seqT (.block 9 (.seq (.regD d8_15 [2, 8, 9, 21, 24, 247])
    (.cond (.t 247) (.seq (.reg [⟨(some 6), .mov (.k (.bool false)), none⟩] [6])
     (.ret))
    (.skip)))) [2, 8, 9, 21, 24] b8_16
def b8_17 : C := c8_17 b8_16
def c8_18 (b8_17 : C) : C :=
  .seqT (.seq (.reg [⟨(some 233), .mov (.t 24), none⟩,
      ⟨(some 234), .mov (.t 2), none⟩,
      ⟨(some 235), .len 1 (.t 234), none⟩,
      ⟨(some 236), .bin .lss (.t 233) (.t 235), none⟩] [2, 8, 9, 21, 24, 236])
   (.cond (.t 236) (.skip)
   (.exit 8))) [2, 8, 9, 21, 24] b8_17
def b8_18 : C := c8_18 b8_17
def b8_19 : C :=
  .seq (.reg [⟨(some 248), .mov (.t 21), none⟩,
     ⟨(some 249), .mov (.t 9), none⟩,
     ⟨(some 250), .len 1 (.t 249), none⟩,
     ⟨(some 251), .bin .eql (.t 248) (.t 250), none⟩,
     ⟨(some 252), .mov (.t 251), none⟩,
     ⟨(some 253), .call (.f 28) [] false, some (252, true)⟩,
     ⟨(some 254), .pick (.t 252) (.t 253) (.k (.bool false)), none⟩,
     ⟨(some 6), .mov (.t 254), none⟩] [6])
  (.ret)
def c8_20 (b8_18 b8_19 : C) : C :=
  .seqT (.seq (.reg [⟨(some 24), .mov (.k (.int .i64 0)), none⟩] [2, 8, 9, 21, 24])
   (.block 8 (.loop [2, 8, 9, 21, 24] false b8_18))) [9, 21] b8_19
def b8_20 : C := c8_20 b8_18 b8_19
def c8_21 (b8_14 b8_20 : C) : C :=
  .seqT (.seq (.reg [⟨(some 23), .mov (.k (.int .i64 0)), none⟩] [0, 2, 7, 8, 9, 21, 23])
   (.block 6 (.loop [0, 2, 7, 8, 9, 21, 23] false b8_14))) [2, 8, 9, 21] b8_20
def b8_21 : C := c8_21 b8_14 b8_20
def c8_22 (b8_10 b8_21 : C) : C :=
  .seq (.reg [⟨(some 21), .mov (.k (.int .i64 0)), none⟩] [0, 2, 7, 8, 9, 21])
  (.seqT (.seq (.reg [⟨(some 22), .mov (.k (.int .i64 0)), none⟩] [0, 2, 7, 8, 9, 21, 22])
   (.block 4 (.loop [0, 2, 7, 8, 9, 21, 22] false b8_10))) [0, 2, 7, 8, 9, 21] b8_21)
def b8_22 : C := c8_22 b8_10 b8_21
def c8_23 (b8_6 b8_22 : C) : C :=
  .seq (.reg [⟨(some 82), .mov (.t 0), none⟩,
     ⟨(some 83), .mov (.t 1), none⟩,
     ⟨(some 84), .mov (.t 2), none⟩,
     ⟨(some 85), .call (.f 39) [(.t 82), (.t 83), (.t 84)] false, none⟩,
     ⟨(some 15), .mov (.t 85), none⟩] [0, 1, 2, 7, 8, 9, 10, 11, 12, 13, 14, 15])
  (.seqT (.seq (.reg [⟨(some 16), .mov (.k (.int .i64 0)), none⟩] [0, 1, 2, 7, 8, 9, 10, 11, 12, 13, 14, 15, 16])
   (.block 0 (.loop [0, 1, 2, 7, 8, 9, 10, 11, 12, 13, 14, 15, 16] false b8_6))) [0, 2, 7, 8, 9] b8_22)
def b8_23 : C := c8_23 b8_6 b8_22
def c8_24 (b8_23 : C) : C :=
  .seq (.reg [⟨(some 34), .mov (.t 0), none⟩,
     ⟨(some 35), .append 2 16 (.k (.list .full 0 [])) (.t 34) 0, none⟩,
     ⟨(some 7), .mov (.t 35), none⟩] [0, 1, 2, 7])
  (.seq (.reg [⟨(some 36), .mov (.t 2), none⟩,
     ⟨(some 37), .append 1 8 (.k (.list .full 0 [])) (.t 36) 0, none⟩,
     ⟨(some 8), .mov (.t 37), none⟩] [0, 1, 2, 7, 8])
  (.seq (.reg [⟨(some 38), .mov (.t 0), none⟩,
     ⟨(some 39), .call (.f 32) [(.t 38)] false, none⟩,
     ⟨(some 40), .mov (.t 0), none⟩,
     ⟨(some 41), .mov (.t 1), none⟩,
     ⟨(some 42), .call (.f 33) [(.t 40), (.t 41)] false, none⟩,
     ⟨(some 43), .mov (.t 0), none⟩,
     ⟨(some 44), .mov (.t 2), none⟩,
     ⟨(some 45), .call (.f 34) [(.t 43), (.t 44)] false, none⟩,
     ⟨(some 46), .mov (.t 0), none⟩,
     ⟨(some 47), .mov (.t 2), none⟩,
     ⟨(some 48), .call (.f 35) [(.t 46), (.t 47)] false, none⟩,
     ⟨(some 49), .mov (.t 0), none⟩,
     ⟨(some 50), .mov (.t 2), none⟩,
     ⟨(some 51), .call (.f 36) [(.t 49), (.t 50)] false, none⟩,
     ⟨(some 52), .mov (.t 2), none⟩,
     ⟨(some 53), .call (.f 37) [(.t 52)] false, none⟩,
     ⟨(some 9), .mov (.t 39), none⟩,
     ⟨(some 10), .mov (.t 42), none⟩,
     ⟨(some 11), .mov (.t 45), none⟩,
     ⟨(some 12), .mov (.t 48), none⟩,
     ⟨(some 13), .mov (.t 51), none⟩,
     ⟨(some 14), .mov (.t 53), none⟩] [0, 1, 2, 7, 8, 9, 10, 11, 12, 13, 14])
  (.seqT (.seq (.reg [⟨(some 54), .mov (.t 9), none⟩,
      ⟨(some 55), .call (.f 30) [(.t 54)] false, none⟩,
      ⟨(some 56), .un .not (.t 55), none⟩,
      ⟨(some 57), .mov (.t 56), none⟩,
      ⟨(some 58), .mov (.t 10), some (57, false)⟩,
      ⟨(some 59), .call (.f 30) [(.t 58)] false, some (57, false)⟩,
      ⟨(some 60), .un .not (.t 59), some (57, false)⟩,
      ⟨(some 61), .pick (.t 57) (.k (.bool true)) (.t 60), none⟩,
      ⟨(some 62), .mov (.t 61), none⟩,
      ⟨(some 63), .mov (.t 11), some (62, false)⟩,
      ⟨(some 64), .call (.f 30) [(.t 63)] false, some (62, false)⟩,
      ⟨(some 65), .un .not (.t 64), some (62, false)⟩,
      ⟨(some 66), .pick (.t 62) (.k (.bool true)) (.t 65), none⟩,
      ⟨(some 67), .mov (.t 66), none⟩,
      ⟨(some 68), .mov (.t 12), some (67, false)⟩,
      ⟨(some 69), .call (.f 30) [(.t 68)] false, some (67, false)⟩,
      ⟨(some 70), .un .not (.t 69), some (67, false)⟩,
      ⟨(some 71), .pick (.t 67) (.k (.bool true)) (.t 70), none⟩,
      ⟨(some 72), .mov (.t 71), none⟩,
      ⟨(some 73), .mov (.t 13), some (72, false)⟩,
      ⟨(some 74), .call (.f 38) [(.t 73)] false, some (72, false)⟩,
      ⟨(some 75), .un .not (.t 74), some (72, false)⟩,
      ⟨(some 76), .pick (.t 72) (.k (.bool true)) (.t 75), none⟩,
      ⟨(some 77), .mov (.t 76), none⟩,
      ⟨(some 78), .mov (.t 14), some (77, false)⟩,
      ⟨(some 79), .call (.f 38) [(.t 78)] false, some (77, false)⟩,
      ⟨(some 80), .un .not (.t 79), some (77, false)⟩,
      ⟨(some 81), .pick (.t 77) (.k (.bool true)) (.t 80), none⟩] [0, 1, 2, 7, 8, 9, 10, 11, 12, 13, 14, 81])
   (.cond (.t 81) (.seq (.reg [⟨(some 6), .mov (.k (.bool false)), none⟩] [6])
    (.ret))
   (.skip))) [0, 1, 2, 7, 8, 9, 10, 11, 12, 13, 14] b8_23)))
def b8_24 : C := c8_24 b8_23
def c8 (b8_24 : C) : C :=
  .seq (.reg [⟨(some 6), .mov (.k (.bool false)), none⟩] [0, 1, 2])
  (.seqT (.seq (.reg [⟨(some 25), .mov (.t 0), none⟩,
      ⟨(some 26), .len 1 (.t 25), none⟩,
      ⟨(some 27), .mov (.t 1), none⟩,
      ⟨(some 28), .len 1 (.t 27), none⟩,
      ⟨(some 29), .mov (.t 2), none⟩,
      ⟨(some 30), .len 1 (.t 29), none⟩,
      ⟨(some 31), .buildSlice 1 [(.int .i64 0)] 3 [(0, (.t 26)), (1, (.t 28)), (2, (.t 30))] false, none⟩,
      ⟨(some 32), .call (.f 27) [(.t 31)] false, none⟩] [0, 1, 2, 32])
   (.cond (.t 32) (.seq (.reg [⟨(some 33), .call (.f 28) [] false, none⟩,
       ⟨(some 6), .mov (.t 33), none⟩] [6])
    (.ret))
   (.skip))) [0, 1, 2] b8_24)
def b8 : C := c8 b8_24
def f8 : IFn := { body := b8, params := 3, res := [(6, none)], pop := false, keep := false }
theorem ok8 : okFn Try.prog 8 f8 = true := by kernel_rfl

-- resolvent/resolventlaw17.PairsGrow
def b9_0 : C :=
  .reg [⟨(some 93), .mov (.t 15), none⟩,
    ⟨(some 94), .bin .add (.t 93) (.k (.int .i64 1)), none⟩,
    ⟨(some 15), .mov (.t 94), none⟩] [0, 2, 10, 12, 13, 14, 15]
def c9_1 (b9_0 : C) : C :=
  .seqT (.block 1 (.seq (.reg [⟨(some 95), .mov (.t 13), none⟩,
       ⟨(some 96), .mov (.t 12), none⟩,
       ⟨(some 97), .mov (.t 15), none⟩,
       ⟨(some 98), .indexAddr 1 (.t 96) (.t 97), none⟩,
       ⟨(some 99), .load none (.t 98), none⟩,
       ⟨(some 100), .call (.f 40) [(.t 95), (.t 99)] false, none⟩,
       ⟨(some 101), .un .not (.t 100), none⟩,
       ⟨(some 102), .mov (.t 101), none⟩,
       ⟨(some 103), .mov (.t 14), some (102, false)⟩,
       ⟨(some 104), .mov (.t 12), some (102, false)⟩,
       ⟨(some 105), .mov (.t 15), some (102, false)⟩,
       ⟨(some 106), .indexAddr 1 (.t 104) (.t 105), some (102, false)⟩,
       ⟨(some 107), .load none (.t 106), some (102, false)⟩,
       ⟨(some 108), .call (.f 40) [(.t 103), (.t 107)] false, some (102, false)⟩,
       ⟨(some 109), .un .not (.t 108), some (102, false)⟩,
       ⟨(some 110), .pick (.t 102) (.k (.bool true)) (.t 109), none⟩] [0, 2, 10, 12, 13, 14, 15, 110])
    (.cond (.t 110) (.seq (.reg [⟨(some 8), .mov (.k (.bool false)), none⟩] [8])
     (.ret))
    (.skip)))) [0, 2, 10, 12, 13, 14, 15] b9_0
def b9_1 : C := c9_1 b9_0
def c9_2 (b9_1 : C) : C :=
  .seqT (.seq (.reg [⟨(some 89), .mov (.t 15), none⟩,
      ⟨(some 90), .mov (.t 12), none⟩,
      ⟨(some 91), .len 1 (.t 90), none⟩,
      ⟨(some 92), .bin .lss (.t 89) (.t 91), none⟩] [0, 2, 10, 12, 13, 14, 15, 92])
   (.cond (.t 92) (.skip)
   (.exit 0))) [0, 2, 10, 12, 13, 14, 15] b9_1
def b9_2 : C := c9_2 b9_1
def b9_3 : C :=
  .reg [⟨(some 133), .mov (.t 20), none⟩,
    ⟨(some 134), .bin .add (.t 133) (.k (.int .i64 1)), none⟩,
    ⟨(some 20), .mov (.t 134), none⟩] [0, 2, 10, 16, 17, 18, 19, 20]
def c9_4 (b9_3 : C) : C :=
  .seqT (.block 5 (.seq (.reg [⟨(some 135), .mov (.t 19), none⟩,
       ⟨(some 136), .mov (.t 16), none⟩,
       ⟨(some 137), .mov (.t 20), none⟩,
       ⟨(some 138), .indexAddr 1 (.t 136) (.t 137), none⟩,
       ⟨(some 139), .load none (.t 138), none⟩,
       ⟨(some 140), .call (.f 40) [(.t 135), (.t 139)] false, none⟩,
       ⟨(some 141), .un .not (.t 140), none⟩] [0, 2, 10, 16, 17, 18, 19, 20, 141])
    (.cond (.t 141) (.seq (.reg [⟨(some 8), .mov (.k (.bool false)), none⟩] [8])
     (.ret))
    (.skip)))) [0, 2, 10, 16, 17, 18, 19, 20] b9_3
def b9_4 : C := c9_4 b9_3
def c9_5 (b9_4 : C) : C :=
  .seqT (.seq (.reg [⟨(some 129), .mov (.t 20), none⟩,
      ⟨(some 130), .mov (.t 16), none⟩,
      ⟨(some 131), .len 1 (.t 130), none⟩,
      ⟨(some 132), .bin .lss (.t 129) (.t 131), none⟩] [0, 2, 10, 16, 17, 18, 19, 20, 132])
   (.cond (.t 132) (.skip)
   (.exit 4))) [0, 2, 10, 16, 17, 18, 19, 20] b9_4
def b9_5 : C := c9_5 b9_4
def b9_6 : C :=
  .seq (.reg [⟨(some 142), .mov (.t 17), none⟩,
     ⟨(some 143), .mov (.t 16), none⟩,
     ⟨(some 144), .mov (.t 18), none⟩,
     ⟨(some 145), .mov (.t 18), none⟩,
     ⟨(some 146), .bin .add (.t 145) (.k (.int .i64 1)), none⟩,
     ⟨(some 147), .slice 1 (.t 143) (some (.t 144)) (some (.t 146)), none⟩,
     ⟨(some 148), .call (.f 36) [(.t 142), (.t 147)] false, none⟩,
     ⟨(some 149), .len 1 (.t 148), none⟩,
     ⟨(some 150), .bin .neq (.t 149) (.k (.int .i64 1)), none⟩] [0, 2, 10, 16, 17, 18, 150])
  (.cond (.t 150) (.seq (.reg [⟨(some 8), .mov (.k (.bool false)), none⟩] [8])
   (.ret))
  (.skip))
def b9_7 : C :=
  .reg [⟨(some 120), .mov (.t 18), none⟩,
    ⟨(some 121), .bin .add (.t 120) (.k (.int .i64 1)), none⟩,
    ⟨(some 18), .mov (.t 121), none⟩] [0, 2, 10, 16, 17, 18]
def c9_8 (b9_5 b9_6 b9_7 : C) : C :=
  .seqT (.block 3 (.seq (.reg [⟨(some 122), .mov (.t 10), none⟩,
       ⟨(some 123), .mov (.t 16), none⟩,
       ⟨(some 124), .mov (.t 18), none⟩,
       ⟨(some 125), .mov (.t 18), none⟩,
       ⟨(some 126), .bin .add (.t 125) (.k (.int .i64 1)), none⟩,
       ⟨(some 127), .slice 1 (.t 123) (some (.t 124)) (some (.t 126)), none⟩,
       ⟨(some 128), .call (.f 36) [(.t 122), (.t 127)] false, none⟩,
       ⟨(some 19), .mov (.t 128), none⟩] [0, 2, 10, 16, 17, 18, 19])
    (.seqT (.seq (.reg [⟨(some 20), .mov (.k (.int .i64 0)), none⟩] [0, 2, 10, 16, 17, 18, 19, 20])
     (.block 4 (.loop [0, 2, 10, 16, 17, 18, 19, 20] false b9_5))) [0, 2, 10, 16, 17, 18] b9_6))) [0, 2, 10, 16, 17, 18] b9_7
def b9_8 : C := c9_8 b9_5 b9_6 b9_7
def c9_9 (b9_8 : C) : C :=
  .seqT (.seq (.reg [⟨(some 116), .mov (.t 18), none⟩,
      ⟨(some 117), .mov (.t 16), none⟩,
      ⟨(some 118), .len 1 (.t 117), none⟩,
      ⟨(some 119), .bin .lss (.t 116) (.t 118), none⟩] [0, 2, 10, 16, 17, 18, 119])
   (.cond (.t 119) (.skip)
   (.exit 2))) [0, 2, 10, 16, 17, 18] b9_8
def b9_9 : C := c9_9 b9_8
def b9_10 : C :=
  .seq (.reg [⟨(some 151), .mov (.t 0), none⟩,
     ⟨(some 152), .mov (.t 2), none⟩,
     ⟨(some 153), .call (.f 35) [(.t 151), (.t 152)] false, none⟩,
     ⟨(some 154), .mov (.t 17), none⟩,
     ⟨(some 155), .call (.f 43) [(.t 153), (.t 154)] false, none⟩,
     ⟨(some 156), .mov (.t 155), none⟩,
     ⟨(some 157), .call (.f 28) [] false, some (156, true)⟩,
     ⟨(some 158), .pick (.t 156) (.t 157) (.k (.bool false)), none⟩,
     ⟨(some 8), .mov (.t 158), none⟩] [8])
  (.ret)
def c9_11 (b9_9 b9_10 : C) : C :=
  .seq (.reg [⟨(some 111), .mov (.t 2), none⟩,
     ⟨(some 112), .call (.f 37) [(.t 111)] false, none⟩,
     ⟨(some 16), .mov (.t 112), none⟩] [0, 2, 10, 16])
  (.seq (.reg [⟨(some 113), .mov (.t 10), none⟩,
     ⟨(some 114), .mov (.t 2), none⟩,
     ⟨(some 115), .call (.f 35) [(.t 113), (.t 114)] false, none⟩,
     ⟨(some 17), .mov (.t 115), none⟩] [0, 2, 10, 16, 17])
  (.seqT (.seq (.reg [⟨(some 18), .mov (.k (.int .i64 0)), none⟩] [0, 2, 10, 16, 17, 18])
   (.block 2 (.loop [0, 2, 10, 16, 17, 18] false b9_9))) [0, 2, 17] b9_10))
def b9_11 : C := c9_11 b9_9 b9_10
def c9_12 (b9_2 b9_11 : C) : C :=
  .seqT (.seq (.reg [⟨(some 15), .mov (.k (.int .i64 0)), none⟩] [0, 2, 10, 12, 13, 14, 15])
   (.block 0 (.loop [0, 2, 10, 12, 13, 14, 15] false b9_2))) [0, 2, 10] b9_11
def b9_12 : C := c9_12 b9_2 b9_11
def c9_13 (b9_12 : C) : C :=
  .seq (.reg [⟨(some 32), .mov (.t 0), none⟩,
     ⟨(some 33), .mov (.t 1), none⟩,
     ⟨(some 34), .call (.f 33) [(.t 32), (.t 33)] false, none⟩,
     ⟨(some 9), .mov (.t 34), none⟩] [0, 1, 2, 3, 9])
  (.seq (.reg [⟨(some 35), .mov (.t 0), none⟩,
     ⟨(some 36), .mov (.t 2), none⟩,
     ⟨(some 37), .call (.f 34) [(.t 35), (.t 36)] false, none⟩,
     ⟨(some 10), .mov (.t 37), none⟩] [0, 1, 2, 3, 9, 10])
  (.seq (.reg [⟨(some 38), .mov (.t 2), none⟩,
     ⟨(some 39), .append 1 8 (.k (.list .full 0 [])) (.t 38) 0, none⟩,
     ⟨(some 40), .mov (.t 3), none⟩,
     ⟨(some 41), .append 1 8 (.t 39) (.t 40) 0, none⟩,
     ⟨(some 11), .mov (.t 41), none⟩] [0, 1, 2, 9, 10, 11])
  (.seq (.reg [⟨(some 42), .mov (.t 0), none⟩,
     ⟨(some 43), .mov (.t 2), none⟩,
     ⟨(some 44), .call (.f 36) [(.t 42), (.t 43)] false, none⟩,
     ⟨(some 45), .mov (.t 9), none⟩,
     ⟨(some 46), .mov (.t 2), none⟩,
     ⟨(some 47), .call (.f 36) [(.t 45), (.t 46)] false, none⟩,
     ⟨(some 48), .mov (.t 0), none⟩,
     ⟨(some 49), .mov (.t 11), none⟩,
     ⟨(some 50), .call (.f 36) [(.t 48), (.t 49)] false, none⟩,
     ⟨(some 12), .mov (.t 44), none⟩,
     ⟨(some 13), .mov (.t 47), none⟩,
     ⟨(some 14), .mov (.t 50), none⟩] [0, 1, 2, 9, 10, 12, 13, 14])
  (.seqT (.seq (.reg [⟨(some 51), .mov (.t 9), none⟩,
      ⟨(some 52), .mov (.t 1), none⟩,
      ⟨(some 53), .mov (.t 0), none⟩,
      ⟨(some 54), .call (.f 33) [(.t 52), (.t 53)] false, none⟩,
      ⟨(some 55), .call (.f 43) [(.t 51), (.t 54)] false, none⟩,
      ⟨(some 56), .un .not (.t 55), none⟩,
      ⟨(some 57), .mov (.t 56), none⟩,
      ⟨(some 58), .mov (.t 9), some (57, false)⟩,
      ⟨(some 59), .mov (.t 0), some (57, false)⟩,
      ⟨(some 60), .call (.f 33) [(.t 58), (.t 59)] false, some (57, false)⟩,
      ⟨(some 61), .mov (.t 9), some (57, false)⟩,
      ⟨(some 62), .call (.f 43) [(.t 60), (.t 61)] false, some (57, false)⟩,
      ⟨(some 63), .un .not (.t 62), some (57, false)⟩,
      ⟨(some 64), .pick (.t 57) (.k (.bool true)) (.t 63), none⟩,
      ⟨(some 65), .mov (.t 64), none⟩,
      ⟨(some 66), .mov (.t 10), some (65, false)⟩,
      ⟨(some 67), .mov (.t 2), some (65, false)⟩,
      ⟨(some 68), .call (.f 34) [(.t 66), (.t 67)] false, some (65, false)⟩,
      ⟨(some 69), .mov (.t 10), some (65, false)⟩,
      ⟨(some 70), .call (.f 43) [(.t 68), (.t 69)] false, some (65, false)⟩,
      ⟨(some 71), .un .not (.t 70), some (65, false)⟩,
      ⟨(some 72), .pick (.t 65) (.k (.bool true)) (.t 71), none⟩,
      ⟨(some 73), .mov (.t 72), none⟩,
      ⟨(some 74), .mov (.t 9), some (73, false)⟩,
      ⟨(some 75), .call (.f 32) [(.t 74)] false, some (73, false)⟩,
      ⟨(some 76), .mov (.t 9), some (73, false)⟩,
      ⟨(some 77), .call (.f 43) [(.t 75), (.t 76)] false, some (73, false)⟩,
      ⟨(some 78), .un .not (.t 77), some (73, false)⟩,
      ⟨(some 79), .pick (.t 73) (.k (.bool true)) (.t 78), none⟩,
      ⟨(some 80), .mov (.t 79), none⟩,
      ⟨(some 81), .mov (.t 0), some (80, false)⟩,
      ⟨(some 82), .call (.f 32) [(.t 81)] false, some (80, false)⟩,
      ⟨(some 83), .call (.f 33) [(.t 82), (.k (.list .full 0 []))] false, some (80, false)⟩,
      ⟨(some 84), .mov (.t 0), some (80, false)⟩,
      ⟨(some 85), .call (.f 32) [(.t 84)] false, some (80, false)⟩,
      ⟨(some 86), .call (.f 43) [(.t 83), (.t 85)] false, some (80, false)⟩,
      ⟨(some 87), .un .not (.t 86), some (80, false)⟩,
      ⟨(some 88), .pick (.t 80) (.k (.bool true)) (.t 87), none⟩] [0, 2, 10, 12, 13, 14, 88])
   (.cond (.t 88) (.seq (.reg [⟨(some 8), .mov (.k (.bool false)), none⟩] [8])
    (.ret))
   (.skip))) [0, 2, 10, 12, 13, 14] b9_12))))
def b9_13 : C := c9_13 b9_12
def c9 (b9_13 : C) : C :=
  .seq (.reg [⟨(some 8), .mov (.k (.bool false)), none⟩] [0, 1, 2, 3])
  (.seqT (.seq (.reg [⟨(some 21), .mov (.t 0), none⟩,
      ⟨(some 22), .len 1 (.t 21), none⟩,
      ⟨(some 23), .mov (.t 1), none⟩,
      ⟨(some 24), .len 1 (.t 23), none⟩,
      ⟨(some 25), .mov (.t 2), none⟩,
      ⟨(some 26), .len 1 (.t 25), none⟩,
      ⟨(some 27), .mov (.t 3), none⟩,
      ⟨(some 28), .len 1 (.t 27), none⟩,
      ⟨(some 29), .buildSlice 1 [(.int .i64 0)] 4 [(0, (.t 22)), (1, (.t 24)), (2, (.t 26)), (3, (.t 28))] false, none⟩,
      ⟨(some 30), .call (.f 27) [(.t 29)] false, none⟩] [0, 1, 2, 3, 30])
   (.cond (.t 30) (.seq (.reg [⟨(some 31), .call (.f 28) [] false, none⟩,
       ⟨(some 8), .mov (.t 31), none⟩] [8])
    (.ret))
   (.skip))) [0, 1, 2, 3] b9_13)
def b9 : C := c9 b9_13
def f9 : IFn := { body := b9, params := 4, res := [(8, none)], pop := false, keep := false }
theorem ok9 : okFn Try.prog 9 f9 = true := by kernel_rfl

-- resolvent/resolventlaw17.great
def b27_0 : C :=
  .reg [⟨(some 8), .mov (.t 3), none⟩,
    ⟨(some 9), .bin .add (.t 8) (.k (.int .i64 1)), none⟩,
    ⟨(some 3), .mov (.t 9), none⟩] [0, 3]
def c27_1 (b27_0 : C) : C :=
  .seqT (.block 1 (.seq (.reg [⟨(some 10), .mov (.t 0), none⟩,
       ⟨(some 11), .mov (.t 3), none⟩,
       ⟨(some 12), .indexAddr 1 (.t 10) (.t 11), none⟩,
       ⟨(some 13), .load none (.t 12), none⟩,
       ⟨(some 14), .bin .gtr (.t 13) (.k (.int .i64 40)), none⟩] [0, 3, 14])
    (.cond (.t 14) (.seq (.reg [⟨(some 2), .mov (.k (.bool true)), none⟩] [2])
     (.ret))
    (.skip)))) [0, 3] b27_0
def b27_1 : C := c27_1 b27_0
def c27_2 (b27_1 : C) : C :=
  .seqT (.seq (.reg [⟨(some 4), .mov (.t 3), none⟩,
      ⟨(some 5), .mov (.t 0), none⟩,
      ⟨(some 6), .len 1 (.t 5), none⟩,
      ⟨(some 7), .bin .lss (.t 4) (.t 6), none⟩] [0, 3, 7])
   (.cond (.t 7) (.skip)
   (.exit 0))) [0, 3] b27_1
def b27_2 : C := c27_2 b27_1
def b27_3 : C :=
  .seq (.reg [⟨(some 2), .mov (.k (.bool false)), none⟩] [2])
  (.ret)
def c27 (b27_2 b27_3 : C) : C :=
  .seq (.reg [⟨(some 2), .mov (.k (.bool false)), none⟩] [0])
  (.seqT (.seq (.reg [⟨(some 3), .mov (.k (.int .i64 0)), none⟩] [0, 3])
   (.block 0 (.loop [0, 3] false b27_2))) [] b27_3)
def b27 : C := c27 b27_2 b27_3
def f27 : IFn := { body := b27, params := 1, res := [(2, none)], pop := false, keep := false }
theorem ok27 : okFn Try.prog 27 f27 = true := by kernel_rfl

-- resolvent/resolventlaw17.wakes
def b28 : C :=
  .seq (.reg [⟨(some 0), .mov (.k (.bool false)), none⟩] [])
  (.seq (.reg [⟨(some 4), .build [(.int .i64 0), (.int .i64 0)] [(0, 1, (.k (.int .i64 3))), (1, 1, (.k (.int .i64 1)))], none⟩,
     ⟨(some 5), .build [(.int .i64 0), (.int .i64 0)] [(0, 1, (.k (.int .i64 1))), (1, 1, (.k (.int .i64 3)))], none⟩,
     ⟨(some 6), .build [(.int .i64 0), (.int .i64 0)] [(0, 1, (.k (.int .i64 2))), (1, 1, (.k (.int .i64 2)))], none⟩,
     ⟨(some 7), .buildSlice 2 [(.int .i64 0), (.int .i64 0)] 3 [(0, (.t 4)), (1, (.t 5)), (2, (.t 6))] false, none⟩,
     ⟨(some 8), .call (.f 32) [(.t 7)] false, none⟩,
     ⟨(some 1), .mov (.t 8), none⟩] [1])
  (.seq (.reg [⟨(some 9), .build [(.int .i64 0), (.int .i64 0)] [(0, 1, (.k (.int .i64 1))), (1, 1, (.k (.int .i64 3)))], none⟩,
     ⟨(some 10), .build [(.int .i64 0), (.int .i64 0)] [(0, 1, (.k (.int .i64 3))), (1, 1, (.k (.int .i64 5)))], none⟩,
     ⟨(some 11), .buildSlice 2 [(.int .i64 0), (.int .i64 0)] 2 [(0, (.t 9)), (1, (.t 10))] false, none⟩,
     ⟨(some 12), .buildSlice 1 [(.int .i64 0)] 1 [(0, (.k (.int .i64 3)))] false, none⟩,
     ⟨(some 13), .call (.f 36) [(.t 11), (.t 12)] false, none⟩,
     ⟨(some 2), .mov (.t 13), none⟩] [1, 2])
  (.seq (.reg [⟨(some 14), .build [(.int .i64 0), (.int .i64 0)] [(0, 1, (.k (.int .i64 1))), (1, 1, (.k (.int .i64 3)))], none⟩,
     ⟨(some 15), .build [(.int .i64 0), (.int .i64 0)] [(0, 1, (.k (.int .i64 2))), (1, 1, (.k (.int .i64 4)))], none⟩,
     ⟨(some 16), .buildSlice 2 [(.int .i64 0), (.int .i64 0)] 2 [(0, (.t 14)), (1, (.t 15))] false, none⟩,
     ⟨(some 17), .buildSlice 1 [(.int .i64 0)] 1 [(0, (.k (.int .i64 3)))] false, none⟩,
     ⟨(some 18), .call (.f 35) [(.t 16), (.t 17)] false, none⟩,
     ⟨(some 3), .mov (.t 18), none⟩] [1, 2, 3])
  (.seq (.reg [⟨(some 19), .mov (.t 1), none⟩,
     ⟨(some 20), .len 1 (.t 19), none⟩,
     ⟨(some 21), .bin .eql (.t 20) (.k (.int .i64 1)), none⟩,
     ⟨(some 22), .mov (.t 21), none⟩,
     ⟨(some 23), .mov (.t 1), some (22, true)⟩,
     ⟨(some 24), .indexAddr 2 (.t 23) (.k (.int .i64 0)), some (22, true)⟩,
     ⟨(some 25), .load (some 2) (.t 24), some (22, true)⟩,
     ⟨(some 26), .build [(.int .i64 0), (.int .i64 0)] [(0, 1, (.k (.int .i64 1))), (1, 1, (.k (.int .i64 3)))], some (22, true)⟩,
     ⟨(some 27), .eqv ⟨[.i, .i], true⟩ false (.t 25) (.t 26), some (22, true)⟩,
     ⟨(some 28), .pick (.t 22) (.t 27) (.k (.bool false)), none⟩,
     ⟨(some 29), .mov (.t 28), none⟩,
     ⟨(some 30), .mov (.t 2), some (29, true)⟩,
     ⟨(some 31), .len 1 (.t 30), some (29, true)⟩,
     ⟨(some 32), .bin .eql (.t 31) (.k (.int .i64 3)), some (29, true)⟩,
     ⟨(some 33), .pick (.t 29) (.t 32) (.k (.bool false)), none⟩,
     ⟨(some 34), .mov (.t 33), none⟩,
     ⟨(some 35), .mov (.t 2), some (34, true)⟩,
     ⟨(some 36), .indexAddr 1 (.t 35) (.k (.int .i64 2)), some (34, true)⟩,
     ⟨(some 37), .load none (.t 36), some (34, true)⟩,
     ⟨(some 38), .bin .eql (.t 37) (.k (.int .i64 5)), some (34, true)⟩,
     ⟨(some 39), .pick (.t 34) (.t 38) (.k (.bool false)), none⟩,
     ⟨(some 40), .mov (.t 39), none⟩,
     ⟨(some 41), .mov (.t 3), some (40, true)⟩,
     ⟨(some 42), .len 1 (.t 41), some (40, true)⟩,
     ⟨(some 43), .bin .eql (.t 42) (.k (.int .i64 1)), some (40, true)⟩,
     ⟨(some 44), .pick (.t 40) (.t 43) (.k (.bool false)), none⟩,
     ⟨(some 45), .mov (.t 44), none⟩,
     ⟨(some 46), .mov (.t 3), some (45, true)⟩,
     ⟨(some 47), .indexAddr 2 (.t 46) (.k (.int .i64 0)), some (45, true)⟩,
     ⟨(some 48), .load (some 2) (.t 47), some (45, true)⟩,
     ⟨(some 49), .build [(.int .i64 0), (.int .i64 0)] [(0, 1, (.k (.int .i64 2))), (1, 1, (.k (.int .i64 4)))], some (45, true)⟩,
     ⟨(some 50), .eqv ⟨[.i, .i], true⟩ false (.t 48) (.t 49), some (45, true)⟩,
     ⟨(some 51), .pick (.t 45) (.t 50) (.k (.bool false)), none⟩,
     ⟨(some 52), .mov (.t 51), none⟩,
     ⟨(some 53), .build [(.int .i64 0), (.int .i64 0)] [(0, 1, (.k (.int .i64 1))), (1, 1, (.k (.int .i64 3)))], some (52, true)⟩,
     ⟨(some 54), .buildSlice 2 [(.int .i64 0), (.int .i64 0)] 1 [(0, (.t 53))] false, some (52, true)⟩,
     ⟨(some 55), .call (.f 42) [(.t 54), (.k (.int .i64 3)), (.k (.int .i64 1))] false, some (52, true)⟩,
     ⟨(some 56), .pick (.t 52) (.t 55) (.k (.bool false)), none⟩,
     ⟨(some 0), .mov (.t 56), none⟩] [0])
  (.ret)))))
def f28 : IFn := { body := b28, params := 0, res := [(0, none)], pop := true, keep := false }
theorem ok28 : okFn Try.prog 28 f28 = true := by kernel_rfl

-- resolvent/pairs.Rename
def b29_0 : C :=
  .reg [⟨(some 6), .new [(.int .i64 0), (.int .i64 0)], none⟩,
    ⟨none, .store 2 (.t 6) (.t 9), none⟩] [3, 5, 6]
def d29_1 : List (IOper × Nat × Nat) :=
  [(⟨(some 15), .load none (.t 5), none⟩, 0, 1),
    (⟨(some 16), .load none (.t 3), none⟩, 0, 1),
    (⟨(some 17), .indexAddrA 2 1 (.t 6) (.k (.int .i64 0)), none⟩, 0, 0),
    (⟨(some 18), .load none (.t 17), none⟩, 0, 1),
    (⟨(some 19), .indexAddr 1 (.t 16) (.t 18), none⟩, 0, 0),
    (⟨(some 20), .load none (.t 19), none⟩, 0, 1),
    (⟨(some 21), .load none (.t 3), none⟩, 0, 1),
    (⟨(some 22), .indexAddrA 2 1 (.t 6) (.k (.int .i64 1)), none⟩, 0, 0),
    (⟨(some 23), .load none (.t 22), none⟩, 0, 1),
    (⟨(some 24), .indexAddr 1 (.t 21) (.t 23), none⟩, 0, 0),
    (⟨(some 25), .load none (.t 24), none⟩, 0, 1),
    (⟨(some 26), .build [(.int .i64 0), (.int .i64 0)] [(0, 1, (.t 20)), (1, 1, (.t 25))], none⟩, 0, 0),
    (⟨(some 27), .buildSlice 2 [(.int .i64 0), (.int .i64 0)] 1 [(0, (.t 26))] false, none⟩, 0, 0),
    (⟨(some 28), .append 2 16 (.t 15) (.t 27) 0, none⟩, 0, 0),
    (⟨none, .store 1 (.t 5) (.t 28), none⟩, 0, 0)]
def b29_2 : C :=
  .block 1 (.seq (.reg [⟨(some 10), .indexAddrA 2 1 (.t 6) (.k (.int .i64 1)), none⟩,
      ⟨(some 11), .load none (.t 10), none⟩,
      ⟨(some 12), .load none (.t 3), none⟩,
      ⟨(some 13), .len 1 (.t 12), none⟩,
      ⟨(some 14), .bin .lss (.t 11) (.t 13), none⟩] [3, 5, 6, 14])
   (.cond (.t 14) (.regD d29_1 [])
   (.skip)))
def b29_3 : C :=
  .seq (.reg [⟨(some 29), .load none (.t 5), none⟩,
     ⟨(some 30), .call (.f 32) [(.t 29)] false, none⟩,
     ⟨(some 4), .mov (.t 30), none⟩] [4])
  (.ret)
def c29 (b29_0 b29_2 b29_3 : C) : C :=
  .seq (.reg [⟨(some 3), .box (.t 1), none⟩,
     ⟨(some 4), .mov (.k (.list .full 2 [])), none⟩] [0, 3, 4])
  (.seq (.reg [⟨(some 5), .new [(.list .full 0 [])], none⟩] [0, 3, 4, 5])
  (.seqT (.seq (.reg [⟨(some 7), .mov (.t 0), none⟩,
      ⟨(some 8), .call (.f 61) [(.t 7)] false, none⟩] [3, 4, 5, 8])
   (.block 0 (.rangeFunc (.t 8) [9] b29_0 b29_2 [3, 4, 5]))) [5] b29_3))
def b29 : C := c29 b29_0 b29_2 b29_3
def f29 : IFn := { body := b29, params := 2, res := [(4, none)], pop := false, keep := false }
theorem ok29 : okFn Try.prog 29 f29 = true := by kernel_rfl

-- resolvent/resolventref17.Form
def d30_0 : List (IOper × Nat × Nat) :=
  [(⟨(some 10), .mov (.t 0), none⟩, 0, 0),
    (⟨(some 11), .mov (.t 3), none⟩, 0, 0),
    (⟨(some 12), .indexAddr 2 (.t 10) (.t 11), none⟩, 0, 0),
    (⟨(some 13), .indexAddrA 2 1 (.t 12) (.k (.int .i64 0)), none⟩, 0, 0),
    (⟨(some 14), .load none (.t 13), none⟩, 0, 1),
    (⟨(some 15), .bin .lss (.t 14) (.k (.int .i64 0)), none⟩, 0, 0),
    (⟨(some 16), .mov (.t 15), none⟩, 0, 0),
    (⟨(some 17), .mov (.t 0), some (16, false)⟩, 0, 0),
    (⟨(some 18), .mov (.t 3), some (16, false)⟩, 0, 0),
    (⟨(some 19), .indexAddr 2 (.t 17) (.t 18), some (16, false)⟩, 0, 0),
    (⟨(some 20), .indexAddrA 2 1 (.t 19) (.k (.int .i64 0)), some (16, false)⟩, 0, 0),
    (⟨(some 21), .load none (.t 20), some (16, false)⟩, 0, 1),
    (⟨(some 22), .mov (.t 0), some (16, false)⟩, 0, 0),
    (⟨(some 23), .mov (.t 3), some (16, false)⟩, 0, 0),
    (⟨(some 24), .indexAddr 2 (.t 22) (.t 23), some (16, false)⟩, 0, 0),
    (⟨(some 25), .indexAddrA 2 1 (.t 24) (.k (.int .i64 1)), some (16, false)⟩, 0, 0),
    (⟨(some 26), .load none (.t 25), some (16, false)⟩, 0, 1),
    (⟨(some 27), .bin .geq (.t 21) (.t 26), some (16, false)⟩, 0, 0),
    (⟨(some 28), .pick (.t 16) (.k (.bool true)) (.t 27), none⟩, 0, 0)]
def d30_1 : List (IOper × Nat × Nat) :=
  [(⟨(some 29), .mov (.t 3), none⟩, 0, 0),
    (⟨(some 30), .bin .gtr (.t 29) (.k (.int .i64 0)), none⟩, 0, 0),
    (⟨(some 31), .mov (.t 30), none⟩, 0, 0),
    (⟨(some 32), .mov (.t 0), some (31, true)⟩, 0, 0),
    (⟨(some 33), .mov (.t 3), some (31, true)⟩, 0, 0),
    (⟨(some 34), .bin .sub (.t 33) (.k (.int .i64 1)), some (31, true)⟩, 0, 0),
    (⟨(some 35), .indexAddr 2 (.t 32) (.t 34), some (31, true)⟩, 0, 0),
    (⟨(some 36), .indexAddrA 2 1 (.t 35) (.k (.int .i64 0)), some (31, true)⟩, 0, 0),
    (⟨(some 37), .load none (.t 36), some (31, true)⟩, 0, 1),
    (⟨(some 38), .mov (.t 0), some (31, true)⟩, 0, 0),
    (⟨(some 39), .mov (.t 3), some (31, true)⟩, 0, 0),
    (⟨(some 40), .indexAddr 2 (.t 38) (.t 39), some (31, true)⟩, 0, 0),
    (⟨(some 41), .indexAddrA 2 1 (.t 40) (.k (.int .i64 0)), some (31, true)⟩, 0, 0),
    (⟨(some 42), .load none (.t 41), some (31, true)⟩, 0, 1),
    (⟨(some 43), .bin .gtr (.t 37) (.t 42), some (31, true)⟩, 0, 0),
    (⟨(some 44), .mov (.t 43), some (31, true)⟩, 0, 0),
    (⟨(some 45), .mov (.t 0), some (44, false)⟩, 0, 0),
    (⟨(some 46), .mov (.t 3), some (44, false)⟩, 0, 0),
    (⟨(some 47), .bin .sub (.t 46) (.k (.int .i64 1)), some (44, false)⟩, 0, 0),
    (⟨(some 48), .indexAddr 2 (.t 45) (.t 47), some (44, false)⟩, 0, 0),
    (⟨(some 49), .indexAddrA 2 1 (.t 48) (.k (.int .i64 0)), some (44, false)⟩, 0, 0),
    (⟨(some 50), .load none (.t 49), some (44, false)⟩, 0, 1),
    (⟨(some 51), .mov (.t 0), some (44, false)⟩, 0, 0),
    (⟨(some 52), .mov (.t 3), some (44, false)⟩, 0, 0),
    (⟨(some 53), .indexAddr 2 (.t 51) (.t 52), some (44, false)⟩, 0, 0),
    (⟨(some 54), .indexAddrA 2 1 (.t 53) (.k (.int .i64 0)), some (44, false)⟩, 0, 0),
    (⟨(some 55), .load none (.t 54), some (44, false)⟩, 0, 1),
    (⟨(some 56), .bin .eql (.t 50) (.t 55), some (44, false)⟩, 0, 0),
    (⟨(some 57), .mov (.t 56), some (44, false)⟩, 0, 0),
    (⟨(some 58), .mov (.t 0), some (57, true)⟩, 0, 0),
    (⟨(some 59), .mov (.t 3), some (57, true)⟩, 0, 0),
    (⟨(some 60), .bin .sub (.t 59) (.k (.int .i64 1)), some (57, true)⟩, 0, 0),
    (⟨(some 61), .indexAddr 2 (.t 58) (.t 60), some (57, true)⟩, 0, 0),
    (⟨(some 62), .indexAddrA 2 1 (.t 61) (.k (.int .i64 1)), some (57, true)⟩, 0, 0),
    (⟨(some 63), .load none (.t 62), some (57, true)⟩, 0, 1),
    (⟨(some 64), .mov (.t 0), some (57, true)⟩, 0, 0),
    (⟨(some 65), .mov (.t 3), some (57, true)⟩, 0, 0),
    (⟨(some 66), .indexAddr 2 (.t 64) (.t 65), some (57, true)⟩, 0, 0),
    (⟨(some 67), .indexAddrA 2 1 (.t 66) (.k (.int .i64 1)), some (57, true)⟩, 0, 0),
    (⟨(some 68), .load none (.t 67), some (57, true)⟩, 0, 1),
    (⟨(some 69), .bin .geq (.t 63) (.t 68), some (57, true)⟩, 0, 0),
    (⟨(some 70), .pick (.t 57) (.t 69) (.k (.bool false)), some (44, false)⟩, 0, 0),
    (⟨(some 71), .pick (.t 44) (.k (.bool true)) (.t 70), some (31, true)⟩, 0, 0),
    (⟨(some 72), .pick (.t 31) (.t 71) (.k (.bool false)), none⟩, 0, 0)]
def b30_2 : C :=
  .seq (.regD d30_1 [0, 3, 72])
  (.cond (.t 72) (.seq (.reg [⟨(some 2), .mov (.k (.bool false)), none⟩] [2])
   (.ret))
  (.skip))
def b30_3 : C :=
  .reg [⟨(some 8), .mov (.t 3), none⟩,
    ⟨(some 9), .bin .add (.t 8) (.k (.int .i64 1)), none⟩,
    ⟨(some 3), .mov (.t 9), none⟩] [0, 3]
def c30_4 (b30_2 b30_3 : C) : C :=
  .seqT (.block 1 (.seqT (.seq (.regD d30_0 [0, 3, 28])
     (.cond (.t 28) (.seq (.reg [⟨(some 2), .mov (.k (.bool false)), none⟩] [2])
      (.ret))
     (.skip))) [0, 3] b30_2)) [0, 3] b30_3
def b30_4 : C := c30_4 b30_2 b30_3
def c30_5 (b30_4 : C) : C :=
  .seqT (.seq (.reg [⟨(some 4), .mov (.t 3), none⟩,
      ⟨(some 5), .mov (.t 0), none⟩,
      ⟨(some 6), .len 1 (.t 5), none⟩,
      ⟨(some 7), .bin .lss (.t 4) (.t 6), none⟩] [0, 3, 7])
   (.cond (.t 7) (.skip)
   (.exit 0))) [0, 3] b30_4
def b30_5 : C := c30_5 b30_4
def b30_6 : C :=
  .seq (.reg [⟨(some 2), .mov (.k (.bool true)), none⟩] [2])
  (.ret)
def c30 (b30_5 b30_6 : C) : C :=
  .seq (.reg [⟨(some 2), .mov (.k (.bool false)), none⟩] [0])
  (.seqT (.seq (.reg [⟨(some 3), .mov (.k (.int .i64 0)), none⟩] [0, 3])
   (.block 0 (.loop [0, 3] false b30_5))) [] b30_6)
def b30 : C := c30 b30_5 b30_6
def f30 : IFn := { body := b30, params := 1, res := [(2, none)], pop := false, keep := false }
theorem ok30 : okFn Try.prog 30 f30 = true := by kernel_rfl

-- resolvent/resolventref17.Has
def b31_0 : C :=
  .reg [⟨(some 23), .mov (.t 7), none⟩,
    ⟨(some 24), .bin .add (.t 23) (.k (.int .i64 1)), none⟩,
    ⟨(some 7), .mov (.t 24), none⟩] [0, 1, 2, 7]
def c31_1 (b31_0 : C) : C :=
  .seqT (.block 1 (.seq (.reg [⟨(some 25), .mov (.t 0), none⟩,
       ⟨(some 26), .mov (.t 7), none⟩,
       ⟨(some 27), .indexAddr 2 (.t 25) (.t 26), none⟩,
       ⟨(some 28), .indexAddrA 2 1 (.t 27) (.k (.int .i64 0)), none⟩,
       ⟨(some 29), .load none (.t 28), none⟩,
       ⟨(some 30), .mov (.t 1), none⟩,
       ⟨(some 31), .bin .eql (.t 29) (.t 30), none⟩,
       ⟨(some 32), .mov (.t 31), none⟩,
       ⟨(some 33), .mov (.t 0), some (32, true)⟩,
       ⟨(some 34), .mov (.t 7), some (32, true)⟩,
       ⟨(some 35), .indexAddr 2 (.t 33) (.t 34), some (32, true)⟩,
       ⟨(some 36), .indexAddrA 2 1 (.t 35) (.k (.int .i64 1)), some (32, true)⟩,
       ⟨(some 37), .load none (.t 36), some (32, true)⟩,
       ⟨(some 38), .mov (.t 2), some (32, true)⟩,
       ⟨(some 39), .bin .eql (.t 37) (.t 38), some (32, true)⟩,
       ⟨(some 40), .pick (.t 32) (.t 39) (.k (.bool false)), none⟩,
       ⟨(some 41), .mov (.t 40), none⟩,
       ⟨(some 42), .mov (.t 0), some (41, false)⟩,
       ⟨(some 43), .mov (.t 7), some (41, false)⟩,
       ⟨(some 44), .indexAddr 2 (.t 42) (.t 43), some (41, false)⟩,
       ⟨(some 45), .indexAddrA 2 1 (.t 44) (.k (.int .i64 0)), some (41, false)⟩,
       ⟨(some 46), .load none (.t 45), some (41, false)⟩,
       ⟨(some 47), .mov (.t 2), some (41, false)⟩,
       ⟨(some 48), .bin .eql (.t 46) (.t 47), some (41, false)⟩,
       ⟨(some 49), .mov (.t 48), some (41, false)⟩,
       ⟨(some 50), .mov (.t 0), some (49, true)⟩,
       ⟨(some 51), .mov (.t 7), some (49, true)⟩,
       ⟨(some 52), .indexAddr 2 (.t 50) (.t 51), some (49, true)⟩,
       ⟨(some 53), .indexAddrA 2 1 (.t 52) (.k (.int .i64 1)), some (49, true)⟩,
       ⟨(some 54), .load none (.t 53), some (49, true)⟩,
       ⟨(some 55), .mov (.t 1), some (49, true)⟩,
       ⟨(some 56), .bin .eql (.t 54) (.t 55), some (49, true)⟩,
       ⟨(some 57), .pick (.t 49) (.t 56) (.k (.bool false)), some (41, false)⟩,
       ⟨(some 58), .pick (.t 41) (.k (.bool true)) (.t 57), none⟩] [0, 1, 2, 7, 58])
    (.cond (.t 58) (.seq (.reg [⟨(some 6), .mov (.k (.bool true)), none⟩] [6])
     (.ret))
    (.skip)))) [0, 1, 2, 7] b31_0
def b31_1 : C := c31_1 b31_0
def c31_2 (b31_1 : C) : C :=
  .seqT (.seq (.reg [⟨(some 19), .mov (.t 7), none⟩,
      ⟨(some 20), .mov (.t 0), none⟩,
      ⟨(some 21), .len 1 (.t 20), none⟩,
      ⟨(some 22), .bin .lss (.t 19) (.t 21), none⟩] [0, 1, 2, 7, 22])
   (.cond (.t 22) (.skip)
   (.exit 0))) [0, 1, 2, 7] b31_1
def b31_2 : C := c31_2 b31_1
def b31_3 : C :=
  .seq (.reg [⟨(some 6), .mov (.k (.bool false)), none⟩] [6])
  (.ret)
def c31_4 (b31_2 b31_3 : C) : C :=
  .seqT (.seq (.reg [⟨(some 7), .mov (.k (.int .i64 0)), none⟩] [0, 1, 2, 7])
   (.block 0 (.loop [0, 1, 2, 7] false b31_2))) [] b31_3
def b31_4 : C := c31_4 b31_2 b31_3
def c31 (b31_4 : C) : C :=
  .seq (.reg [⟨(some 6), .mov (.k (.bool false)), none⟩] [0, 1, 2])
  (.seqT (.seq (.reg [⟨(some 8), .mov (.t 1), none⟩,
      ⟨(some 9), .bin .lss (.t 8) (.k (.int .i64 0)), none⟩,
      ⟨(some 10), .mov (.t 9), none⟩,
      ⟨(some 11), .mov (.t 2), some (10, false)⟩,
      ⟨(some 12), .bin .lss (.t 11) (.k (.int .i64 0)), some (10, false)⟩,
      ⟨(some 13), .pick (.t 10) (.k (.bool true)) (.t 12), none⟩,
      ⟨(some 14), .mov (.t 13), none⟩,
      ⟨(some 15), .mov (.t 1), some (14, false)⟩,
      ⟨(some 16), .mov (.t 2), some (14, false)⟩,
      ⟨(some 17), .bin .eql (.t 15) (.t 16), some (14, false)⟩,
      ⟨(some 18), .pick (.t 14) (.k (.bool true)) (.t 17), none⟩] [0, 1, 2, 18])
   (.cond (.t 18) (.seq (.reg [⟨(some 6), .mov (.k (.bool false)), none⟩] [6])
    (.ret))
   (.skip))) [0, 1, 2] b31_4)
def b31 : C := c31 b31_4
def f31 : IFn := { body := b31, params := 3, res := [(6, none)], pop := false, keep := false }
theorem ok31 : okFn Try.prog 31 f31 = true := by kernel_rfl

-- resolvent/pairs.Of
def b32 : C :=
  .seq (.reg [⟨(some 2), .mov (.k (.list .full 2 [])), none⟩] [0])
  (.seq (.reg [⟨(some 4), .mov (.t 0), none⟩,
     ⟨(some 5), .call (.f 61) [(.t 4)] false, none⟩,
     ⟨(some 6), .call (.f 62) [(.t 5)] false, none⟩,
     ⟨(some 3), .mov (.t 6), none⟩] [3])
  (.seq (.reg [⟨(some 7), .mov (.t 3), none⟩,
     ⟨(some 8), .call (.f 63) [(.t 7), (.f 64)] false, none⟩] [3])
  (.seq (.reg [⟨(some 9), .mov (.t 3), none⟩,
     ⟨(some 10), .call (.f 67) [(.t 9)] false, none⟩,
     ⟨(some 2), .mov (.t 10), none⟩] [2])
  (.ret))))
def f32 : IFn := { body := b32, params := 1, res := [(2, none)], pop := false, keep := false }
theorem ok32 : okFn Try.prog 32 f32 = true := by kernel_rfl

-- resolvent/pairs.Union
def b33 : C :=
  .seq (.reg [⟨(some 4), .mov (.k (.list .full 2 [])), none⟩] [0, 1])
  (.seq (.reg [⟨(some 5), .mov (.t 0), none⟩,
     ⟨(some 6), .mov (.t 1), none⟩,
     ⟨(some 7), .buildSlice 1 [(.list .full 0 [])] 2 [(0, (.t 5)), (1, (.t 6))] false, none⟩,
     ⟨(some 8), .call (.f 68) [(.t 7)] false, none⟩,
     ⟨(some 9), .call (.f 32) [(.t 8)] false, none⟩,
     ⟨(some 4), .mov (.t 9), none⟩] [4])
  (.ret))
def f33 : IFn := { body := b33, params := 2, res := [(4, none)], pop := false, keep := false }
theorem ok33 : okFn Try.prog 33 f33 = true := by kernel_rfl

-- resolvent/pairs.Close
def b34_0 : C :=
  .seq (.block 3 (.seq (.reg [⟨(some 25), .indexAddr 1 (.t 21) (.t 23), none⟩,
       ⟨(some 26), .load none (.t 25), none⟩,
       ⟨(some 9), .mov (.t 26), none⟩] [1, 5, 7, 9, 12, 13, 14, 21, 22, 23])
    (.reg [⟨(some 27), .mov (.t 5), none⟩,
      ⟨(some 28), .mov (.t 7), none⟩,
      ⟨(some 29), .mov (.t 9), none⟩,
      ⟨(some 30), .build [(.int .i64 0), (.int .i64 0)] [(0, 1, (.t 28)), (1, 1, (.t 29))], none⟩,
      ⟨(some 31), .buildSlice 2 [(.int .i64 0), (.int .i64 0)] 1 [(0, (.t 30))] false, none⟩,
      ⟨(some 32), .append 2 16 (.t 27) (.t 31) 1, none⟩,
      ⟨(some 5), .mov (.t 32), none⟩] [1, 5, 7, 12, 13, 14, 21, 22, 23])))
  (.reg [⟨(some 33), .bin .add (.t 23) (.k (.int .i64 1)), none⟩,
    ⟨(some 23), .mov (.t 33), none⟩] [1, 5, 7, 12, 13, 14, 21, 22, 23])
def c34_1 (b34_0 : C) : C :=
  .seq (.reg [⟨(some 24), .bin .lss (.t 23) (.t 22), none⟩] [1, 5, 7, 12, 13, 14, 21, 22, 23, 24])
  (.seqT (.cond (.t 24) (.skip)
   (.exit 2)) [1, 5, 7, 12, 13, 14, 21, 22, 23] b34_0)
def b34_1 : C := c34_1 b34_0
def b34_2 : C :=
  .reg [⟨(some 34), .bin .add (.t 14) (.k (.int .i64 1)), none⟩,
    ⟨(some 14), .mov (.t 34), none⟩] [1, 5, 12, 13, 14]
def c34_3 (b34_1 b34_2 : C) : C :=
  .seqT (.block 1 (.seq (.reg [⟨(some 16), .mov (.t 14), none⟩,
       ⟨(some 17), .indexAddr 1 (.t 12) (.t 14), none⟩,
       ⟨(some 18), .load none (.t 17), none⟩,
       ⟨(some 6), .mov (.t 16), none⟩,
       ⟨(some 7), .mov (.t 18), none⟩] [1, 5, 6, 7, 12, 13, 14])
    (.seq (.reg [⟨(some 19), .mov (.t 1), none⟩,
       ⟨(some 20), .mov (.t 6), none⟩,
       ⟨(some 21), .slice 1 (.t 19) none (some (.t 20)), none⟩,
       ⟨(some 22), .len 1 (.t 21), none⟩,
       ⟨(some 23), .mov (.k (.int .i64 0)), none⟩] [1, 5, 7, 12, 13, 14, 21, 22, 23])
    (.block 2 (.loop [1, 5, 7, 12, 13, 14, 21, 22, 23] false b34_1))))) [1, 5, 12, 13, 14] b34_2
def b34_3 : C := c34_3 b34_1 b34_2
def c34_4 (b34_3 : C) : C :=
  .seq (.reg [⟨(some 15), .bin .lss (.t 14) (.t 13), none⟩] [1, 5, 12, 13, 14, 15])
  (.seqT (.cond (.t 15) (.skip)
   (.exit 0)) [1, 5, 12, 13, 14] b34_3)
def b34_4 : C := c34_4 b34_3
def b34_5 : C :=
  .seq (.reg [⟨(some 35), .mov (.t 5), none⟩,
     ⟨(some 36), .call (.f 32) [(.t 35)] false, none⟩,
     ⟨(some 4), .mov (.t 36), none⟩] [4])
  (.ret)
def c34 (b34_4 b34_5 : C) : C :=
  .seq (.reg [⟨(some 4), .mov (.k (.list .full 2 [])), none⟩] [0, 1])
  (.seq (.reg [⟨(some 10), .mov (.t 0), none⟩,
     ⟨(some 11), .call (.f 69) [(.t 10)] false, none⟩,
     ⟨(some 5), .mov (.t 11), none⟩] [1, 5])
  (.seqT (.seq (.reg [⟨(some 12), .mov (.t 1), none⟩,
      ⟨(some 13), .len 1 (.t 12), none⟩,
      ⟨(some 14), .mov (.k (.int .i64 0)), none⟩] [1, 5, 12, 13, 14])
   (.block 0 (.loop [1, 5, 12, 13, 14] false b34_4))) [5] b34_5))
def b34 : C := c34 b34_4 b34_5
def f34 : IFn := { body := b34, params := 2, res := [(4, none)], pop := false, keep := false }
theorem ok34 : okFn Try.prog 34 f34 = true := by kernel_rfl

-- resolvent/pairs.Without
def b35 : C :=
  .seq (.reg [⟨(some 3), .box (.t 1), none⟩,
     ⟨(some 4), .mov (.k (.list .full 2 [])), none⟩] [0, 3])
  (.seq (.reg [⟨(some 5), .mov (.t 0), none⟩,
     ⟨(some 6), .call (.f 32) [(.t 5)] false, none⟩,
     ⟨(some 7), .makeFunc 71 [] [(.t 3)], none⟩,
     ⟨(some 8), .call (.f 70) [(.t 6), (.t 7)] false, none⟩,
     ⟨(some 4), .mov (.t 8), none⟩] [4])
  (.ret))
def f35 : IFn := { body := b35, params := 2, res := [(4, none)], pop := false, keep := false }
theorem ok35 : okFn Try.prog 35 f35 = true := by kernel_rfl

-- resolvent/pairs.Related
def b36_0 : C :=
  .reg [⟨(some 7), .new [(.int .i64 0), (.int .i64 0)], none⟩,
    ⟨none, .store 2 (.t 7) (.t 14), none⟩] [5, 6, 7]
def b36_1 : C :=
  .block 1 (.seq (.reg [⟨(some 15), .load none (.t 6), none⟩,
      ⟨(some 16), .indexAddrA 2 1 (.t 7) (.k (.int .i64 0)), none⟩,
      ⟨(some 17), .load none (.t 16), none⟩,
      ⟨(some 18), .call (.f 49) [(.t 15), (.t 17)] false, none⟩,
      ⟨(some 19), .mov (.t 18), none⟩,
      ⟨(some 20), .load none (.t 6), some (19, false)⟩,
      ⟨(some 21), .indexAddrA 2 1 (.t 7) (.k (.int .i64 1)), some (19, false)⟩,
      ⟨(some 22), .load none (.t 21), some (19, false)⟩,
      ⟨(some 23), .call (.f 49) [(.t 20), (.t 22)] false, some (19, false)⟩,
      ⟨(some 24), .pick (.t 19) (.k (.bool true)) (.t 23), none⟩] [5, 7, 24])
   (.cond (.t 24) (.reg [⟨(some 25), .load none (.t 5), none⟩,
      ⟨(some 26), .indexAddrA 2 1 (.t 7) (.k (.int .i64 0)), none⟩,
      ⟨(some 27), .load none (.t 26), none⟩,
      ⟨(some 28), .indexAddrA 2 1 (.t 7) (.k (.int .i64 1)), none⟩,
      ⟨(some 29), .load none (.t 28), none⟩,
      ⟨(some 30), .buildSlice 1 [(.int .i64 0)] 2 [(0, (.t 27)), (1, (.t 29))] false, none⟩,
      ⟨(some 31), .append 1 8 (.t 25) (.t 30) 1, none⟩,
      ⟨none, .store 1 (.t 5) (.t 31), none⟩] [])
   (.skip)))
def b36_2 : C :=
  .seq (.reg [⟨(some 32), .load none (.t 5), none⟩,
     ⟨(some 33), .call (.f 37) [(.t 32)] false, none⟩,
     ⟨(some 4), .mov (.t 33), none⟩] [4])
  (.ret)
def c36 (b36_0 b36_1 b36_2 : C) : C :=
  .seq (.reg [⟨(some 4), .mov (.k (.list .full 1 [])), none⟩] [0, 1, 4])
  (.seq (.reg [⟨(some 8), .mov (.t 1), none⟩,
     ⟨(some 9), .call (.f 37) [(.t 8)] false, none⟩,
     ⟨(some 5), .new [(.list .full 0 [])], none⟩,
     ⟨none, .store 1 (.t 5) (.t 9), none⟩] [0, 4, 5])
  (.seq (.reg [⟨(some 10), .load none (.t 5), none⟩,
     ⟨(some 11), .call (.f 72) [(.t 10)] false, none⟩,
     ⟨(some 6), .new [(.list .full 0 [])], none⟩,
     ⟨none, .store 1 (.t 6) (.t 11), none⟩] [0, 4, 5, 6])
  (.seqT (.seq (.reg [⟨(some 12), .mov (.t 0), none⟩,
      ⟨(some 13), .call (.f 61) [(.t 12)] false, none⟩] [4, 5, 6, 13])
   (.block 0 (.rangeFunc (.t 13) [14] b36_0 b36_1 [4, 5, 6]))) [5] b36_2)))
def b36 : C := c36 b36_0 b36_1 b36_2
def f36 : IFn := { body := b36, params := 2, res := [(4, none)], pop := false, keep := false }
theorem ok36 : okFn Try.prog 36 f36 = true := by kernel_rfl

-- resolvent/pairs.Places
def b37 : C :=
  .seq (.reg [⟨(some 2), .mov (.k (.list .full 1 [])), none⟩] [0])
  (.seq (.reg [⟨(some 4), .mov (.t 0), none⟩,
     ⟨(some 5), .call (.f 72) [(.t 4)] false, none⟩,
     ⟨(some 6), .call (.f 73) [(.t 5), (.f 74)] false, none⟩,
     ⟨(some 3), .mov (.t 6), none⟩] [3])
  (.seq (.reg [⟨(some 7), .mov (.t 3), none⟩,
     ⟨(some 8), .call (.f 56) [(.t 7)] false, none⟩] [3])
  (.seq (.reg [⟨(some 9), .mov (.t 3), none⟩,
     ⟨(some 10), .call (.f 57) [(.t 9)] false, none⟩,
     ⟨(some 2), .mov (.t 10), none⟩] [2])
  (.ret))))
def f37 : IFn := { body := b37, params := 1, res := [(2, none)], pop := false, keep := false }
theorem ok37 : okFn Try.prog 37 f37 = true := by kernel_rfl

-- resolvent/resolventref17.Rising
def d38_0 : List (IOper × Nat × Nat) :=
  [(⟨(some 10), .mov (.t 0), none⟩, 0, 0),
    (⟨(some 11), .mov (.t 3), none⟩, 0, 0),
    (⟨(some 12), .indexAddr 1 (.t 10) (.t 11), none⟩, 0, 0),
    (⟨(some 13), .load none (.t 12), none⟩, 0, 1),
    (⟨(some 14), .bin .lss (.t 13) (.k (.int .i64 0)), none⟩, 0, 0),
    (⟨(some 15), .mov (.t 14), none⟩, 0, 0),
    (⟨(some 16), .mov (.t 3), some (15, false)⟩, 0, 0),
    (⟨(some 17), .bin .gtr (.t 16) (.k (.int .i64 0)), some (15, false)⟩, 0, 0),
    (⟨(some 18), .mov (.t 17), some (15, false)⟩, 0, 0),
    (⟨(some 19), .mov (.t 0), some (18, true)⟩, 0, 0),
    (⟨(some 20), .mov (.t 3), some (18, true)⟩, 0, 0),
    (⟨(some 21), .bin .sub (.t 20) (.k (.int .i64 1)), some (18, true)⟩, 0, 0),
    (⟨(some 22), .indexAddr 1 (.t 19) (.t 21), some (18, true)⟩, 0, 0),
    (⟨(some 23), .load none (.t 22), some (18, true)⟩, 0, 1),
    (⟨(some 24), .mov (.t 0), some (18, true)⟩, 0, 0),
    (⟨(some 25), .mov (.t 3), some (18, true)⟩, 0, 0),
    (⟨(some 26), .indexAddr 1 (.t 24) (.t 25), some (18, true)⟩, 0, 0),
    (⟨(some 27), .load none (.t 26), some (18, true)⟩, 0, 1),
    (⟨(some 28), .bin .geq (.t 23) (.t 27), some (18, true)⟩, 0, 0),
    (⟨(some 29), .pick (.t 18) (.t 28) (.k (.bool false)), some (15, false)⟩, 0, 0),
    (⟨(some 30), .pick (.t 15) (.k (.bool true)) (.t 29), none⟩, 0, 0)]
def b38_1 : C :=
  .reg [⟨(some 8), .mov (.t 3), none⟩,
    ⟨(some 9), .bin .add (.t 8) (.k (.int .i64 1)), none⟩,
    ⟨(some 3), .mov (.t 9), none⟩] [0, 3]
def c38_2 (b38_1 : C) : C :=
  .seqT (.block 1 (.seq (.regD d38_0 [0, 3, 30])
    (.cond (.t 30) (.seq (.reg [⟨(some 2), .mov (.k (.bool false)), none⟩] [2])
     (.ret))
    (.skip)))) [0, 3] b38_1
def b38_2 : C := c38_2 b38_1
def c38_3 (b38_2 : C) : C :=
  .seqT (.seq (.reg [⟨(some 4), .mov (.t 3), none⟩,
      ⟨(some 5), .mov (.t 0), none⟩,
      ⟨(some 6), .len 1 (.t 5), none⟩,
      ⟨(some 7), .bin .lss (.t 4) (.t 6), none⟩] [0, 3, 7])
   (.cond (.t 7) (.skip)
   (.exit 0))) [0, 3] b38_2
def b38_3 : C := c38_3 b38_2
def b38_4 : C :=
  .seq (.reg [⟨(some 2), .mov (.k (.bool true)), none⟩] [2])
  (.ret)
def c38 (b38_3 b38_4 : C) : C :=
  .seq (.reg [⟨(some 2), .mov (.k (.bool false)), none⟩] [0])
  (.seqT (.seq (.reg [⟨(some 3), .mov (.k (.int .i64 0)), none⟩] [0, 3])
   (.block 0 (.loop [0, 3] false b38_3))) [] b38_4)
def b38 : C := c38 b38_3 b38_4
def f38 : IFn := { body := b38, params := 1, res := [(2, none)], pop := false, keep := false }
theorem ok38 : okFn Try.prog 38 f38 = true := by kernel_rfl

-- resolvent/resolventlaw17.ends
def d39_0 : List (IOper × Nat × Nat) :=
  [(⟨(some 19), .mov (.t 7), none⟩, 0, 0),
    (⟨(some 20), .mov (.t 0), none⟩, 0, 0),
    (⟨(some 21), .mov (.t 8), none⟩, 0, 0),
    (⟨(some 22), .indexAddr 2 (.t 20) (.t 21), none⟩, 0, 0),
    (⟨(some 23), .indexAddrA 2 1 (.t 22) (.k (.int .i64 0)), none⟩, 0, 0),
    (⟨(some 24), .load none (.t 23), none⟩, 0, 1),
    (⟨(some 25), .mov (.t 0), none⟩, 0, 0),
    (⟨(some 26), .mov (.t 8), none⟩, 0, 0),
    (⟨(some 27), .indexAddr 2 (.t 25) (.t 26), none⟩, 0, 0),
    (⟨(some 28), .indexAddrA 2 1 (.t 27) (.k (.int .i64 1)), none⟩, 0, 0),
    (⟨(some 29), .load none (.t 28), none⟩, 0, 1),
    (⟨(some 30), .buildSlice 1 [(.int .i64 0)] 2 [(0, (.t 24)), (1, (.t 29))] false, none⟩, 0, 0),
    (⟨(some 31), .append 1 8 (.t 19) (.t 30) 0, none⟩, 0, 0),
    (⟨(some 7), .mov (.t 31), none⟩, 0, 0)]
def b39_1 : C :=
  .seq (.block 1 (.regD d39_0 [0, 1, 7, 8]))
  (.reg [⟨(some 17), .mov (.t 8), none⟩,
    ⟨(some 18), .bin .add (.t 17) (.k (.int .i64 1)), none⟩,
    ⟨(some 8), .mov (.t 18), none⟩] [0, 1, 7, 8])
def c39_2 (b39_1 : C) : C :=
  .seqT (.seq (.reg [⟨(some 13), .mov (.t 8), none⟩,
      ⟨(some 14), .mov (.t 0), none⟩,
      ⟨(some 15), .len 1 (.t 14), none⟩,
      ⟨(some 16), .bin .lss (.t 13) (.t 15), none⟩] [0, 1, 7, 8, 16])
   (.cond (.t 16) (.skip)
   (.exit 0))) [0, 1, 7, 8] b39_1
def b39_2 : C := c39_2 b39_1
def d39_3 : List (IOper × Nat × Nat) :=
  [(⟨(some 38), .mov (.t 7), none⟩, 0, 0),
    (⟨(some 39), .mov (.t 1), none⟩, 0, 0),
    (⟨(some 40), .mov (.t 9), none⟩, 0, 0),
    (⟨(some 41), .indexAddr 2 (.t 39) (.t 40), none⟩, 0, 0),
    (⟨(some 42), .indexAddrA 2 1 (.t 41) (.k (.int .i64 0)), none⟩, 0, 0),
    (⟨(some 43), .load none (.t 42), none⟩, 0, 1),
    (⟨(some 44), .mov (.t 1), none⟩, 0, 0),
    (⟨(some 45), .mov (.t 9), none⟩, 0, 0),
    (⟨(some 46), .indexAddr 2 (.t 44) (.t 45), none⟩, 0, 0),
    (⟨(some 47), .indexAddrA 2 1 (.t 46) (.k (.int .i64 1)), none⟩, 0, 0),
    (⟨(some 48), .load none (.t 47), none⟩, 0, 1),
    (⟨(some 49), .buildSlice 1 [(.int .i64 0)] 2 [(0, (.t 43)), (1, (.t 48))] false, none⟩, 0, 0),
    (⟨(some 50), .append 1 8 (.t 38) (.t 49) 0, none⟩, 0, 0),
    (⟨(some 7), .mov (.t 50), none⟩, 0, 0)]
def b39_4 : C :=
  .seq (.block 3 (.regD d39_3 [1, 7, 9]))
  (.reg [⟨(some 36), .mov (.t 9), none⟩,
    ⟨(some 37), .bin .add (.t 36) (.k (.int .i64 1)), none⟩,
    ⟨(some 9), .mov (.t 37), none⟩] [1, 7, 9])
def c39_5 (b39_4 : C) : C :=
  .seqT (.seq (.reg [⟨(some 32), .mov (.t 9), none⟩,
      ⟨(some 33), .mov (.t 1), none⟩,
      ⟨(some 34), .len 1 (.t 33), none⟩,
      ⟨(some 35), .bin .lss (.t 32) (.t 34), none⟩] [1, 7, 9, 35])
   (.cond (.t 35) (.skip)
   (.exit 2))) [1, 7, 9] b39_4
def b39_5 : C := c39_5 b39_4
def b39_6 : C :=
  .seq (.reg [⟨(some 51), .mov (.t 7), none⟩,
     ⟨(some 6), .mov (.t 51), none⟩] [6])
  (.ret)
def c39_7 (b39_5 b39_6 : C) : C :=
  .seqT (.seq (.reg [⟨(some 9), .mov (.k (.int .i64 0)), none⟩] [1, 7, 9])
   (.block 2 (.loop [1, 7, 9] false b39_5))) [7] b39_6
def b39_7 : C := c39_7 b39_5 b39_6
def c39 (b39_2 b39_7 : C) : C :=
  .seq (.reg [⟨(some 6), .mov (.k (.list .full 1 [])), none⟩] [0, 1, 2])
  (.seq (.reg [⟨(some 10), .buildSlice 1 [(.int .i64 0)] 4 [(0, (.k (.int .i64 (-1)))), (1, (.k (.int .i64 0))), (2, (.k (.int .i64 1))), (3, (.k (.int .i64 7)))] false, none⟩,
     ⟨(some 11), .mov (.t 2), none⟩,
     ⟨(some 12), .append 1 8 (.t 10) (.t 11) 0, none⟩,
     ⟨(some 7), .mov (.t 12), none⟩] [0, 1, 7])
  (.seqT (.seq (.reg [⟨(some 8), .mov (.k (.int .i64 0)), none⟩] [0, 1, 7, 8])
   (.block 0 (.loop [0, 1, 7, 8] false b39_2))) [1, 7] b39_7))
def b39 : C := c39 b39_2 b39_7
def f39 : IFn := { body := b39, params := 3, res := [(6, none)], pop := false, keep := false }
theorem ok39 : okFn Try.prog 39 f39 = true := by kernel_rfl

-- resolvent/resolventref17.In
def b40_0 : C :=
  .reg [⟨(some 10), .mov (.t 5), none⟩,
    ⟨(some 11), .bin .add (.t 10) (.k (.int .i64 1)), none⟩,
    ⟨(some 5), .mov (.t 11), none⟩] [0, 1, 5]
def c40_1 (b40_0 : C) : C :=
  .seqT (.block 1 (.seq (.reg [⟨(some 12), .mov (.t 0), none⟩,
       ⟨(some 13), .mov (.t 5), none⟩,
       ⟨(some 14), .indexAddr 1 (.t 12) (.t 13), none⟩,
       ⟨(some 15), .load none (.t 14), none⟩,
       ⟨(some 16), .mov (.t 1), none⟩,
       ⟨(some 17), .bin .eql (.t 15) (.t 16), none⟩,
       ⟨(some 18), .mov (.t 17), none⟩,
       ⟨(some 19), .mov (.t 1), some (18, true)⟩,
       ⟨(some 20), .bin .geq (.t 19) (.k (.int .i64 0)), some (18, true)⟩,
       ⟨(some 21), .pick (.t 18) (.t 20) (.k (.bool false)), none⟩] [0, 1, 5, 21])
    (.cond (.t 21) (.seq (.reg [⟨(some 4), .mov (.k (.bool true)), none⟩] [4])
     (.ret))
    (.skip)))) [0, 1, 5] b40_0
def b40_1 : C := c40_1 b40_0
def c40_2 (b40_1 : C) : C :=
  .seqT (.seq (.reg [⟨(some 6), .mov (.t 5), none⟩,
      ⟨(some 7), .mov (.t 0), none⟩,
      ⟨(some 8), .len 1 (.t 7), none⟩,
      ⟨(some 9), .bin .lss (.t 6) (.t 8), none⟩] [0, 1, 5, 9])
   (.cond (.t 9) (.skip)
   (.exit 0))) [0, 1, 5] b40_1
def b40_2 : C := c40_2 b40_1
def b40_3 : C :=
  .seq (.reg [⟨(some 4), .mov (.k (.bool false)), none⟩] [4])
  (.ret)
def c40 (b40_2 b40_3 : C) : C :=
  .seq (.reg [⟨(some 4), .mov (.k (.bool false)), none⟩] [0, 1])
  (.seqT (.seq (.reg [⟨(some 5), .mov (.k (.int .i64 0)), none⟩] [0, 1, 5])
   (.block 0 (.loop [0, 1, 5] false b40_2))) [] b40_3)
def b40 : C := c40 b40_2 b40_3
def f40 : IFn := { body := b40, params := 2, res := [(4, none)], pop := false, keep := false }
theorem ok40 : okFn Try.prog 40 f40 = true := by kernel_rfl

-- resolvent/resolventref17.Related
def b41_0 : C :=
  .reg [⟨(some 15), .mov (.t 7), none⟩,
    ⟨(some 16), .bin .add (.t 15) (.k (.int .i64 1)), none⟩,
    ⟨(some 7), .mov (.t 16), none⟩] [0, 1, 2, 7]
def c41_1 (b41_0 : C) : C :=
  .seqT (.block 1 (.seq (.reg [⟨(some 17), .mov (.t 0), none⟩,
       ⟨(some 18), .mov (.t 1), none⟩,
       ⟨(some 19), .mov (.t 7), none⟩,
       ⟨(some 20), .indexAddr 1 (.t 18) (.t 19), none⟩,
       ⟨(some 21), .load none (.t 20), none⟩,
       ⟨(some 22), .mov (.t 2), none⟩,
       ⟨(some 23), .call (.f 31) [(.t 17), (.t 21), (.t 22)] false, none⟩] [0, 1, 2, 7, 23])
    (.cond (.t 23) (.seq (.reg [⟨(some 6), .mov (.k (.bool true)), none⟩] [6])
     (.ret))
    (.skip)))) [0, 1, 2, 7] b41_0
def b41_1 : C := c41_1 b41_0
def c41_2 (b41_1 : C) : C :=
  .seqT (.seq (.reg [⟨(some 11), .mov (.t 7), none⟩,
      ⟨(some 12), .mov (.t 1), none⟩,
      ⟨(some 13), .len 1 (.t 12), none⟩,
      ⟨(some 14), .bin .lss (.t 11) (.t 13), none⟩] [0, 1, 2, 7, 14])
   (.cond (.t 14) (.skip)
   (.exit 0))) [0, 1, 2, 7] b41_1
def b41_2 : C := c41_2 b41_1
def b41_3 : C :=
  .seq (.reg [⟨(some 6), .mov (.k (.bool false)), none⟩] [6])
  (.ret)
def c41_4 (b41_2 b41_3 : C) : C :=
  .seqT (.seq (.reg [⟨(some 7), .mov (.k (.int .i64 0)), none⟩] [0, 1, 2, 7])
   (.block 0 (.loop [0, 1, 2, 7] false b41_2))) [] b41_3
def b41_4 : C := c41_4 b41_2 b41_3
def c41 (b41_4 : C) : C :=
  .seq (.reg [⟨(some 6), .mov (.k (.bool false)), none⟩] [0, 1, 2])
  (.seqT (.seq (.reg [⟨(some 8), .mov (.t 1), none⟩,
      ⟨(some 9), .mov (.t 2), none⟩,
      ⟨(some 10), .call (.f 40) [(.t 8), (.t 9)] false, none⟩] [0, 1, 2, 10])
   (.cond (.t 10) (.seq (.reg [⟨(some 6), .mov (.k (.bool true)), none⟩] [6])
    (.ret))
   (.skip))) [0, 1, 2] b41_4)
def b41 : C := c41 b41_4
def f41 : IFn := { body := b41, params := 3, res := [(6, none)], pop := false, keep := false }
theorem ok41 : okFn Try.prog 41 f41 = true := by kernel_rfl

-- resolvent/pairs.Has
def b42_0 : C :=
  .reg [⟨(some 8), .new [(.int .i64 0), (.int .i64 0)], none⟩,
    ⟨none, .store 2 (.t 8) (.t 18), none⟩] [6, 7, 8]
def b42_1 : C :=
  .block 1 (.seq (.reg [⟨(some 19), .load (some 2) (.t 8), none⟩,
      ⟨(some 20), .load (some 2) (.t 7), none⟩,
      ⟨(some 21), .eqv ⟨[.i, .i], true⟩ false (.t 19) (.t 20), none⟩] [6, 21])
   (.cond (.t 21) (.seq (.reg [⟨none, .store 1 (.t 6) (.k (.bool true)), none⟩] [])
    (.ret))
   (.skip)))
def b42_2 : C :=
  .seq (.reg [⟨none, .store 1 (.t 6) (.k (.bool false)), none⟩] [6])
  (.ret)
def c42 (b42_0 b42_1 b42_2 : C) : C :=
  .seq (.reg [⟨(some 6), .new [(.bool false)], none⟩] [0, 1, 2, 6])
  (.seq (.reg [⟨(some 9), .mov (.t 1), none⟩,
     ⟨(some 10), .mov (.t 2), none⟩,
     ⟨(some 11), .min2 (.t 9) (.t 10), none⟩,
     ⟨(some 12), .mov (.t 1), none⟩,
     ⟨(some 13), .mov (.t 2), none⟩,
     ⟨(some 14), .max2 (.t 12) (.t 13), none⟩,
     ⟨(some 15), .build [(.int .i64 0), (.int .i64 0)] [(0, 1, (.t 11)), (1, 1, (.t 14))], none⟩,
     ⟨(some 7), .new [(.int .i64 0), (.int .i64 0)], none⟩,
     ⟨none, .store 2 (.t 7) (.t 15), none⟩] [0, 6, 7])
  (.seqT (.seq (.reg [⟨(some 16), .mov (.t 0), none⟩,
      ⟨(some 17), .call (.f 61) [(.t 16)] false, none⟩] [6, 7, 17])
   (.block 0 (.rangeFunc (.t 17) [18] b42_0 b42_1 [6, 7]))) [6] b42_2))
def b42 : C := c42 b42_0 b42_1 b42_2
def f42 : IFn := { body := b42, params := 3, res := [(6, some none)], pop := false, keep := false }
theorem ok42 : okFn Try.prog 42 f42 = true := by kernel_rfl

-- resolvent/resolventlaw17.same
def d43_0 : List (IOper × Nat × Nat) :=
  [(⟨(some 17), .mov (.t 0), none⟩, 0, 0),
    (⟨(some 18), .mov (.t 5), none⟩, 0, 0),
    (⟨(some 19), .indexAddr 2 (.t 17) (.t 18), none⟩, 0, 0),
    (⟨(some 20), .load (some 2) (.t 19), none⟩, 0, 1),
    (⟨(some 21), .mov (.t 1), none⟩, 0, 0),
    (⟨(some 22), .mov (.t 5), none⟩, 0, 0),
    (⟨(some 23), .indexAddr 2 (.t 21) (.t 22), none⟩, 0, 0),
    (⟨(some 24), .load (some 2) (.t 23), none⟩, 0, 1),
    (⟨(some 25), .eqv ⟨[.i, .i], true⟩ true (.t 20) (.t 24), none⟩, 0, 0)]
def b43_1 : C :=
  .reg [⟨(some 15), .mov (.t 5), none⟩,
    ⟨(some 16), .bin .add (.t 15) (.k (.int .i64 1)), none⟩,
    ⟨(some 5), .mov (.t 16), none⟩] [0, 1, 5]
def c43_2 (b43_1 : C) : C :=
  .seqT (.block 1 (.seq (.regD d43_0 [0, 1, 5, 25])
    (.cond (.t 25) (.seq (.reg [⟨(some 4), .mov (.k (.bool false)), none⟩] [4])
     (.ret))
    (.skip)))) [0, 1, 5] b43_1
def b43_2 : C := c43_2 b43_1
def c43_3 (b43_2 : C) : C :=
  .seqT (.seq (.reg [⟨(some 11), .mov (.t 5), none⟩,
      ⟨(some 12), .mov (.t 0), none⟩,
      ⟨(some 13), .len 1 (.t 12), none⟩,
      ⟨(some 14), .bin .lss (.t 11) (.t 13), none⟩] [0, 1, 5, 14])
   (.cond (.t 14) (.skip)
   (.exit 0))) [0, 1, 5] b43_2
def b43_3 : C := c43_3 b43_2
def b43_4 : C :=
  .seq (.reg [⟨(some 4), .mov (.k (.bool true)), none⟩] [4])
  (.ret)
def c43_5 (b43_3 b43_4 : C) : C :=
  .seqT (.seq (.reg [⟨(some 5), .mov (.k (.int .i64 0)), none⟩] [0, 1, 5])
   (.block 0 (.loop [0, 1, 5] false b43_3))) [] b43_4
def b43_5 : C := c43_5 b43_3 b43_4
def c43 (b43_5 : C) : C :=
  .seq (.reg [⟨(some 4), .mov (.k (.bool false)), none⟩] [0, 1])
  (.seqT (.seq (.reg [⟨(some 6), .mov (.t 0), none⟩,
      ⟨(some 7), .len 1 (.t 6), none⟩,
      ⟨(some 8), .mov (.t 1), none⟩,
      ⟨(some 9), .len 1 (.t 8), none⟩,
      ⟨(some 10), .bin .neq (.t 7) (.t 9), none⟩] [0, 1, 10])
   (.cond (.t 10) (.seq (.reg [⟨(some 4), .mov (.k (.bool false)), none⟩] [4])
    (.ret))
   (.skip))) [0, 1] b43_5)
def b43 : C := c43 b43_5
def f43 : IFn := { body := b43, params := 2, res := [(4, none)], pop := false, keep := false }
theorem ok43 : okFn Try.prog 43 f43 = true := by kernel_rfl

-- slices.Contains[[]int,int]
def b49 : C :=
  .seq (.reg [⟨(some 4), .mov (.k (.bool false)), none⟩] [0, 1])
  (.seq (.reg [⟨(some 5), .mov (.t 0), none⟩,
     ⟨(some 6), .mov (.t 1), none⟩,
     ⟨(some 7), .call (.f 79) [(.t 5), (.t 6)] false, none⟩,
     ⟨(some 8), .bin .geq (.t 7) (.k (.int .i64 0)), none⟩,
     ⟨(some 4), .mov (.t 8), none⟩] [4])
  (.ret))
def f49 : IFn := { body := b49, params := 2, res := [(4, none)], pop := false, keep := false }
theorem ok49 : okFn Try.prog 49 f49 = true := by kernel_rfl

-- slices.Sort[[]int,int]
def b56 : C :=
  .seq (.reg [⟨(some 3), .mov (.t 0), none⟩,
     ⟨(some 4), .len 1 (.t 3), none⟩,
     ⟨(some 2), .mov (.t 4), none⟩] [0, 2])
  (.reg [⟨(some 5), .mov (.t 0), none⟩,
    ⟨(some 6), .mov (.t 2), none⟩,
    ⟨(some 7), .mov (.t 2), none⟩,
    ⟨(some 8), .conv .u64 (.t 7), none⟩,
    ⟨(some 9), .call (.f 84) [(.t 8)] false, none⟩,
    ⟨(some 10), .call (.f 83) [(.t 5), (.k (.int .i64 0)), (.t 6), (.t 9)] false, none⟩] [])
def f56 : IFn := { body := b56, params := 1, res := [], pop := false, keep := false }
theorem ok56o : okFn Try.prog 56 { f56 with orc := sortO } = true := by kernel_rfl
-- slices.Compact[[]int,int]
def d57_0 : List (IOper × Nat × Nat) :=
  [(⟨(some 16), .mov (.t 0), none⟩, 0, 0),
    (⟨(some 17), .mov (.t 3), none⟩, 0, 0),
    (⟨(some 18), .indexAddr 1 (.t 16) (.t 17), none⟩, 0, 0),
    (⟨(some 19), .load none (.t 18), none⟩, 0, 1),
    (⟨(some 20), .mov (.t 0), none⟩, 0, 0),
    (⟨(some 21), .mov (.t 3), none⟩, 0, 0),
    (⟨(some 22), .bin .sub (.t 21) (.k (.int .i64 1)), none⟩, 0, 0),
    (⟨(some 23), .indexAddr 1 (.t 20) (.t 22), none⟩, 0, 0),
    (⟨(some 24), .load none (.t 23), none⟩, 0, 1),
    (⟨(some 25), .bin .eql (.t 19) (.t 24), none⟩, 0, 0)]
def d57_1 : List (IOper × Nat × Nat) :=
  [(⟨(some 35), .mov (.t 4), none⟩, 0, 0),
    (⟨(some 36), .mov (.t 5), none⟩, 0, 0),
    (⟨(some 37), .indexAddr 1 (.t 35) (.t 36), none⟩, 0, 0),
    (⟨(some 38), .load none (.t 37), none⟩, 0, 1),
    (⟨(some 39), .mov (.t 4), none⟩, 0, 0),
    (⟨(some 40), .mov (.t 5), none⟩, 0, 0),
    (⟨(some 41), .bin .sub (.t 40) (.k (.int .i64 1)), none⟩, 0, 0),
    (⟨(some 42), .indexAddr 1 (.t 39) (.t 41), none⟩, 0, 0),
    (⟨(some 43), .load none (.t 42), none⟩, 0, 1),
    (⟨(some 44), .bin .neq (.t 38) (.t 43), none⟩, 0, 0)]
def b57_2 : C :=
  .reg [⟨(some 33), .mov (.t 5), none⟩,
    ⟨(some 34), .bin .add (.t 33) (.k (.int .i64 1)), none⟩,
    ⟨(some 5), .mov (.t 34), none⟩] [0, 3, 4, 5]
def c57_3 (b57_2 : C) : C :=
  .seqT (.block 3 (.seq (.regD d57_1 [0, 3, 4, 5, 44])
    (.cond (.t 44) (.seq (.reg [⟨(some 45), .mov (.t 0), none⟩,
        ⟨(some 46), .mov (.t 3), none⟩,
        ⟨(some 47), .mov (.t 4), none⟩,
        ⟨(some 48), .mov (.t 5), none⟩,
        ⟨(some 49), .indexAddr 1 (.t 47) (.t 48), none⟩,
        ⟨(some 50), .load none (.t 49), none⟩,
        ⟨(some 51), .indexAddr 1 (.t 45) (.t 46), none⟩,
        ⟨none, .store 1 (.t 51) (.t 50), none⟩] [0, 3, 4, 5])
     (.reg [⟨(some 52), .mov (.t 3), none⟩,
       ⟨(some 53), .bin .add (.t 52) (.k (.int .i64 1)), none⟩,
       ⟨(some 3), .mov (.t 53), none⟩] [0, 3, 4, 5]))
    (.skip)))) [0, 3, 4, 5] b57_2
def b57_3 : C := c57_3 b57_2
def c57_4 (b57_3 : C) : C :=
  .seqT (.seq (.reg [⟨(some 29), .mov (.t 5), none⟩,
      ⟨(some 30), .mov (.t 4), none⟩,
      ⟨(some 31), .len 1 (.t 30), none⟩,
      ⟨(some 32), .bin .lss (.t 29) (.t 31), none⟩] [0, 3, 4, 5, 32])
   (.cond (.t 32) (.skip)
   (.exit 2))) [0, 3, 4, 5] b57_3
def b57_4 : C := c57_4 b57_3
def b57_5 : C :=
  .seq (.reg [⟨(some 54), .mov (.t 0), none⟩,
     ⟨(some 55), .mov (.t 3), none⟩,
     ⟨(some 56), .slice 1 (.t 54) (some (.t 55)) none, none⟩,
     ⟨none, .clear 1 [(.int .i64 0)] (.t 56), none⟩] [0, 3])
  (.seq (.reg [⟨(some 57), .mov (.t 0), none⟩,
     ⟨(some 58), .mov (.t 3), none⟩,
     ⟨(some 59), .slice 1 (.t 57) none (some (.t 58)), none⟩,
     ⟨(some 2), .mov (.t 59), none⟩] [2])
  (.ret))
def b57_6 : C :=
  .reg [⟨(some 14), .mov (.t 3), none⟩,
    ⟨(some 15), .bin .add (.t 14) (.k (.int .i64 1)), none⟩,
    ⟨(some 3), .mov (.t 15), none⟩] [0, 3]
def c57_7 (b57_4 b57_5 b57_6 : C) : C :=
  .seqT (.block 1 (.seq (.regD d57_0 [0, 3, 25])
    (.cond (.t 25) (.seq (.reg [⟨(some 26), .mov (.t 0), none⟩,
        ⟨(some 27), .mov (.t 3), none⟩,
        ⟨(some 28), .slice 1 (.t 26) (some (.t 27)) none, none⟩,
        ⟨(some 4), .mov (.t 28), none⟩] [0, 3, 4])
     (.seqT (.seq (.reg [⟨(some 5), .mov (.k (.int .i64 1)), none⟩] [0, 3, 4, 5])
      (.block 2 (.loop [0, 3, 4, 5] false b57_4))) [0, 3] b57_5))
    (.skip)))) [0, 3] b57_6
def b57_7 : C := c57_7 b57_4 b57_5 b57_6
def c57_8 (b57_7 : C) : C :=
  .seqT (.seq (.reg [⟨(some 10), .mov (.t 3), none⟩,
      ⟨(some 11), .mov (.t 0), none⟩,
      ⟨(some 12), .len 1 (.t 11), none⟩,
      ⟨(some 13), .bin .lss (.t 10) (.t 12), none⟩] [0, 3, 13])
   (.cond (.t 13) (.skip)
   (.exit 0))) [0, 3] b57_7
def b57_8 : C := c57_8 b57_7
def b57_9 : C :=
  .seq (.reg [⟨(some 60), .mov (.t 0), none⟩,
     ⟨(some 2), .mov (.t 60), none⟩] [2])
  (.ret)
def c57_10 (b57_8 b57_9 : C) : C :=
  .seqT (.seq (.reg [⟨(some 3), .mov (.k (.int .i64 1)), none⟩] [0, 3])
   (.block 0 (.loop [0, 3] false b57_8))) [0] b57_9
def b57_10 : C := c57_10 b57_8 b57_9
def c57 (b57_10 : C) : C :=
  .seq (.reg [⟨(some 2), .mov (.k (.list .full 1 [])), none⟩] [0])
  (.seqT (.seq (.reg [⟨(some 6), .mov (.t 0), none⟩,
      ⟨(some 7), .len 1 (.t 6), none⟩,
      ⟨(some 8), .bin .lss (.t 7) (.k (.int .i64 2)), none⟩] [0, 8])
   (.cond (.t 8) (.seq (.reg [⟨(some 9), .mov (.t 0), none⟩,
       ⟨(some 2), .mov (.t 9), none⟩] [2])
    (.ret))
   (.skip))) [0] b57_10)
def b57 : C := c57 b57_10
def f57 : IFn := { body := b57, params := 1, res := [(2, none)], pop := false, keep := false }
theorem ok57o : okFn Try.prog 57 { f57 with orc := compO } = true := by kernel_rfl
-- resolvent/pairs.good
def b61 : C :=
  .seq (.reg [⟨(some 1), .box (.t 0), none⟩,
     ⟨(some 2), .mov (.k .nilfunc), none⟩] [1])
  (.seq (.reg [⟨(some 3), .makeFunc 85 [] [(.t 1)], none⟩,
     ⟨(some 2), .mov (.t 3), none⟩] [2])
  (.ret))
def f61 : IFn := { body := b61, params := 1, res := [(2, none)], pop := false, keep := false }
theorem ok61 : okFn Try.prog 61 f61 = true := by kernel_rfl

-- slices.Collect[[2]int]
def b62 : C :=
  .seq (.reg [⟨(some 2), .mov (.k (.list .full 2 [])), none⟩] [0])
  (.seq (.reg [⟨(some 3), .mov (.t 0), none⟩,
     ⟨(some 4), .call (.f 86) [(.k (.list .full 0 [])), (.t 3)] true, none⟩,
     ⟨(some 2), .mov (.t 4), none⟩] [2])
  (.ret))
def f62 : IFn := { body := b62, params := 1, res := [(2, none)], pop := false, keep := false }
theorem ok62 : okFn Try.prog 62 f62 = true := by kernel_rfl

-- slices.SortFunc[[][2]int,[2]int]
def b63 : C :=
  .seq (.reg [⟨(some 5), .mov (.t 0), none⟩,
     ⟨(some 6), .len 1 (.t 5), none⟩,
     ⟨(some 4), .mov (.t 6), none⟩] [0, 1, 4])
  (.reg [⟨(some 7), .mov (.t 0), none⟩,
    ⟨(some 8), .mov (.t 4), none⟩,
    ⟨(some 9), .mov (.t 4), none⟩,
    ⟨(some 10), .conv .u64 (.t 9), none⟩,
    ⟨(some 11), .call (.f 84) [(.t 10)] false, none⟩,
    ⟨(some 12), .mov (.t 1), none⟩,
    ⟨(some 13), .call (.f 87) [(.t 7), (.k (.int .i64 0)), (.t 8), (.t 11), (.t 12)] false, none⟩] [])
def f63 : IFn := { body := b63, params := 2, res := [], pop := false, keep := false }
theorem ok63o : okFn Try.prog 63 { f63 with orc := sortFO } = true := by kernel_rfl
-- resolvent/pairs.Of$1
def d64_0 : List (IOper × Nat × Nat) :=
  [(⟨(some 5), .indexAddrA 2 1 (.t 2) (.k (.int .i64 0)), none⟩, 0, 0),
    (⟨(some 6), .load none (.t 5), none⟩, 0, 1),
    (⟨(some 7), .indexAddrA 2 1 (.t 3) (.k (.int .i64 0)), none⟩, 0, 0),
    (⟨(some 8), .load none (.t 7), none⟩, 0, 1),
    (⟨(some 9), .call (.f 66) [(.t 6), (.t 8)] false, none⟩, 0, 0),
    (⟨(some 10), .indexAddrA 2 1 (.t 2) (.k (.int .i64 1)), none⟩, 0, 0),
    (⟨(some 11), .load none (.t 10), none⟩, 0, 2),
    (⟨(some 12), .indexAddrA 2 1 (.t 3) (.k (.int .i64 1)), none⟩, 0, 0),
    (⟨(some 13), .load none (.t 12), none⟩, 0, 2),
    (⟨(some 14), .call (.f 66) [(.t 11), (.t 13)] false, none⟩, 0, 0),
    (⟨(some 15), .buildSlice 1 [(.int .i64 0)] 2 [(0, (.t 9)), (1, (.t 14))] false, none⟩, 0, 0),
    (⟨(some 16), .call (.f 65) [(.t 15)] false, none⟩, 0, 0),
    (⟨(some 4), .mov (.t 16), none⟩, 0, 0)]
def b64 : C :=
  .seq (.reg [⟨(some 2), .box (.t 0), none⟩,
     ⟨(some 3), .box (.t 1), none⟩,
     ⟨(some 4), .mov (.k (.int .i64 0)), none⟩] [2, 3])
  (.seq (.regD d64_0 [4])
  (.ret))
def f64 : IFn := { body := b64, params := 2, res := [(4, none)], pop := false, keep := false }
theorem ok64 : okFn Try.prog 64 f64 = true := by kernel_rfl

-- cmp.Or[int]
def b65_0 : C :=
  .reg [⟨(some 16), .bin .add (.t 8) (.k (.int .i64 1)), none⟩,
    ⟨(some 8), .mov (.t 16), none⟩] [3, 6, 7, 8]
def c65_1 (b65_0 : C) : C :=
  .seqT (.block 1 (.seq (.reg [⟨(some 10), .indexAddr 1 (.t 6) (.t 8), none⟩,
       ⟨(some 11), .load none (.t 10), none⟩,
       ⟨(some 5), .mov (.t 11), none⟩] [3, 5, 6, 7, 8])
    (.seq (.reg [⟨(some 12), .mov (.t 5), none⟩,
       ⟨(some 13), .mov (.t 3), none⟩,
       ⟨(some 14), .bin .neq (.t 12) (.t 13), none⟩] [3, 5, 6, 7, 8, 14])
    (.cond (.t 14) (.seq (.reg [⟨(some 15), .mov (.t 5), none⟩,
        ⟨(some 2), .mov (.t 15), none⟩] [2])
     (.ret))
    (.skip))))) [3, 6, 7, 8] b65_0
def b65_1 : C := c65_1 b65_0
def c65_2 (b65_1 : C) : C :=
  .seq (.reg [⟨(some 9), .bin .lss (.t 8) (.t 7), none⟩] [3, 6, 7, 8, 9])
  (.seqT (.cond (.t 9) (.skip)
   (.exit 0)) [3, 6, 7, 8] b65_1)
def b65_2 : C := c65_2 b65_1
def b65_3 : C :=
  .seq (.reg [⟨(some 17), .mov (.t 3), none⟩,
     ⟨(some 2), .mov (.t 17), none⟩] [2])
  (.ret)
def c65 (b65_2 b65_3 : C) : C :=
  .seq (.reg [⟨(some 2), .mov (.k (.int .i64 0)), none⟩] [0])
  (.seq (.reg [⟨(some 3), .mov (.k (.int .i64 0)), none⟩] [0, 3])
  (.seqT (.seq (.reg [⟨(some 6), .mov (.t 0), none⟩,
      ⟨(some 7), .len 1 (.t 6), none⟩,
      ⟨(some 8), .mov (.k (.int .i64 0)), none⟩] [3, 6, 7, 8])
   (.block 0 (.loop [3, 6, 7, 8] false b65_2))) [3] b65_3))
def b65 : C := c65 b65_2 b65_3
def f65 : IFn := { body := b65, params := 1, res := [(2, none)], pop := false, keep := false }
theorem ok65 : okFn Try.prog 65 f65 = true := by kernel_rfl

-- cmp.Compare[int]
def b66_0 : C :=
  .seq (.reg [⟨(some 4), .mov (.k (.int .i64 (-1))), none⟩] [4])
  (.ret)
def b66_1 : C :=
  .seq (.reg [⟨(some 4), .mov (.k (.int .i64 0)), none⟩] [4])
  (.ret)
def c66_2 (b66_1 : C) : C :=
  .seqT (.seq (.reg [⟨(some 17), .mov (.t 0), none⟩,
      ⟨(some 18), .mov (.t 1), none⟩,
      ⟨(some 19), .bin .gtr (.t 17) (.t 18), none⟩] [19])
   (.cond (.t 19) (.seq (.reg [⟨(some 4), .mov (.k (.int .i64 1)), none⟩] [4])
    (.ret))
   (.skip))) [] b66_1
def b66_2 : C := c66_2 b66_1
def c66_3 (b66_2 : C) : C :=
  .seqT (.seq (.reg [⟨(some 14), .mov (.t 0), none⟩,
      ⟨(some 15), .mov (.t 1), none⟩,
      ⟨(some 16), .bin .lss (.t 14) (.t 15), none⟩] [0, 1, 16])
   (.cond (.t 16) (.seq (.reg [⟨(some 4), .mov (.k (.int .i64 (-1))), none⟩] [4])
    (.ret))
   (.skip))) [0, 1] b66_2
def b66_3 : C := c66_3 b66_2
def c66_4 (b66_3 : C) : C :=
  .seqT (.seq (.reg [⟨(some 13), .mov (.t 6), none⟩] [0, 1, 13])
   (.cond (.t 13) (.seq (.reg [⟨(some 4), .mov (.k (.int .i64 1)), none⟩] [4])
    (.ret))
   (.skip))) [0, 1] b66_3
def b66_4 : C := c66_4 b66_3
def c66 (b66_0 b66_4 : C) : C :=
  .seq (.reg [⟨(some 4), .mov (.k (.int .i64 0)), none⟩] [0, 1])
  (.seq (.reg [⟨(some 7), .mov (.t 0), none⟩,
     ⟨(some 8), .call (.f 88) [(.t 7)] false, none⟩,
     ⟨(some 5), .mov (.t 8), none⟩] [0, 1, 5])
  (.seq (.reg [⟨(some 9), .mov (.t 1), none⟩,
     ⟨(some 10), .call (.f 88) [(.t 9)] false, none⟩,
     ⟨(some 6), .mov (.t 10), none⟩] [0, 1, 5, 6])
  (.seqT (.seq (.reg [⟨(some 11), .mov (.t 5), none⟩] [0, 1, 6, 11])
   (.cond (.t 11) (.seqT (.seq (.reg [⟨(some 12), .mov (.t 6), none⟩] [12])
     (.cond (.t 12) (.seq (.reg [⟨(some 4), .mov (.k (.int .i64 0)), none⟩] [4])
      (.ret))
     (.skip))) [] b66_0)
   (.skip))) [0, 1, 6] b66_4)))
def b66 : C := c66 b66_0 b66_4
def f66 : IFn := { body := b66, params := 2, res := [(4, none)], pop := false, keep := false }
theorem ok66 : okFn Try.prog 66 f66 = true := by kernel_rfl

-- slices.Compact[[][2]int,[2]int]
def d67_0 : List (IOper × Nat × Nat) :=
  [(⟨(some 16), .mov (.t 0), none⟩, 0, 0),
    (⟨(some 17), .mov (.t 3), none⟩, 0, 0),
    (⟨(some 18), .indexAddr 2 (.t 16) (.t 17), none⟩, 0, 0),
    (⟨(some 19), .load (some 2) (.t 18), none⟩, 0, 1),
    (⟨(some 20), .mov (.t 0), none⟩, 0, 0),
    (⟨(some 21), .mov (.t 3), none⟩, 0, 0),
    (⟨(some 22), .bin .sub (.t 21) (.k (.int .i64 1)), none⟩, 0, 0),
    (⟨(some 23), .indexAddr 2 (.t 20) (.t 22), none⟩, 0, 0),
    (⟨(some 24), .load (some 2) (.t 23), none⟩, 0, 1),
    (⟨(some 25), .eqv ⟨[.i, .i], true⟩ false (.t 19) (.t 24), none⟩, 0, 0)]
def d67_1 : List (IOper × Nat × Nat) :=
  [(⟨(some 35), .mov (.t 4), none⟩, 0, 0),
    (⟨(some 36), .mov (.t 5), none⟩, 0, 0),
    (⟨(some 37), .indexAddr 2 (.t 35) (.t 36), none⟩, 0, 0),
    (⟨(some 38), .load (some 2) (.t 37), none⟩, 0, 1),
    (⟨(some 39), .mov (.t 4), none⟩, 0, 0),
    (⟨(some 40), .mov (.t 5), none⟩, 0, 0),
    (⟨(some 41), .bin .sub (.t 40) (.k (.int .i64 1)), none⟩, 0, 0),
    (⟨(some 42), .indexAddr 2 (.t 39) (.t 41), none⟩, 0, 0),
    (⟨(some 43), .load (some 2) (.t 42), none⟩, 0, 1),
    (⟨(some 44), .eqv ⟨[.i, .i], true⟩ true (.t 38) (.t 43), none⟩, 0, 0)]
def b67_2 : C :=
  .reg [⟨(some 33), .mov (.t 5), none⟩,
    ⟨(some 34), .bin .add (.t 33) (.k (.int .i64 1)), none⟩,
    ⟨(some 5), .mov (.t 34), none⟩] [0, 3, 4, 5]
def c67_3 (b67_2 : C) : C :=
  .seqT (.block 3 (.seq (.regD d67_1 [0, 3, 4, 5, 44])
    (.cond (.t 44) (.seq (.reg [⟨(some 45), .mov (.t 0), none⟩,
        ⟨(some 46), .mov (.t 3), none⟩,
        ⟨(some 47), .mov (.t 4), none⟩,
        ⟨(some 48), .mov (.t 5), none⟩,
        ⟨(some 49), .indexAddr 2 (.t 47) (.t 48), none⟩,
        ⟨(some 50), .load (some 2) (.t 49), none⟩,
        ⟨(some 51), .indexAddr 2 (.t 45) (.t 46), none⟩,
        ⟨none, .store 2 (.t 51) (.t 50), none⟩] [0, 3, 4, 5])
     (.reg [⟨(some 52), .mov (.t 3), none⟩,
       ⟨(some 53), .bin .add (.t 52) (.k (.int .i64 1)), none⟩,
       ⟨(some 3), .mov (.t 53), none⟩] [0, 3, 4, 5]))
    (.skip)))) [0, 3, 4, 5] b67_2
def b67_3 : C := c67_3 b67_2
def c67_4 (b67_3 : C) : C :=
  .seqT (.seq (.reg [⟨(some 29), .mov (.t 5), none⟩,
      ⟨(some 30), .mov (.t 4), none⟩,
      ⟨(some 31), .len 1 (.t 30), none⟩,
      ⟨(some 32), .bin .lss (.t 29) (.t 31), none⟩] [0, 3, 4, 5, 32])
   (.cond (.t 32) (.skip)
   (.exit 2))) [0, 3, 4, 5] b67_3
def b67_4 : C := c67_4 b67_3
def b67_5 : C :=
  .seq (.reg [⟨(some 54), .mov (.t 0), none⟩,
     ⟨(some 55), .mov (.t 3), none⟩,
     ⟨(some 56), .slice 2 (.t 54) (some (.t 55)) none, none⟩,
     ⟨none, .clear 2 [(.int .i64 0), (.int .i64 0)] (.t 56), none⟩] [0, 3])
  (.seq (.reg [⟨(some 57), .mov (.t 0), none⟩,
     ⟨(some 58), .mov (.t 3), none⟩,
     ⟨(some 59), .slice 2 (.t 57) none (some (.t 58)), none⟩,
     ⟨(some 2), .mov (.t 59), none⟩] [2])
  (.ret))
def b67_6 : C :=
  .reg [⟨(some 14), .mov (.t 3), none⟩,
    ⟨(some 15), .bin .add (.t 14) (.k (.int .i64 1)), none⟩,
    ⟨(some 3), .mov (.t 15), none⟩] [0, 3]
def c67_7 (b67_4 b67_5 b67_6 : C) : C :=
  .seqT (.block 1 (.seq (.regD d67_0 [0, 3, 25])
    (.cond (.t 25) (.seq (.reg [⟨(some 26), .mov (.t 0), none⟩,
        ⟨(some 27), .mov (.t 3), none⟩,
        ⟨(some 28), .slice 2 (.t 26) (some (.t 27)) none, none⟩,
        ⟨(some 4), .mov (.t 28), none⟩] [0, 3, 4])
     (.seqT (.seq (.reg [⟨(some 5), .mov (.k (.int .i64 1)), none⟩] [0, 3, 4, 5])
      (.block 2 (.loop [0, 3, 4, 5] false b67_4))) [0, 3] b67_5))
    (.skip)))) [0, 3] b67_6
def b67_7 : C := c67_7 b67_4 b67_5 b67_6
def c67_8 (b67_7 : C) : C :=
  .seqT (.seq (.reg [⟨(some 10), .mov (.t 3), none⟩,
      ⟨(some 11), .mov (.t 0), none⟩,
      ⟨(some 12), .len 1 (.t 11), none⟩,
      ⟨(some 13), .bin .lss (.t 10) (.t 12), none⟩] [0, 3, 13])
   (.cond (.t 13) (.skip)
   (.exit 0))) [0, 3] b67_7
def b67_8 : C := c67_8 b67_7
def b67_9 : C :=
  .seq (.reg [⟨(some 60), .mov (.t 0), none⟩,
     ⟨(some 2), .mov (.t 60), none⟩] [2])
  (.ret)
def c67_10 (b67_8 b67_9 : C) : C :=
  .seqT (.seq (.reg [⟨(some 3), .mov (.k (.int .i64 1)), none⟩] [0, 3])
   (.block 0 (.loop [0, 3] false b67_8))) [0] b67_9
def b67_10 : C := c67_10 b67_8 b67_9
def c67 (b67_10 : C) : C :=
  .seq (.reg [⟨(some 2), .mov (.k (.list .full 2 [])), none⟩] [0])
  (.seqT (.seq (.reg [⟨(some 6), .mov (.t 0), none⟩,
      ⟨(some 7), .len 1 (.t 6), none⟩,
      ⟨(some 8), .bin .lss (.t 7) (.k (.int .i64 2)), none⟩] [0, 8])
   (.cond (.t 8) (.seq (.reg [⟨(some 9), .mov (.t 0), none⟩,
       ⟨(some 2), .mov (.t 9), none⟩] [2])
    (.ret))
   (.skip))) [0] b67_10)
def b67 : C := c67 b67_10
def f67 : IFn := { body := b67, params := 1, res := [(2, none)], pop := false, keep := false }
theorem ok67 : okFn Try.prog 67 f67 = true := by kernel_rfl

-- slices.Concat[[][2]int,[2]int]
def b68_0 : C :=
  .reg [⟨(some 22), .bin .add (.t 11) (.k (.int .i64 1)), none⟩,
    ⟨(some 11), .mov (.t 22), none⟩] [0, 3, 9, 10, 11]
def c68_1 (b68_0 : C) : C :=
  .seqT (.block 1 (.seq (.reg [⟨(some 13), .indexAddr 1 (.t 9) (.t 11), none⟩,
       ⟨(some 14), .load none (.t 13), none⟩,
       ⟨(some 5), .mov (.t 14), none⟩] [0, 3, 5, 9, 10, 11])
    (.seq (.reg [⟨(some 15), .mov (.t 3), none⟩,
       ⟨(some 16), .mov (.t 5), none⟩,
       ⟨(some 17), .len 1 (.t 16), none⟩,
       ⟨(some 18), .bin .add (.t 15) (.t 17), none⟩,
       ⟨(some 3), .mov (.t 18), none⟩] [0, 3, 9, 10, 11])
    (.seq (.reg [⟨(some 19), .mov (.t 3), none⟩,
       ⟨(some 20), .bin .lss (.t 19) (.k (.int .i64 0)), none⟩] [0, 3, 9, 10, 11, 20])
    (.cond (.t 20) (.reg [⟨(some 21), .makeIface 9 (.k (.str ⟨#[108, 101, 110, 32, 111, 117, 116, 32, 111, 102, 32, 114, 97, 110, 103, 101]⟩)), none⟩,
       ⟨none, .never, none⟩] [0, 3, 9, 10, 11])
    (.skip)))))) [0, 3, 9, 10, 11] b68_0
def b68_1 : C := c68_1 b68_0
def c68_2 (b68_1 : C) : C :=
  .seq (.reg [⟨(some 12), .bin .lss (.t 11) (.t 10), none⟩] [0, 3, 9, 10, 11, 12])
  (.seqT (.cond (.t 12) (.skip)
   (.exit 0)) [0, 3, 9, 10, 11] b68_1)
def b68_2 : C := c68_2 b68_1
def b68_3 : C :=
  .seq (.block 3 (.seq (.reg [⟨(some 29), .indexAddr 1 (.t 25) (.t 27), none⟩,
       ⟨(some 30), .load none (.t 29), none⟩,
       ⟨(some 8), .mov (.t 30), none⟩] [6, 8, 25, 26, 27])
    (.reg [⟨(some 31), .mov (.t 6), none⟩,
      ⟨(some 32), .mov (.t 8), none⟩,
      ⟨(some 33), .append 2 16 (.t 31) (.t 32) 1, none⟩,
      ⟨(some 6), .mov (.t 33), none⟩] [6, 25, 26, 27])))
  (.reg [⟨(some 34), .bin .add (.t 27) (.k (.int .i64 1)), none⟩,
    ⟨(some 27), .mov (.t 34), none⟩] [6, 25, 26, 27])
def c68_4 (b68_3 : C) : C :=
  .seq (.reg [⟨(some 28), .bin .lss (.t 27) (.t 26), none⟩] [6, 25, 26, 27, 28])
  (.seqT (.cond (.t 28) (.skip)
   (.exit 2)) [6, 25, 26, 27] b68_3)
def b68_4 : C := c68_4 b68_3
def b68_5 : C :=
  .seq (.reg [⟨(some 35), .mov (.t 6), none⟩,
     ⟨(some 2), .mov (.t 35), none⟩] [2])
  (.ret)
def c68_6 (b68_4 b68_5 : C) : C :=
  .seq (.reg [⟨(some 23), .mov (.t 3), none⟩,
     ⟨(some 24), .call (.f 89) [(.k (.list .full 0 [])), (.t 23)] true, none⟩,
     ⟨(some 6), .mov (.t 24), none⟩] [0, 6])
  (.seqT (.seq (.reg [⟨(some 25), .mov (.t 0), none⟩,
      ⟨(some 26), .len 1 (.t 25), none⟩,
      ⟨(some 27), .mov (.k (.int .i64 0)), none⟩] [6, 25, 26, 27])
   (.block 2 (.loop [6, 25, 26, 27] false b68_4))) [6] b68_5)
def b68_6 : C := c68_6 b68_4 b68_5
def c68 (b68_2 b68_6 : C) : C :=
  .seq (.reg [⟨(some 2), .mov (.k (.list .full 2 [])), none⟩] [0])
  (.seq (.reg [⟨(some 3), .mov (.k (.int .i64 0)), none⟩] [0, 3])
  (.seqT (.seq (.reg [⟨(some 9), .mov (.t 0), none⟩,
      ⟨(some 10), .len 1 (.t 9), none⟩,
      ⟨(some 11), .mov (.k (.int .i64 0)), none⟩] [0, 3, 9, 10, 11])
   (.block 0 (.loop [0, 3, 9, 10, 11] false b68_2))) [0, 3] b68_6))
def b68 : C := c68 b68_2 b68_6
def f68 : IFn := { body := b68, params := 1, res := [(2, none)], pop := false, keep := false }
theorem ok68 : okFn Try.prog 68 f68 = true := by kernel_rfl

-- slices.Clone[[][2]int,[2]int]
def b69_0 : C :=
  .seq (.reg [⟨(some 5), .buildSlice 2 [(.int .i64 0), (.int .i64 0)] 0 [] false, none⟩,
     ⟨(some 6), .mov (.t 0), none⟩,
     ⟨(some 7), .append 2 16 (.t 5) (.t 6) 0, none⟩,
     ⟨(some 2), .mov (.t 7), none⟩] [2])
  (.ret)
def c69 (b69_0 : C) : C :=
  .seq (.reg [⟨(some 2), .mov (.k (.list .full 2 [])), none⟩] [0])
  (.seqT (.seq (.reg [⟨(some 3), .mov (.t 0), none⟩,
      ⟨(some 4), .never, none⟩] [0, 4])
   (.cond (.t 4) (.seq (.reg [⟨(some 2), .mov (.k (.list .full 2 [])), none⟩] [2])
    (.ret))
   (.skip))) [0] b69_0)
def b69 : C := c69 b69_0
def f69 : IFn := { body := b69, params := 1, res := [(2, none)], pop := false, keep := false }
theorem ok69o : okFn Try.prog 69 { f69 with orc := cloneP } = true := by kernel_rfl
-- slices.DeleteFunc[[][2]int,[2]int]
def b70_0 : C :=
  .reg [⟨(some 20), .mov (.t 6), none⟩,
    ⟨(some 21), .bin .add (.t 20) (.k (.int .i64 1)), none⟩,
    ⟨(some 6), .mov (.t 21), none⟩] [0, 1, 5, 6]
def c70_1 (b70_0 : C) : C :=
  .seqT (.block 1 (.seq (.reg [⟨(some 22), .mov (.t 0), none⟩,
       ⟨(some 23), .mov (.t 6), none⟩,
       ⟨(some 24), .indexAddr 2 (.t 22) (.t 23), none⟩,
       ⟨(some 25), .load (some 2) (.t 24), none⟩,
       ⟨(some 7), .new [(.int .i64 0), (.int .i64 0)], none⟩,
       ⟨none, .store 2 (.t 7) (.t 25), none⟩] [0, 1, 5, 6, 7])
    (.seq (.reg [⟨(some 26), .mov (.t 1), none⟩,
       ⟨(some 27), .load (some 2) (.t 7), none⟩,
       ⟨(some 28), .call (.t 26) [(.t 27)] false, none⟩,
       ⟨(some 29), .un .not (.t 28), none⟩] [0, 1, 5, 6, 7, 29])
    (.cond (.t 29) (.seq (.reg [⟨(some 30), .mov (.t 0), none⟩,
        ⟨(some 31), .mov (.t 5), none⟩,
        ⟨(some 32), .load (some 2) (.t 7), none⟩,
        ⟨(some 33), .indexAddr 2 (.t 30) (.t 31), none⟩,
        ⟨none, .store 2 (.t 33) (.t 32), none⟩] [0, 1, 5, 6])
     (.reg [⟨(some 34), .mov (.t 5), none⟩,
       ⟨(some 35), .bin .add (.t 34) (.k (.int .i64 1)), none⟩,
       ⟨(some 5), .mov (.t 35), none⟩] [0, 1, 5, 6]))
    (.skip))))) [0, 1, 5, 6] b70_0
def b70_1 : C := c70_1 b70_0
def c70_2 (b70_1 : C) : C :=
  .seqT (.seq (.reg [⟨(some 16), .mov (.t 6), none⟩,
      ⟨(some 17), .mov (.t 0), none⟩,
      ⟨(some 18), .len 1 (.t 17), none⟩,
      ⟨(some 19), .bin .lss (.t 16) (.t 18), none⟩] [0, 1, 5, 6, 19])
   (.cond (.t 19) (.skip)
   (.exit 0))) [0, 1, 5, 6] b70_1
def b70_2 : C := c70_2 b70_1
def b70_3 : C :=
  .seq (.reg [⟨(some 36), .mov (.t 0), none⟩,
     ⟨(some 37), .mov (.t 5), none⟩,
     ⟨(some 38), .slice 2 (.t 36) (some (.t 37)) none, none⟩,
     ⟨none, .clear 2 [(.int .i64 0), (.int .i64 0)] (.t 38), none⟩] [0, 5])
  (.seq (.reg [⟨(some 39), .mov (.t 0), none⟩,
     ⟨(some 40), .mov (.t 5), none⟩,
     ⟨(some 41), .slice 2 (.t 39) none (some (.t 40)), none⟩,
     ⟨(some 4), .mov (.t 41), none⟩] [4])
  (.ret))
def c70_4 (b70_2 b70_3 : C) : C :=
  .seqT (.seq (.reg [⟨(some 14), .mov (.t 5), none⟩,
      ⟨(some 15), .bin .add (.t 14) (.k (.int .i64 1)), none⟩,
      ⟨(some 6), .mov (.t 15), none⟩] [0, 1, 5, 6])
   (.block 0 (.loop [0, 1, 5, 6] false b70_2))) [0, 5] b70_3
def b70_4 : C := c70_4 b70_2 b70_3
def c70 (b70_4 : C) : C :=
  .seq (.reg [⟨(some 4), .mov (.k (.list .full 2 [])), none⟩] [0, 1])
  (.seq (.reg [⟨(some 8), .mov (.t 0), none⟩,
     ⟨(some 9), .mov (.t 1), none⟩,
     ⟨(some 10), .call (.f 90) [(.t 8), (.t 9)] false, none⟩,
     ⟨(some 5), .mov (.t 10), none⟩] [0, 1, 5])
  (.seqT (.seq (.reg [⟨(some 11), .mov (.t 5), none⟩,
      ⟨(some 12), .bin .eql (.t 11) (.k (.int .i64 (-1))), none⟩] [0, 1, 5, 12])
   (.cond (.t 12) (.seq (.reg [⟨(some 13), .mov (.t 0), none⟩,
       ⟨(some 4), .mov (.t 13), none⟩] [4])
    (.ret))
   (.skip))) [0, 1, 5] b70_4))
def b70 : C := c70 b70_4
def f70 : IFn := { body := b70, params := 2, res := [(4, none)], pop := false, keep := false }
theorem ok70 : okFn Try.prog 70 f70 = true := by kernel_rfl

-- resolvent/pairs.Without$1
def b71 : C :=
  .seq (.reg [⟨(some 2), .box (.t 0), none⟩,
     ⟨(some 3), .mov (.k (.bool false)), none⟩] [1, 2])
  (.seq (.reg [⟨(some 4), .load none (.t 1), none⟩,
     ⟨(some 5), .indexAddrA 2 1 (.t 2) (.k (.int .i64 0)), none⟩,
     ⟨(some 6), .load none (.t 5), none⟩,
     ⟨(some 7), .call (.f 49) [(.t 4), (.t 6)] false, none⟩,
     ⟨(some 8), .mov (.t 7), none⟩,
     ⟨(some 9), .load none (.t 1), some (8, false)⟩,
     ⟨(some 10), .indexAddrA 2 1 (.t 2) (.k (.int .i64 1)), some (8, false)⟩,
     ⟨(some 11), .load none (.t 10), some (8, false)⟩,
     ⟨(some 12), .call (.f 49) [(.t 9), (.t 11)] false, some (8, false)⟩,
     ⟨(some 13), .pick (.t 8) (.k (.bool true)) (.t 12), none⟩,
     ⟨(some 3), .mov (.t 13), none⟩] [3])
  (.ret))
def f71 : IFn := { body := b71, params := 2, res := [(3, none)], pop := false, keep := false }
theorem ok71 : okFn Try.prog 71 f71 = true := by kernel_rfl

-- slices.Clone[[]int,int]
def b72_0 : C :=
  .seq (.reg [⟨(some 5), .buildSlice 1 [(.int .i64 0)] 0 [] false, none⟩,
     ⟨(some 6), .mov (.t 0), none⟩,
     ⟨(some 7), .append 1 8 (.t 5) (.t 6) 0, none⟩,
     ⟨(some 2), .mov (.t 7), none⟩] [2])
  (.ret)
def c72 (b72_0 : C) : C :=
  .seq (.reg [⟨(some 2), .mov (.k (.list .full 1 [])), none⟩] [0])
  (.seqT (.seq (.reg [⟨(some 3), .mov (.t 0), none⟩,
      ⟨(some 4), .never, none⟩] [0, 4])
   (.cond (.t 4) (.seq (.reg [⟨(some 2), .mov (.k (.list .full 1 [])), none⟩] [2])
    (.ret))
   (.skip))) [0] b72_0)
def b72 : C := c72 b72_0
def f72 : IFn := { body := b72, params := 1, res := [(2, none)], pop := false, keep := false }
theorem ok72o : okFn Try.prog 72 { f72 with orc := cloneI } = true := by kernel_rfl
-- slices.DeleteFunc[[]int,int]
def b73_0 : C :=
  .reg [⟨(some 20), .mov (.t 6), none⟩,
    ⟨(some 21), .bin .add (.t 20) (.k (.int .i64 1)), none⟩,
    ⟨(some 6), .mov (.t 21), none⟩] [0, 1, 5, 6]
def c73_1 (b73_0 : C) : C :=
  .seqT (.block 1 (.seq (.reg [⟨(some 22), .mov (.t 0), none⟩,
       ⟨(some 23), .mov (.t 6), none⟩,
       ⟨(some 24), .indexAddr 1 (.t 22) (.t 23), none⟩,
       ⟨(some 25), .load none (.t 24), none⟩,
       ⟨(some 7), .mov (.t 25), none⟩] [0, 1, 5, 6, 7])
    (.seq (.reg [⟨(some 26), .mov (.t 1), none⟩,
       ⟨(some 27), .mov (.t 7), none⟩,
       ⟨(some 28), .call (.t 26) [(.t 27)] false, none⟩,
       ⟨(some 29), .un .not (.t 28), none⟩] [0, 1, 5, 6, 7, 29])
    (.cond (.t 29) (.seq (.reg [⟨(some 30), .mov (.t 0), none⟩,
        ⟨(some 31), .mov (.t 5), none⟩,
        ⟨(some 32), .mov (.t 7), none⟩,
        ⟨(some 33), .indexAddr 1 (.t 30) (.t 31), none⟩,
        ⟨none, .store 1 (.t 33) (.t 32), none⟩] [0, 1, 5, 6])
     (.reg [⟨(some 34), .mov (.t 5), none⟩,
       ⟨(some 35), .bin .add (.t 34) (.k (.int .i64 1)), none⟩,
       ⟨(some 5), .mov (.t 35), none⟩] [0, 1, 5, 6]))
    (.skip))))) [0, 1, 5, 6] b73_0
def b73_1 : C := c73_1 b73_0
def c73_2 (b73_1 : C) : C :=
  .seqT (.seq (.reg [⟨(some 16), .mov (.t 6), none⟩,
      ⟨(some 17), .mov (.t 0), none⟩,
      ⟨(some 18), .len 1 (.t 17), none⟩,
      ⟨(some 19), .bin .lss (.t 16) (.t 18), none⟩] [0, 1, 5, 6, 19])
   (.cond (.t 19) (.skip)
   (.exit 0))) [0, 1, 5, 6] b73_1
def b73_2 : C := c73_2 b73_1
def b73_3 : C :=
  .seq (.reg [⟨(some 36), .mov (.t 0), none⟩,
     ⟨(some 37), .mov (.t 5), none⟩,
     ⟨(some 38), .slice 1 (.t 36) (some (.t 37)) none, none⟩,
     ⟨none, .clear 1 [(.int .i64 0)] (.t 38), none⟩] [0, 5])
  (.seq (.reg [⟨(some 39), .mov (.t 0), none⟩,
     ⟨(some 40), .mov (.t 5), none⟩,
     ⟨(some 41), .slice 1 (.t 39) none (some (.t 40)), none⟩,
     ⟨(some 4), .mov (.t 41), none⟩] [4])
  (.ret))
def c73_4 (b73_2 b73_3 : C) : C :=
  .seqT (.seq (.reg [⟨(some 14), .mov (.t 5), none⟩,
      ⟨(some 15), .bin .add (.t 14) (.k (.int .i64 1)), none⟩,
      ⟨(some 6), .mov (.t 15), none⟩] [0, 1, 5, 6])
   (.block 0 (.loop [0, 1, 5, 6] false b73_2))) [0, 5] b73_3
def b73_4 : C := c73_4 b73_2 b73_3
def c73 (b73_4 : C) : C :=
  .seq (.reg [⟨(some 4), .mov (.k (.list .full 1 [])), none⟩] [0, 1])
  (.seq (.reg [⟨(some 8), .mov (.t 0), none⟩,
     ⟨(some 9), .mov (.t 1), none⟩,
     ⟨(some 10), .call (.f 91) [(.t 8), (.t 9)] false, none⟩,
     ⟨(some 5), .mov (.t 10), none⟩] [0, 1, 5])
  (.seqT (.seq (.reg [⟨(some 11), .mov (.t 5), none⟩,
      ⟨(some 12), .bin .eql (.t 11) (.k (.int .i64 (-1))), none⟩] [0, 1, 5, 12])
   (.cond (.t 12) (.seq (.reg [⟨(some 13), .mov (.t 0), none⟩,
       ⟨(some 4), .mov (.t 13), none⟩] [4])
    (.ret))
   (.skip))) [0, 1, 5] b73_4))
def b73 : C := c73 b73_4
def f73 : IFn := { body := b73, params := 2, res := [(4, none)], pop := false, keep := false }
theorem ok73 : okFn Try.prog 73 f73 = true := by kernel_rfl

-- resolvent/pairs.Places$1
def b74 : C :=
  .seq (.reg [⟨(some 2), .mov (.k (.bool false)), none⟩] [0])
  (.seq (.reg [⟨(some 3), .mov (.t 0), none⟩,
     ⟨(some 4), .bin .lss (.t 3) (.k (.int .i64 0)), none⟩,
     ⟨(some 2), .mov (.t 4), none⟩] [2])
  (.ret))
def f74 : IFn := { body := b74, params := 1, res := [(2, none)], pop := false, keep := false }
theorem ok74 : okFn Try.prog 74 f74 = true := by kernel_rfl

-- slices.Index[[]int,int]
def b79_0 : C :=
  .reg [⟨(some 18), .bin .add (.t 8) (.k (.int .i64 1)), none⟩,
    ⟨(some 8), .mov (.t 18), none⟩] [0, 1, 7, 8]
def c79_1 (b79_0 : C) : C :=
  .seqT (.block 1 (.seq (.reg [⟨(some 10), .mov (.t 8), none⟩,
       ⟨(some 5), .mov (.t 10), none⟩] [0, 1, 5, 7, 8])
    (.seq (.reg [⟨(some 11), .mov (.t 1), none⟩,
       ⟨(some 12), .mov (.t 0), none⟩,
       ⟨(some 13), .mov (.t 5), none⟩,
       ⟨(some 14), .indexAddr 1 (.t 12) (.t 13), none⟩,
       ⟨(some 15), .load none (.t 14), none⟩,
       ⟨(some 16), .bin .eql (.t 11) (.t 15), none⟩] [0, 1, 5, 7, 8, 16])
    (.cond (.t 16) (.seq (.reg [⟨(some 17), .mov (.t 5), none⟩,
        ⟨(some 4), .mov (.t 17), none⟩] [4])
     (.ret))
    (.skip))))) [0, 1, 7, 8] b79_0
def b79_1 : C := c79_1 b79_0
def c79_2 (b79_1 : C) : C :=
  .seq (.reg [⟨(some 9), .bin .lss (.t 8) (.t 7), none⟩] [0, 1, 7, 8, 9])
  (.seqT (.cond (.t 9) (.skip)
   (.exit 0)) [0, 1, 7, 8] b79_1)
def b79_2 : C := c79_2 b79_1
def b79_3 : C :=
  .seq (.reg [⟨(some 4), .mov (.k (.int .i64 (-1))), none⟩] [4])
  (.ret)
def c79 (b79_2 b79_3 : C) : C :=
  .seq (.reg [⟨(some 4), .mov (.k (.int .i64 0)), none⟩] [0, 1])
  (.seqT (.seq (.reg [⟨(some 6), .mov (.t 0), none⟩,
      ⟨(some 7), .len 1 (.t 6), none⟩,
      ⟨(some 8), .mov (.k (.int .i64 0)), none⟩] [0, 1, 7, 8])
   (.block 0 (.loop [0, 1, 7, 8] false b79_2))) [] b79_3)
def b79 : C := c79 b79_2 b79_3
def f79 : IFn := { body := b79, params := 2, res := [(4, none)], pop := false, keep := false }
theorem ok79 : okFn Try.prog 79 f79 = true := by kernel_rfl

-- resolvent/pairs.good$1
def b85_0 : C :=
  .reg [⟨(some 38), .bin .add (.t 7) (.k (.int .i64 1)), none⟩,
    ⟨(some 7), .mov (.t 38), none⟩] [0, 5, 6, 7]
def c85_1 (b85_0 : C) : C :=
  .seqT (.block 1 (.seq (.reg [⟨(some 9), .indexAddr 2 (.t 5) (.t 7), none⟩,
       ⟨(some 10), .load (some 2) (.t 9), none⟩,
       ⟨(some 4), .new [(.int .i64 0), (.int .i64 0)], none⟩,
       ⟨none, .store 2 (.t 4) (.t 10), none⟩] [0, 4, 5, 6, 7])
    (.seq (.reg [⟨(some 11), .indexAddrA 2 1 (.t 4) (.k (.int .i64 0)), none⟩,
       ⟨(some 12), .load none (.t 11), none⟩,
       ⟨(some 13), .indexAddrA 2 1 (.t 4) (.k (.int .i64 1)), none⟩,
       ⟨(some 14), .load none (.t 13), none⟩,
       ⟨(some 15), .min2 (.t 12) (.t 14), none⟩,
       ⟨(some 16), .indexAddrA 2 1 (.t 4) (.k (.int .i64 0)), none⟩,
       ⟨(some 17), .load none (.t 16), none⟩,
       ⟨(some 18), .indexAddrA 2 1 (.t 4) (.k (.int .i64 1)), none⟩,
       ⟨(some 19), .load none (.t 18), none⟩,
       ⟨(some 20), .max2 (.t 17) (.t 19), none⟩,
       ⟨(some 21), .build [(.int .i64 0), (.int .i64 0)] [(0, 1, (.t 15)), (1, 1, (.t 20))], none⟩,
       ⟨none, .store 2 (.t 4) (.t 21), none⟩] [0, 4, 5, 6, 7])
    (.seq (.reg [⟨(some 22), .indexAddrA 2 1 (.t 4) (.k (.int .i64 0)), none⟩,
       ⟨(some 23), .load none (.t 22), none⟩,
       ⟨(some 24), .bin .geq (.t 23) (.k (.int .i64 0)), none⟩,
       ⟨(some 25), .mov (.t 24), none⟩,
       ⟨(some 26), .indexAddrA 2 1 (.t 4) (.k (.int .i64 0)), some (25, true)⟩,
       ⟨(some 27), .load none (.t 26), some (25, true)⟩,
       ⟨(some 28), .indexAddrA 2 1 (.t 4) (.k (.int .i64 1)), some (25, true)⟩,
       ⟨(some 29), .load none (.t 28), some (25, true)⟩,
       ⟨(some 30), .bin .neq (.t 27) (.t 29), some (25, true)⟩,
       ⟨(some 31), .pick (.t 25) (.t 30) (.k (.bool false)), none⟩,
       ⟨(some 32), .mov (.t 31), none⟩,
       ⟨(some 33), .mov (.t 0), some (32, true)⟩,
       ⟨(some 34), .load (some 2) (.t 4), some (32, true)⟩,
       ⟨(some 35), .call (.t 33) [(.t 34)] false, some (32, true)⟩,
       ⟨(some 36), .un .not (.t 35), some (32, true)⟩,
       ⟨(some 37), .pick (.t 32) (.t 36) (.k (.bool false)), none⟩] [0, 5, 6, 7, 37])
    (.cond (.t 37) (.ret)
    (.skip)))))) [0, 5, 6, 7] b85_0
def b85_1 : C := c85_1 b85_0
def c85_2 (b85_1 : C) : C :=
  .seq (.reg [⟨(some 8), .bin .lss (.t 7) (.t 6), none⟩] [0, 5, 6, 7, 8])
  (.seqT (.cond (.t 8) (.skip)
   (.exit 0)) [0, 5, 6, 7] b85_1)
def b85_2 : C := c85_2 b85_1
def c85 (b85_2 : C) : C :=
  .seq (.reg [⟨(some 5), .load none (.t 1), none⟩,
     ⟨(some 6), .len 1 (.t 5), none⟩,
     ⟨(some 7), .mov (.k (.int .i64 0)), none⟩] [0, 5, 6, 7])
  (.block 0 (.loop [0, 5, 6, 7] false b85_2))
def b85 : C := c85 b85_2
def f85 : IFn := { body := b85, params := 2, res := [], pop := false, keep := false }
theorem ok85 : okFn Try.prog 85 f85 = true := by kernel_rfl

-- slices.AppendSeq[[][2]int,[2]int]
def b86_0 : C :=
  .reg [⟨(some 5), .new [(.int .i64 0), (.int .i64 0)], none⟩,
    ⟨none, .store 2 (.t 5) (.t 7), none⟩] [2, 5]
def b86_1 : C :=
  .block 1 (.reg [⟨(some 8), .load none (.t 2), none⟩,
     ⟨(some 9), .load (some 2) (.t 5), none⟩,
     ⟨(some 10), .buildSlice 2 [(.int .i64 0), (.int .i64 0)] 1 [(0, (.t 9))] false, none⟩,
     ⟨(some 11), .append 2 16 (.t 8) (.t 10) 1, none⟩,
     ⟨none, .store 1 (.t 2) (.t 11), none⟩] [])
def b86_2 : C :=
  .seq (.reg [⟨(some 12), .load none (.t 2), none⟩,
     ⟨(some 4), .mov (.t 12), none⟩] [4])
  (.ret)
def c86 (b86_0 b86_1 b86_2 : C) : C :=
  .seq (.reg [⟨(some 2), .box (.t 0), none⟩,
     ⟨(some 4), .mov (.k (.list .full 2 [])), none⟩] [1, 2, 4])
  (.seqT (.seq (.reg [⟨(some 6), .mov (.t 1), none⟩] [2, 4, 6])
   (.block 0 (.rangeFunc (.t 6) [7] b86_0 b86_1 [2, 4]))) [2] b86_2)
def b86 : C := c86 b86_0 b86_1 b86_2
def f86 : IFn := { body := b86, params := 2, res := [(4, none)], pop := false, keep := false }
theorem ok86 : okFn Try.prog 86 f86 = true := by kernel_rfl

-- cmp.isNaN[int]
def b88 : C :=
  .seq (.reg [⟨(some 2), .mov (.k (.bool false)), none⟩] [0])
  (.seq (.reg [⟨(some 3), .mov (.t 0), none⟩,
     ⟨(some 4), .mov (.t 0), none⟩,
     ⟨(some 5), .bin .neq (.t 3) (.t 4), none⟩,
     ⟨(some 2), .mov (.t 5), none⟩] [2])
  (.ret))
def f88 : IFn := { body := b88, params := 1, res := [(2, none)], pop := false, keep := false }
theorem ok88 : okFn Try.prog 88 f88 = true := by kernel_rfl

-- slices.Grow[[][2]int,[2]int]
def b89_0 : C :=
  .seq (.reg [⟨(some 26), .mov (.t 0), none⟩,
     ⟨(some 4), .mov (.t 26), none⟩] [4])
  (.ret)
def c89_1 (b89_0 : C) : C :=
  .seqT (.seq (.reg [⟨(some 8), .mov (.t 1), none⟩,
      ⟨(some 9), .mov (.t 0), none⟩,
      ⟨(some 10), .never, none⟩,
      ⟨(some 11), .mov (.t 0), none⟩,
      ⟨(some 12), .len 1 (.t 11), none⟩,
      ⟨(some 13), .bin .sub (.t 10) (.t 12), none⟩,
      ⟨(some 14), .bin .sub (.t 8) (.t 13), none⟩,
      ⟨(some 1), .mov (.t 14), none⟩] [0, 1])
   (.seq (.reg [⟨(some 15), .mov (.t 1), none⟩,
      ⟨(some 16), .bin .gtr (.t 15) (.k (.int .i64 0)), none⟩] [0, 1, 16])
   (.cond (.t 16) (.reg [⟨(some 17), .mov (.t 0), none⟩,
      ⟨(some 18), .mov (.t 0), none⟩,
      ⟨(some 19), .never, none⟩,
      ⟨(some 20), .slice 2 (.t 17) none (some (.t 19)), none⟩,
      ⟨(some 21), .mov (.t 1), none⟩,
      ⟨(some 22), .never, none⟩,
      ⟨(some 23), .mov (.t 0), none⟩,
      ⟨(some 24), .len 1 (.t 23), none⟩,
      ⟨(some 25), .slice 2 (.t 22) none (some (.t 24)), none⟩,
      ⟨(some 0), .mov (.t 25), none⟩] [0])
   (.skip)))) [0] b89_0
def b89_1 : C := c89_1 b89_0
def c89 (b89_1 : C) : C :=
  .seq (.reg [⟨(some 4), .mov (.k (.list .full 2 [])), none⟩] [0, 1])
  (.seqT (.seq (.reg [⟨(some 5), .mov (.t 1), none⟩,
      ⟨(some 6), .bin .lss (.t 5) (.k (.int .i64 0)), none⟩] [0, 1, 6])
   (.cond (.t 6) (.reg [⟨(some 7), .makeIface 9 (.k (.str ⟨#[99, 97, 110, 110, 111, 116, 32, 98, 101, 32, 110, 101, 103, 97, 116, 105, 118, 101]⟩)), none⟩,
      ⟨none, .never, none⟩] [0, 1])
   (.skip))) [0, 1] b89_1)
def b89 : C := c89 b89_1
def f89 : IFn := { body := b89, params := 2, res := [(4, none)], pop := false, keep := false }
theorem ok89o : okFn Try.prog 89 { f89 with orc := growP } = true := by kernel_rfl
-- slices.IndexFunc[[][2]int,[2]int]
def b90_0 : C :=
  .reg [⟨(some 18), .bin .add (.t 8) (.k (.int .i64 1)), none⟩,
    ⟨(some 8), .mov (.t 18), none⟩] [0, 1, 7, 8]
def c90_1 (b90_0 : C) : C :=
  .seqT (.block 1 (.seq (.reg [⟨(some 10), .mov (.t 8), none⟩,
       ⟨(some 5), .mov (.t 10), none⟩] [0, 1, 5, 7, 8])
    (.seq (.reg [⟨(some 11), .mov (.t 1), none⟩,
       ⟨(some 12), .mov (.t 0), none⟩,
       ⟨(some 13), .mov (.t 5), none⟩,
       ⟨(some 14), .indexAddr 2 (.t 12) (.t 13), none⟩,
       ⟨(some 15), .load (some 2) (.t 14), none⟩,
       ⟨(some 16), .call (.t 11) [(.t 15)] false, none⟩] [0, 1, 5, 7, 8, 16])
    (.cond (.t 16) (.seq (.reg [⟨(some 17), .mov (.t 5), none⟩,
        ⟨(some 4), .mov (.t 17), none⟩] [4])
     (.ret))
    (.skip))))) [0, 1, 7, 8] b90_0
def b90_1 : C := c90_1 b90_0
def c90_2 (b90_1 : C) : C :=
  .seq (.reg [⟨(some 9), .bin .lss (.t 8) (.t 7), none⟩] [0, 1, 7, 8, 9])
  (.seqT (.cond (.t 9) (.skip)
   (.exit 0)) [0, 1, 7, 8] b90_1)
def b90_2 : C := c90_2 b90_1
def b90_3 : C :=
  .seq (.reg [⟨(some 4), .mov (.k (.int .i64 (-1))), none⟩] [4])
  (.ret)
def c90 (b90_2 b90_3 : C) : C :=
  .seq (.reg [⟨(some 4), .mov (.k (.int .i64 0)), none⟩] [0, 1])
  (.seqT (.seq (.reg [⟨(some 6), .mov (.t 0), none⟩,
      ⟨(some 7), .len 1 (.t 6), none⟩,
      ⟨(some 8), .mov (.k (.int .i64 0)), none⟩] [0, 1, 7, 8])
   (.block 0 (.loop [0, 1, 7, 8] false b90_2))) [] b90_3)
def b90 : C := c90 b90_2 b90_3
def f90 : IFn := { body := b90, params := 2, res := [(4, none)], pop := false, keep := false }
theorem ok90 : okFn Try.prog 90 f90 = true := by kernel_rfl

-- slices.IndexFunc[[]int,int]
def b91_0 : C :=
  .reg [⟨(some 18), .bin .add (.t 8) (.k (.int .i64 1)), none⟩,
    ⟨(some 8), .mov (.t 18), none⟩] [0, 1, 7, 8]
def c91_1 (b91_0 : C) : C :=
  .seqT (.block 1 (.seq (.reg [⟨(some 10), .mov (.t 8), none⟩,
       ⟨(some 5), .mov (.t 10), none⟩] [0, 1, 5, 7, 8])
    (.seq (.reg [⟨(some 11), .mov (.t 1), none⟩,
       ⟨(some 12), .mov (.t 0), none⟩,
       ⟨(some 13), .mov (.t 5), none⟩,
       ⟨(some 14), .indexAddr 1 (.t 12) (.t 13), none⟩,
       ⟨(some 15), .load none (.t 14), none⟩,
       ⟨(some 16), .call (.t 11) [(.t 15)] false, none⟩] [0, 1, 5, 7, 8, 16])
    (.cond (.t 16) (.seq (.reg [⟨(some 17), .mov (.t 5), none⟩,
        ⟨(some 4), .mov (.t 17), none⟩] [4])
     (.ret))
    (.skip))))) [0, 1, 7, 8] b91_0
def b91_1 : C := c91_1 b91_0
def c91_2 (b91_1 : C) : C :=
  .seq (.reg [⟨(some 9), .bin .lss (.t 8) (.t 7), none⟩] [0, 1, 7, 8, 9])
  (.seqT (.cond (.t 9) (.skip)
   (.exit 0)) [0, 1, 7, 8] b91_1)
def b91_2 : C := c91_2 b91_1
def b91_3 : C :=
  .seq (.reg [⟨(some 4), .mov (.k (.int .i64 (-1))), none⟩] [4])
  (.ret)
def c91 (b91_2 b91_3 : C) : C :=
  .seq (.reg [⟨(some 4), .mov (.k (.int .i64 0)), none⟩] [0, 1])
  (.seqT (.seq (.reg [⟨(some 6), .mov (.t 0), none⟩,
      ⟨(some 7), .len 1 (.t 6), none⟩,
      ⟨(some 8), .mov (.k (.int .i64 0)), none⟩] [0, 1, 7, 8])
   (.block 0 (.loop [0, 1, 7, 8] false b91_2))) [] b91_3)
def b91 : C := c91 b91_2 b91_3
def f91 : IFn := { body := b91, params := 2, res := [(4, none)], pop := false, keep := false }
theorem ok91 : okFn Try.prog 91 f91 = true := by kernel_rfl

theorem mixed : Try.prog.follows .mixedOrders = true := by kernel_rfl
def T0 : Nat → Option IFn
  | 7 => some f7
  | 8 => some f8
  | 9 => some f9
  | 27 => some f27
  | 28 => some f28
  | 29 => some f29
  | 30 => some f30
  | 31 => some f31
  | 32 => some f32
  | 33 => some f33
  | 34 => some f34
  | 35 => some f35
  | 36 => some f36
  | 37 => some f37
  | 38 => some f38
  | 39 => some f39
  | 40 => some f40
  | 41 => some f41
  | 42 => some f42
  | 43 => some f43
  | 49 => some f49
  | 56 => some { f56 with orc := sortO }
  | 57 => some { f57 with orc := compO }
  | 61 => some f61
  | 62 => some f62
  | 63 => some { f63 with orc := sortFO }
  | 64 => some f64
  | 65 => some f65
  | 66 => some f66
  | 67 => some f67
  | 68 => some f68
  | 69 => some { f69 with orc := cloneP }
  | 70 => some f70
  | 71 => some f71
  | 72 => some { f72 with orc := cloneI }
  | 73 => some f73
  | 74 => some f74
  | 79 => some f79
  | 85 => some f85
  | 86 => some f86
  | 88 => some f88
  | 89 => some { f89 with orc := growP }
  | 90 => some f90
  | 91 => some f91
  | _ => none

theorem hT0 : ∀ f fn, T0 f = some fn → okFn Try.prog f fn = true := by
  intro f fn h
  unfold T0 at h
  split at h
  · cases h; exact ok7
  · cases h; exact ok8
  · cases h; exact ok9
  · cases h; exact ok27
  · cases h; exact ok28
  · cases h; exact ok29
  · cases h; exact ok30
  · cases h; exact ok31
  · cases h; exact ok32
  · cases h; exact ok33
  · cases h; exact ok34
  · cases h; exact ok35
  · cases h; exact ok36
  · cases h; exact ok37
  · cases h; exact ok38
  · cases h; exact ok39
  · cases h; exact ok40
  · cases h; exact ok41
  · cases h; exact ok42
  · cases h; exact ok43
  · cases h; exact ok49
  · cases h; exact ok56o
  · cases h; exact ok57o
  · cases h; exact ok61
  · cases h; exact ok62
  · cases h; exact ok63o
  · cases h; exact ok64
  · cases h; exact ok65
  · cases h; exact ok66
  · cases h; exact ok67
  · cases h; exact ok68
  · cases h; exact ok69o
  · cases h; exact ok70
  · cases h; exact ok71
  · cases h; exact ok72o
  · cases h; exact ok73
  · cases h; exact ok74
  · cases h; exact ok79
  · cases h; exact ok85
  · cases h; exact ok86
  · cases h; exact ok88
  · cases h; exact ok89o
  · cases h; exact ok90
  · cases h; exact ok91
  · cases h
theorem hO0 (h56 : OrcSound Try.prog (okc0 Try.prog) 56 { f56 with orc := sortO }) (h57 : OrcSound Try.prog (okc0 Try.prog) 57 { f57 with orc := compO }) (h63 : OrcSound Try.prog (okc0 Try.prog) 63 { f63 with orc := sortFO }) (h69 : OrcSound Try.prog (okc0 Try.prog) 69 { f69 with orc := cloneP }) (h72 : OrcSound Try.prog (okc0 Try.prog) 72 { f72 with orc := cloneI }) (h89 : OrcSound Try.prog (okc0 Try.prog) 89 { f89 with orc := growP }) : ∀ f fn, T0 f = some fn → OrcSound Try.prog (okc0 Try.prog) f fn := by
  intro f fn h
  unfold T0 at h
  split at h
  · cases h; exact orcSound_none fun _ _ => rfl
  · cases h; exact orcSound_none fun _ _ => rfl
  · cases h; exact orcSound_none fun _ _ => rfl
  · cases h; exact orcSound_none fun _ _ => rfl
  · cases h; exact orcSound_none fun _ _ => rfl
  · cases h; exact orcSound_none fun _ _ => rfl
  · cases h; exact orcSound_none fun _ _ => rfl
  · cases h; exact orcSound_none fun _ _ => rfl
  · cases h; exact orcSound_none fun _ _ => rfl
  · cases h; exact orcSound_none fun _ _ => rfl
  · cases h; exact orcSound_none fun _ _ => rfl
  · cases h; exact orcSound_none fun _ _ => rfl
  · cases h; exact orcSound_none fun _ _ => rfl
  · cases h; exact orcSound_none fun _ _ => rfl
  · cases h; exact orcSound_none fun _ _ => rfl
  · cases h; exact orcSound_none fun _ _ => rfl
  · cases h; exact orcSound_none fun _ _ => rfl
  · cases h; exact orcSound_none fun _ _ => rfl
  · cases h; exact orcSound_none fun _ _ => rfl
  · cases h; exact orcSound_none fun _ _ => rfl
  · cases h; exact orcSound_none fun _ _ => rfl
  · cases h; exact h56
  · cases h; exact h57
  · cases h; exact orcSound_none fun _ _ => rfl
  · cases h; exact orcSound_none fun _ _ => rfl
  · cases h; exact h63
  · cases h; exact orcSound_none fun _ _ => rfl
  · cases h; exact orcSound_none fun _ _ => rfl
  · cases h; exact orcSound_none fun _ _ => rfl
  · cases h; exact orcSound_none fun _ _ => rfl
  · cases h; exact orcSound_none fun _ _ => rfl
  · cases h; exact h69
  · cases h; exact orcSound_none fun _ _ => rfl
  · cases h; exact orcSound_none fun _ _ => rfl
  · cases h; exact h72
  · cases h; exact orcSound_none fun _ _ => rfl
  · cases h; exact orcSound_none fun _ _ => rfl
  · cases h; exact orcSound_none fun _ _ => rfl
  · cases h; exact orcSound_none fun _ _ => rfl
  · cases h; exact orcSound_none fun _ _ => rfl
  · cases h; exact orcSound_none fun _ _ => rfl
  · cases h; exact h89
  · cases h; exact orcSound_none fun _ _ => rfl
  · cases h; exact orcSound_none fun _ _ => rfl
  · cases h
theorem ok28o : okFn Try.prog 28 { f28 with orc := orc0 (.bool true) } = true := by kernel_rfl
def T : Nat → Option IFn
  | 7 => some f7
  | 8 => some f8
  | 9 => some f9
  | 27 => some f27
  | 28 => some { f28 with orc := orc0 (.bool true) }
  | 29 => some f29
  | 30 => some f30
  | 31 => some f31
  | 32 => some f32
  | 33 => some f33
  | 34 => some f34
  | 35 => some f35
  | 36 => some f36
  | 37 => some f37
  | 38 => some f38
  | 39 => some f39
  | 40 => some f40
  | 41 => some f41
  | 42 => some f42
  | 43 => some f43
  | 49 => some f49
  | 56 => some { f56 with orc := sortO }
  | 57 => some { f57 with orc := compO }
  | 61 => some f61
  | 62 => some f62
  | 63 => some { f63 with orc := sortFO }
  | 64 => some f64
  | 65 => some f65
  | 66 => some f66
  | 67 => some f67
  | 68 => some f68
  | 69 => some { f69 with orc := cloneP }
  | 70 => some f70
  | 71 => some f71
  | 72 => some { f72 with orc := cloneI }
  | 73 => some f73
  | 74 => some f74
  | 79 => some f79
  | 85 => some f85
  | 86 => some f86
  | 88 => some f88
  | 89 => some { f89 with orc := growP }
  | 90 => some f90
  | 91 => some f91
  | _ => none

theorem hT : ∀ f fn, T f = some fn → okFn Try.prog f fn = true := by
  intro f fn h
  unfold T at h
  split at h
  · cases h; exact ok7
  · cases h; exact ok8
  · cases h; exact ok9
  · cases h; exact ok27
  · cases h; exact ok28o
  · cases h; exact ok29
  · cases h; exact ok30
  · cases h; exact ok31
  · cases h; exact ok32
  · cases h; exact ok33
  · cases h; exact ok34
  · cases h; exact ok35
  · cases h; exact ok36
  · cases h; exact ok37
  · cases h; exact ok38
  · cases h; exact ok39
  · cases h; exact ok40
  · cases h; exact ok41
  · cases h; exact ok42
  · cases h; exact ok43
  · cases h; exact ok49
  · cases h; exact ok56o
  · cases h; exact ok57o
  · cases h; exact ok61
  · cases h; exact ok62
  · cases h; exact ok63o
  · cases h; exact ok64
  · cases h; exact ok65
  · cases h; exact ok66
  · cases h; exact ok67
  · cases h; exact ok68
  · cases h; exact ok69o
  · cases h; exact ok70
  · cases h; exact ok71
  · cases h; exact ok72o
  · cases h; exact ok73
  · cases h; exact ok74
  · cases h; exact ok79
  · cases h; exact ok85
  · cases h; exact ok86
  · cases h; exact ok88
  · cases h; exact ok89o
  · cases h; exact ok90
  · cases h; exact ok91
  · cases h
end Go.Proofs.P17
