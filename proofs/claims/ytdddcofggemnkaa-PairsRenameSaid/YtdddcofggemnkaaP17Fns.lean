import Derived.KernelRfl
import Derived.Test.YtdddcofggemnkaaAmIn
import Derived.Test.YtdddcofggemnkaaAmSort
import Derived.Test.YtdddcofggemnkaaSortO
import Derived.Test.YtdddcofggemnkaaProg
namespace Go.Proofs.P17
set_option linter.all false
open Go Go.Am

-- resolvent/resolventlaw17.PairsRename
def d7_0 : List (IOper × Nat × Nat) :=
  [(⟨(some 30), .mov (.t 0), none⟩, 0, 0),
    (⟨(some 31), .mov (.t 7), none⟩, 0, 0),
    (⟨(some 32), .indexAddr 2 (.t 30) (.t 31), none⟩, 0, 0),
    (⟨(some 33), .indexAddrA 2 1 (.t 32) (.k (.int .i64 0)), none⟩, 0, 0),
    (⟨(some 34), .load none (.t 33), none⟩, 0, 1),
    (⟨(some 35), .mov (.t 0), none⟩, 0, 0),
    (⟨(some 36), .mov (.t 7), none⟩, 0, 0),
    (⟨(some 37), .indexAddr 2 (.t 35) (.t 36), none⟩, 0, 0),
    (⟨(some 38), .indexAddrA 2 1 (.t 37) (.k (.int .i64 1)), none⟩, 0, 0),
    (⟨(some 39), .load none (.t 38), none⟩, 0, 1),
    (⟨(some 8), .mov (.t 34), none⟩, 0, 0),
    (⟨(some 9), .mov (.t 39), none⟩, 0, 0)]
def d7_1 : List (IOper × Nat × Nat) :=
  [(⟨(some 63), .mov (.t 6), none⟩, 0, 0),
    (⟨(some 64), .mov (.t 1), none⟩, 0, 0),
    (⟨(some 65), .mov (.t 8), none⟩, 0, 0),
    (⟨(some 66), .indexAddr 1 (.t 64) (.t 65), none⟩, 0, 0),
    (⟨(some 67), .load none (.t 66), none⟩, 0, 1),
    (⟨(some 68), .mov (.t 1), none⟩, 0, 0),
    (⟨(some 69), .mov (.t 9), none⟩, 0, 0),
    (⟨(some 70), .indexAddr 1 (.t 68) (.t 69), none⟩, 0, 0),
    (⟨(some 71), .load none (.t 70), none⟩, 0, 1),
    (⟨(some 72), .build [(.int .i64 0), (.int .i64 0)] [(0, 1, (.t 67)), (1, 1, (.t 71))], none⟩, 0, 0),
    (⟨(some 73), .buildSlice 2 [(.int .i64 0), (.int .i64 0)] 1 [(0, (.t 72))] false, none⟩, 0, 0),
    (⟨(some 74), .append 2 16 (.t 63) (.t 73) 0, none⟩, 0, 0),
    (⟨(some 6), .mov (.t 74), none⟩, 0, 0)]
def b7_2 : C :=
  .reg [⟨(some 28), .mov (.t 7), none⟩,
    ⟨(some 29), .bin .add (.t 28) (.k (.int .i64 1)), none⟩,
    ⟨(some 7), .mov (.t 29), none⟩] [0, 1, 5, 6, 7]
def c7_3 (b7_2 : C) : C :=
  .seqT (.block 1 (.seq (.regD d7_0 [0, 1, 5, 6, 7, 8, 9])
    (.seq (.reg [⟨(some 40), .mov (.t 8), none⟩,
       ⟨(some 41), .bin .geq (.t 40) (.k (.int .i64 0)), none⟩,
       ⟨(some 42), .mov (.t 41), none⟩,
       ⟨(some 43), .mov (.t 9), some (42, true)⟩,
       ⟨(some 44), .bin .geq (.t 43) (.k (.int .i64 0)), some (42, true)⟩,
       ⟨(some 45), .pick (.t 42) (.t 44) (.k (.bool false)), none⟩,
       ⟨(some 46), .mov (.t 45), none⟩,
       ⟨(some 47), .mov (.t 8), some (46, true)⟩,
       ⟨(some 48), .mov (.t 9), some (46, true)⟩,
       ⟨(some 49), .bin .neq (.t 47) (.t 48), some (46, true)⟩,
       ⟨(some 50), .pick (.t 46) (.t 49) (.k (.bool false)), none⟩,
       ⟨(some 51), .mov (.t 50), none⟩,
       ⟨(some 52), .mov (.t 8), some (51, true)⟩,
       ⟨(some 53), .mov (.t 1), some (51, true)⟩,
       ⟨(some 54), .len 1 (.t 53), some (51, true)⟩,
       ⟨(some 55), .bin .lss (.t 52) (.t 54), some (51, true)⟩,
       ⟨(some 56), .pick (.t 51) (.t 55) (.k (.bool false)), none⟩,
       ⟨(some 57), .mov (.t 56), none⟩,
       ⟨(some 58), .mov (.t 9), some (57, true)⟩,
       ⟨(some 59), .mov (.t 1), some (57, true)⟩,
       ⟨(some 60), .len 1 (.t 59), some (57, true)⟩,
       ⟨(some 61), .bin .lss (.t 58) (.t 60), some (57, true)⟩,
       ⟨(some 62), .pick (.t 57) (.t 61) (.k (.bool false)), none⟩] [0, 1, 5, 6, 7, 8, 9, 62])
    (.cond (.t 62) (.regD d7_1 [0, 1, 5, 6, 7])
    (.skip))))) [0, 1, 5, 6, 7] b7_2
def b7_3 : C := c7_3 b7_2
def c7_4 (b7_3 : C) : C :=
  .seqT (.seq (.reg [⟨(some 24), .mov (.t 7), none⟩,
      ⟨(some 25), .mov (.t 0), none⟩,
      ⟨(some 26), .len 1 (.t 25), none⟩,
      ⟨(some 27), .bin .lss (.t 24) (.t 26), none⟩] [0, 1, 5, 6, 7, 27])
   (.cond (.t 27) (.skip)
   (.exit 0))) [0, 1, 5, 6, 7] b7_3
def b7_4 : C := c7_4 b7_3
def d7_5 : List (IOper × Nat × Nat) :=
  [(⟨(some 84), .mov (.t 6), none⟩, 0, 0),
    (⟨(some 85), .mov (.t 5), none⟩, 0, 0),
    (⟨(some 86), .mov (.t 10), none⟩, 0, 0),
    (⟨(some 87), .indexAddr 2 (.t 85) (.t 86), none⟩, 0, 0),
    (⟨(some 88), .indexAddrA 2 1 (.t 87) (.k (.int .i64 0)), none⟩, 0, 0),
    (⟨(some 89), .load none (.t 88), none⟩, 0, 1),
    (⟨(some 90), .mov (.t 5), none⟩, 0, 0),
    (⟨(some 91), .mov (.t 10), none⟩, 0, 0),
    (⟨(some 92), .indexAddr 2 (.t 90) (.t 91), none⟩, 0, 0),
    (⟨(some 93), .indexAddrA 2 1 (.t 92) (.k (.int .i64 1)), none⟩, 0, 0),
    (⟨(some 94), .load none (.t 93), none⟩, 0, 1),
    (⟨(some 95), .call (.f 31) [(.t 84), (.t 89), (.t 94)] false, none⟩, 0, 0),
    (⟨(some 96), .un .not (.t 95), none⟩, 0, 0)]
def b7_6 : C :=
  .reg [⟨(some 82), .mov (.t 10), none⟩,
    ⟨(some 83), .bin .add (.t 82) (.k (.int .i64 1)), none⟩,
    ⟨(some 10), .mov (.t 83), none⟩] [5, 6, 10]
def c7_7 (b7_6 : C) : C :=
  .seqT (.block 3 (.seq (.regD d7_5 [5, 6, 10, 96])
    (.cond (.t 96) (.seq (.reg [⟨(some 4), .mov (.k (.bool false)), none⟩] [4])
     (.ret))
    (.skip)))) [5, 6, 10] b7_6
def b7_7 : C := c7_7 b7_6
def c7_8 (b7_7 : C) : C :=
  .seqT (.seq (.reg [⟨(some 78), .mov (.t 10), none⟩,
      ⟨(some 79), .mov (.t 5), none⟩,
      ⟨(some 80), .len 1 (.t 79), none⟩,
      ⟨(some 81), .bin .lss (.t 78) (.t 80), none⟩] [5, 6, 10, 81])
   (.cond (.t 81) (.skip)
   (.exit 2))) [5, 6, 10] b7_7
def b7_8 : C := c7_8 b7_7
def d7_9 : List (IOper × Nat × Nat) :=
  [(⟨(some 103), .mov (.t 6), none⟩, 0, 0),
    (⟨(some 104), .mov (.t 11), none⟩, 0, 0),
    (⟨(some 105), .indexAddr 2 (.t 103) (.t 104), none⟩, 0, 0),
    (⟨(some 106), .indexAddrA 2 1 (.t 105) (.k (.int .i64 0)), none⟩, 0, 0),
    (⟨(some 107), .load none (.t 106), none⟩, 0, 1),
    (⟨(some 108), .mov (.t 6), none⟩, 0, 0),
    (⟨(some 109), .mov (.t 11), none⟩, 0, 0),
    (⟨(some 110), .indexAddr 2 (.t 108) (.t 109), none⟩, 0, 0),
    (⟨(some 111), .indexAddrA 2 1 (.t 110) (.k (.int .i64 1)), none⟩, 0, 0),
    (⟨(some 112), .load none (.t 111), none⟩, 0, 1),
    (⟨(some 12), .mov (.t 107), none⟩, 0, 0),
    (⟨(some 13), .mov (.t 112), none⟩, 0, 0)]
def b7_10 : C :=
  .reg [⟨(some 101), .mov (.t 11), none⟩,
    ⟨(some 102), .bin .add (.t 101) (.k (.int .i64 1)), none⟩,
    ⟨(some 11), .mov (.t 102), none⟩] [5, 6, 11]
def c7_11 (b7_10 : C) : C :=
  .seqT (.block 5 (.seq (.regD d7_9 [5, 6, 11, 12, 13])
    (.seq (.reg [⟨(some 113), .mov (.t 6), none⟩,
       ⟨(some 114), .mov (.t 12), none⟩,
       ⟨(some 115), .mov (.t 13), none⟩,
       ⟨(some 116), .call (.f 31) [(.t 113), (.t 114), (.t 115)] false, none⟩,
       ⟨(some 117), .mov (.t 116), none⟩,
       ⟨(some 118), .mov (.t 5), some (117, true)⟩,
       ⟨(some 119), .mov (.t 12), some (117, true)⟩,
       ⟨(some 120), .mov (.t 13), some (117, true)⟩,
       ⟨(some 121), .call (.f 31) [(.t 118), (.t 119), (.t 120)] false, some (117, true)⟩,
       ⟨(some 122), .un .not (.t 121), some (117, true)⟩,
       ⟨(some 123), .pick (.t 117) (.t 122) (.k (.bool false)), none⟩] [5, 6, 11, 123])
    (.cond (.t 123) (.seq (.reg [⟨(some 4), .mov (.k (.bool false)), none⟩] [4])
     (.ret))
    (.skip))))) [5, 6, 11] b7_10
def b7_11 : C := c7_11 b7_10
def c7_12 (b7_11 : C) : C :=
  .seqT (.seq (.reg [⟨(some 97), .mov (.t 11), none⟩,
      ⟨(some 98), .mov (.t 6), none⟩,
      ⟨(some 99), .len 1 (.t 98), none⟩,
      ⟨(some 100), .bin .lss (.t 97) (.t 99), none⟩] [5, 6, 11, 100])
   (.cond (.t 100) (.skip)
   (.exit 4))) [5, 6, 11] b7_11
def b7_12 : C := c7_12 b7_11
def b7_13 : C :=
  .seq (.reg [⟨(some 124), .call (.f 28) [] false, none⟩,
     ⟨(some 4), .mov (.t 124), none⟩] [4])
  (.ret)
def c7_14 (b7_12 b7_13 : C) : C :=
  .seqT (.seq (.reg [⟨(some 11), .mov (.k (.int .i64 0)), none⟩] [5, 6, 11])
   (.block 4 (.loop [5, 6, 11] false b7_12))) [] b7_13
def b7_14 : C := c7_14 b7_12 b7_13
def c7_15 (b7_8 b7_14 : C) : C :=
  .seqT (.seq (.reg [⟨(some 10), .mov (.k (.int .i64 0)), none⟩] [5, 6, 10])
   (.block 2 (.loop [5, 6, 10] false b7_8))) [5, 6] b7_14
def b7_15 : C := c7_15 b7_8 b7_14
def c7_16 (b7_15 : C) : C :=
  .seqT (.seq (.reg [⟨(some 75), .mov (.t 5), none⟩,
      ⟨(some 76), .call (.f 30) [(.t 75)] false, none⟩,
      ⟨(some 77), .un .not (.t 76), none⟩] [5, 6, 77])
   (.cond (.t 77) (.seq (.reg [⟨(some 4), .mov (.k (.bool false)), none⟩] [4])
    (.ret))
   (.skip))) [5, 6] b7_15
def b7_16 : C := c7_16 b7_15
def c7_17 (b7_4 b7_16 : C) : C :=
  .seq (.reg [⟨(some 21), .mov (.t 0), none⟩,
     ⟨(some 22), .mov (.t 1), none⟩,
     ⟨(some 23), .call (.f 29) [(.t 21), (.t 22)] false, none⟩,
     ⟨(some 5), .mov (.t 23), none⟩] [0, 1, 5])
  (.seq (.reg [⟨(some 6), .tipNew 2, none⟩] [0, 1, 5, 6])
  (.seqT (.seq (.reg [⟨(some 7), .mov (.k (.int .i64 0)), none⟩] [0, 1, 5, 6, 7])
   (.block 0 (.loop [0, 1, 5, 6, 7] false b7_4))) [5, 6] b7_16))
def b7_17 : C := c7_17 b7_4 b7_16
def c7 (b7_17 : C) : C :=
  .seq (.reg [⟨(some 4), .mov (.k (.bool false)), none⟩] [0, 1])
  (.seqT (.seq (.reg [⟨(some 14), .mov (.t 0), none⟩,
      ⟨(some 15), .len 1 (.t 14), none⟩,
      ⟨(some 16), .mov (.t 1), none⟩,
      ⟨(some 17), .len 1 (.t 16), none⟩,
      ⟨(some 18), .buildSlice 1 [(.int .i64 0)] 2 [(0, (.t 15)), (1, (.t 17))] false, none⟩,
      ⟨(some 19), .call (.f 27) [(.t 18)] false, none⟩] [0, 1, 19])
   (.cond (.t 19) (.seq (.reg [⟨(some 20), .call (.f 28) [] false, none⟩,
       ⟨(some 4), .mov (.t 20), none⟩] [4])
    (.ret))
   (.skip))) [0, 1] b7_17)
def b7 : C := c7 b7_17
def f7 : IFn := { body := b7, params := 2, res := [(4, none)], pop := false, keep := false }
theorem ok7 : okFn Try.prog 7 f7 = true := by kernel_rfl

-- resolvent/resolventlaw17.great
def b27_0 : C :=
  .reg [⟨(some 8), .mov (.t 3), none⟩,
    ⟨(some 9), .bin .add (.t 8) (.k (.int .i64 1)), none⟩,
    ⟨(some 3), .mov (.t 9), none⟩] [0, 3]
def c27_1 (b27_0 : C) : C :=
  .seqT (.block 1 (.seq (.reg [⟨(some 10), .mov (.t 0), none⟩,
       ⟨(some 11), .mov (.t 3), none⟩,
       ⟨(some 12), .indexAddr 1 (.t 10) (.t 11), none⟩,
       ⟨(some 13), .load none (.t 12), none⟩,
       ⟨(some 14), .bin .gtr (.t 13) (.k (.int .i64 40)), none⟩] [0, 3, 14])
    (.cond (.t 14) (.seq (.reg [⟨(some 2), .mov (.k (.bool true)), none⟩] [2])
     (.ret))
    (.skip)))) [0, 3] b27_0
def b27_1 : C := c27_1 b27_0
def c27_2 (b27_1 : C) : C :=
  .seqT (.seq (.reg [⟨(some 4), .mov (.t 3), none⟩,
      ⟨(some 5), .mov (.t 0), none⟩,
      ⟨(some 6), .len 1 (.t 5), none⟩,
      ⟨(some 7), .bin .lss (.t 4) (.t 6), none⟩] [0, 3, 7])
   (.cond (.t 7) (.skip)
   (.exit 0))) [0, 3] b27_1
def b27_2 : C := c27_2 b27_1
def b27_3 : C :=
  .seq (.reg [⟨(some 2), .mov (.k (.bool false)), none⟩] [2])
  (.ret)
def c27 (b27_2 b27_3 : C) : C :=
  .seq (.reg [⟨(some 2), .mov (.k (.bool false)), none⟩] [0])
  (.seqT (.seq (.reg [⟨(some 3), .mov (.k (.int .i64 0)), none⟩] [0, 3])
   (.block 0 (.loop [0, 3] false b27_2))) [] b27_3)
def b27 : C := c27 b27_2 b27_3
def f27 : IFn := { body := b27, params := 1, res := [(2, none)], pop := false, keep := false }
theorem ok27 : okFn Try.prog 27 f27 = true := by kernel_rfl

-- resolvent/resolventlaw17.wakes
def b28 : C :=
  .seq (.reg [⟨(some 0), .mov (.k (.bool false)), none⟩] [])
  (.seq (.reg [⟨(some 4), .build [(.int .i64 0), (.int .i64 0)] [(0, 1, (.k (.int .i64 3))), (1, 1, (.k (.int .i64 1)))], none⟩,
     ⟨(some 5), .build [(.int .i64 0), (.int .i64 0)] [(0, 1, (.k (.int .i64 1))), (1, 1, (.k (.int .i64 3)))], none⟩,
     ⟨(some 6), .build [(.int .i64 0), (.int .i64 0)] [(0, 1, (.k (.int .i64 2))), (1, 1, (.k (.int .i64 2)))], none⟩,
     ⟨(some 7), .buildSlice 2 [(.int .i64 0), (.int .i64 0)] 3 [(0, (.t 4)), (1, (.t 5)), (2, (.t 6))] false, none⟩,
     ⟨(some 8), .call (.f 32) [(.t 7)] false, none⟩,
     ⟨(some 1), .mov (.t 8), none⟩] [1])
  (.seq (.reg [⟨(some 9), .build [(.int .i64 0), (.int .i64 0)] [(0, 1, (.k (.int .i64 1))), (1, 1, (.k (.int .i64 3)))], none⟩,
     ⟨(some 10), .build [(.int .i64 0), (.int .i64 0)] [(0, 1, (.k (.int .i64 3))), (1, 1, (.k (.int .i64 5)))], none⟩,
     ⟨(some 11), .buildSlice 2 [(.int .i64 0), (.int .i64 0)] 2 [(0, (.t 9)), (1, (.t 10))] false, none⟩,
     ⟨(some 12), .buildSlice 1 [(.int .i64 0)] 1 [(0, (.k (.int .i64 3)))] false, none⟩,
     ⟨(some 13), .call (.f 36) [(.t 11), (.t 12)] false, none⟩,
     ⟨(some 2), .mov (.t 13), none⟩] [1, 2])
  (.seq (.reg [⟨(some 14), .build [(.int .i64 0), (.int .i64 0)] [(0, 1, (.k (.int .i64 1))), (1, 1, (.k (.int .i64 3)))], none⟩,
     ⟨(some 15), .build [(.int .i64 0), (.int .i64 0)] [(0, 1, (.k (.int .i64 2))), (1, 1, (.k (.int .i64 4)))], none⟩,
     ⟨(some 16), .buildSlice 2 [(.int .i64 0), (.int .i64 0)] 2 [(0, (.t 14)), (1, (.t 15))] false, none⟩,
     ⟨(some 17), .buildSlice 1 [(.int .i64 0)] 1 [(0, (.k (.int .i64 3)))] false, none⟩,
     ⟨(some 18), .call (.f 35) [(.t 16), (.t 17)] false, none⟩,
     ⟨(some 3), .mov (.t 18), none⟩] [1, 2, 3])
  (.seq (.reg [⟨(some 19), .mov (.t 1), none⟩,
     ⟨(some 20), .len 1 (.t 19), none⟩,
     ⟨(some 21), .bin .eql (.t 20) (.k (.int .i64 1)), none⟩,
     ⟨(some 22), .mov (.t 21), none⟩,
     ⟨(some 23), .mov (.t 1), some (22, true)⟩,
     ⟨(some 24), .indexAddr 2 (.t 23) (.k (.int .i64 0)), some (22, true)⟩,
     ⟨(some 25), .load (some 2) (.t 24), some (22, true)⟩,
     ⟨(some 26), .build [(.int .i64 0), (.int .i64 0)] [(0, 1, (.k (.int .i64 1))), (1, 1, (.k (.int .i64 3)))], some (22, true)⟩,
     ⟨(some 27), .eqv ⟨[.i, .i], true⟩ false (.t 25) (.t 26), some (22, true)⟩,
     ⟨(some 28), .pick (.t 22) (.t 27) (.k (.bool false)), none⟩,
     ⟨(some 29), .mov (.t 28), none⟩,
     ⟨(some 30), .mov (.t 2), some (29, true)⟩,
     ⟨(some 31), .len 1 (.t 30), some (29, true)⟩,
     ⟨(some 32), .bin .eql (.t 31) (.k (.int .i64 3)), some (29, true)⟩,
     ⟨(some 33), .pick (.t 29) (.t 32) (.k (.bool false)), none⟩,
     ⟨(some 34), .mov (.t 33), none⟩,
     ⟨(some 35), .mov (.t 2), some (34, true)⟩,
     ⟨(some 36), .indexAddr 1 (.t 35) (.k (.int .i64 2)), some (34, true)⟩,
     ⟨(some 37), .load none (.t 36), some (34, true)⟩,
     ⟨(some 38), .bin .eql (.t 37) (.k (.int .i64 5)), some (34, true)⟩,
     ⟨(some 39), .pick (.t 34) (.t 38) (.k (.bool false)), none⟩,
     ⟨(some 40), .mov (.t 39), none⟩,
     ⟨(some 41), .mov (.t 3), some (40, true)⟩,
     ⟨(some 42), .len 1 (.t 41), some (40, true)⟩,
     ⟨(some 43), .bin .eql (.t 42) (.k (.int .i64 1)), some (40, true)⟩,
     ⟨(some 44), .pick (.t 40) (.t 43) (.k (.bool false)), none⟩,
     ⟨(some 45), .mov (.t 44), none⟩,
     ⟨(some 46), .mov (.t 3), some (45, true)⟩,
     ⟨(some 47), .indexAddr 2 (.t 46) (.k (.int .i64 0)), some (45, true)⟩,
     ⟨(some 48), .load (some 2) (.t 47), some (45, true)⟩,
     ⟨(some 49), .build [(.int .i64 0), (.int .i64 0)] [(0, 1, (.k (.int .i64 2))), (1, 1, (.k (.int .i64 4)))], some (45, true)⟩,
     ⟨(some 50), .eqv ⟨[.i, .i], true⟩ false (.t 48) (.t 49), some (45, true)⟩,
     ⟨(some 51), .pick (.t 45) (.t 50) (.k (.bool false)), none⟩,
     ⟨(some 52), .mov (.t 51), none⟩,
     ⟨(some 53), .build [(.int .i64 0), (.int .i64 0)] [(0, 1, (.k (.int .i64 1))), (1, 1, (.k (.int .i64 3)))], some (52, true)⟩,
     ⟨(some 54), .buildSlice 2 [(.int .i64 0), (.int .i64 0)] 1 [(0, (.t 53))] false, some (52, true)⟩,
     ⟨(some 55), .call (.f 42) [(.t 54), (.k (.int .i64 3)), (.k (.int .i64 1))] false, some (52, true)⟩,
     ⟨(some 56), .pick (.t 52) (.t 55) (.k (.bool false)), none⟩,
     ⟨(some 0), .mov (.t 56), none⟩] [0])
  (.ret)))))
def f28 : IFn := { body := b28, params := 0, res := [(0, none)], pop := true, keep := false }
theorem ok28 : okFn Try.prog 28 f28 = true := by kernel_rfl

-- resolvent/pairs.Rename
def b29_0 : C :=
  .reg [⟨(some 6), .new [(.int .i64 0), (.int .i64 0)], none⟩,
    ⟨none, .store 2 (.t 6) (.t 9), none⟩] [3, 5, 6]
def d29_1 : List (IOper × Nat × Nat) :=
  [(⟨(some 15), .load none (.t 5), none⟩, 0, 1),
    (⟨(some 16), .load none (.t 3), none⟩, 0, 1),
    (⟨(some 17), .indexAddrA 2 1 (.t 6) (.k (.int .i64 0)), none⟩, 0, 0),
    (⟨(some 18), .load none (.t 17), none⟩, 0, 1),
    (⟨(some 19), .indexAddr 1 (.t 16) (.t 18), none⟩, 0, 0),
    (⟨(some 20), .load none (.t 19), none⟩, 0, 1),
    (⟨(some 21), .load none (.t 3), none⟩, 0, 1),
    (⟨(some 22), .indexAddrA 2 1 (.t 6) (.k (.int .i64 1)), none⟩, 0, 0),
    (⟨(some 23), .load none (.t 22), none⟩, 0, 1),
    (⟨(some 24), .indexAddr 1 (.t 21) (.t 23), none⟩, 0, 0),
    (⟨(some 25), .load none (.t 24), none⟩, 0, 1),
    (⟨(some 26), .build [(.int .i64 0), (.int .i64 0)] [(0, 1, (.t 20)), (1, 1, (.t 25))], none⟩, 0, 0),
    (⟨(some 27), .buildSlice 2 [(.int .i64 0), (.int .i64 0)] 1 [(0, (.t 26))] false, none⟩, 0, 0),
    (⟨(some 28), .append 2 16 (.t 15) (.t 27) 0, none⟩, 0, 0),
    (⟨none, .store 1 (.t 5) (.t 28), none⟩, 0, 0)]
def b29_2 : C :=
  .block 1 (.seq (.reg [⟨(some 10), .indexAddrA 2 1 (.t 6) (.k (.int .i64 1)), none⟩,
      ⟨(some 11), .load none (.t 10), none⟩,
      ⟨(some 12), .load none (.t 3), none⟩,
      ⟨(some 13), .len 1 (.t 12), none⟩,
      ⟨(some 14), .bin .lss (.t 11) (.t 13), none⟩] [3, 5, 6, 14])
   (.cond (.t 14) (.regD d29_1 [])
   (.skip)))
def b29_3 : C :=
  .seq (.reg [⟨(some 29), .load none (.t 5), none⟩,
     ⟨(some 30), .call (.f 32) [(.t 29)] false, none⟩,
     ⟨(some 4), .mov (.t 30), none⟩] [4])
  (.ret)
def c29 (b29_0 b29_2 b29_3 : C) : C :=
  .seq (.reg [⟨(some 3), .box (.t 1), none⟩,
     ⟨(some 4), .mov (.k (.list .full 2 [])), none⟩] [0, 3, 4])
  (.seq (.reg [⟨(some 5), .new [(.list .full 0 [])], none⟩] [0, 3, 4, 5])
  (.seqT (.seq (.reg [⟨(some 7), .mov (.t 0), none⟩,
      ⟨(some 8), .call (.f 61) [(.t 7)] false, none⟩] [3, 4, 5, 8])
   (.block 0 (.rangeFunc (.t 8) [9] b29_0 b29_2 [3, 4, 5]))) [5] b29_3))
def b29 : C := c29 b29_0 b29_2 b29_3
def f29 : IFn := { body := b29, params := 2, res := [(4, none)], pop := false, keep := false }
theorem ok29 : okFn Try.prog 29 f29 = true := by kernel_rfl

-- resolvent/resolventref17.Form
def d30_0 : List (IOper × Nat × Nat) :=
  [(⟨(some 10), .mov (.t 0), none⟩, 0, 0),
    (⟨(some 11), .mov (.t 3), none⟩, 0, 0),
    (⟨(some 12), .indexAddr 2 (.t 10) (.t 11), none⟩, 0, 0),
    (⟨(some 13), .indexAddrA 2 1 (.t 12) (.k (.int .i64 0)), none⟩, 0, 0),
    (⟨(some 14), .load none (.t 13), none⟩, 0, 1),
    (⟨(some 15), .bin .lss (.t 14) (.k (.int .i64 0)), none⟩, 0, 0),
    (⟨(some 16), .mov (.t 15), none⟩, 0, 0),
    (⟨(some 17), .mov (.t 0), some (16, false)⟩, 0, 0),
    (⟨(some 18), .mov (.t 3), some (16, false)⟩, 0, 0),
    (⟨(some 19), .indexAddr 2 (.t 17) (.t 18), some (16, false)⟩, 0, 0),
    (⟨(some 20), .indexAddrA 2 1 (.t 19) (.k (.int .i64 0)), some (16, false)⟩, 0, 0),
    (⟨(some 21), .load none (.t 20), some (16, false)⟩, 0, 1),
    (⟨(some 22), .mov (.t 0), some (16, false)⟩, 0, 0),
    (⟨(some 23), .mov (.t 3), some (16, false)⟩, 0, 0),
    (⟨(some 24), .indexAddr 2 (.t 22) (.t 23), some (16, false)⟩, 0, 0),
    (⟨(some 25), .indexAddrA 2 1 (.t 24) (.k (.int .i64 1)), some (16, false)⟩, 0, 0),
    (⟨(some 26), .load none (.t 25), some (16, false)⟩, 0, 1),
    (⟨(some 27), .bin .geq (.t 21) (.t 26), some (16, false)⟩, 0, 0),
    (⟨(some 28), .pick (.t 16) (.k (.bool true)) (.t 27), none⟩, 0, 0)]
def d30_1 : List (IOper × Nat × Nat) :=
  [(⟨(some 29), .mov (.t 3), none⟩, 0, 0),
    (⟨(some 30), .bin .gtr (.t 29) (.k (.int .i64 0)), none⟩, 0, 0),
    (⟨(some 31), .mov (.t 30), none⟩, 0, 0),
    (⟨(some 32), .mov (.t 0), some (31, true)⟩, 0, 0),
    (⟨(some 33), .mov (.t 3), some (31, true)⟩, 0, 0),
    (⟨(some 34), .bin .sub (.t 33) (.k (.int .i64 1)), some (31, true)⟩, 0, 0),
    (⟨(some 35), .indexAddr 2 (.t 32) (.t 34), some (31, true)⟩, 0, 0),
    (⟨(some 36), .indexAddrA 2 1 (.t 35) (.k (.int .i64 0)), some (31, true)⟩, 0, 0),
    (⟨(some 37), .load none (.t 36), some (31, true)⟩, 0, 1),
    (⟨(some 38), .mov (.t 0), some (31, true)⟩, 0, 0),
    (⟨(some 39), .mov (.t 3), some (31, true)⟩, 0, 0),
    (⟨(some 40), .indexAddr 2 (.t 38) (.t 39), some (31, true)⟩, 0, 0),
    (⟨(some 41), .indexAddrA 2 1 (.t 40) (.k (.int .i64 0)), some (31, true)⟩, 0, 0),
    (⟨(some 42), .load none (.t 41), some (31, true)⟩, 0, 1),
    (⟨(some 43), .bin .gtr (.t 37) (.t 42), some (31, true)⟩, 0, 0),
    (⟨(some 44), .mov (.t 43), some (31, true)⟩, 0, 0),
    (⟨(some 45), .mov (.t 0), some (44, false)⟩, 0, 0),
    (⟨(some 46), .mov (.t 3), some (44, false)⟩, 0, 0),
    (⟨(some 47), .bin .sub (.t 46) (.k (.int .i64 1)), some (44, false)⟩, 0, 0),
    (⟨(some 48), .indexAddr 2 (.t 45) (.t 47), some (44, false)⟩, 0, 0),
    (⟨(some 49), .indexAddrA 2 1 (.t 48) (.k (.int .i64 0)), some (44, false)⟩, 0, 0),
    (⟨(some 50), .load none (.t 49), some (44, false)⟩, 0, 1),
    (⟨(some 51), .mov (.t 0), some (44, false)⟩, 0, 0),
    (⟨(some 52), .mov (.t 3), some (44, false)⟩, 0, 0),
    (⟨(some 53), .indexAddr 2 (.t 51) (.t 52), some (44, false)⟩, 0, 0),
    (⟨(some 54), .indexAddrA 2 1 (.t 53) (.k (.int .i64 0)), some (44, false)⟩, 0, 0),
    (⟨(some 55), .load none (.t 54), some (44, false)⟩, 0, 1),
    (⟨(some 56), .bin .eql (.t 50) (.t 55), some (44, false)⟩, 0, 0),
    (⟨(some 57), .mov (.t 56), some (44, false)⟩, 0, 0),
    (⟨(some 58), .mov (.t 0), some (57, true)⟩, 0, 0),
    (⟨(some 59), .mov (.t 3), some (57, true)⟩, 0, 0),
    (⟨(some 60), .bin .sub (.t 59) (.k (.int .i64 1)), some (57, true)⟩, 0, 0),
    (⟨(some 61), .indexAddr 2 (.t 58) (.t 60), some (57, true)⟩, 0, 0),
    (⟨(some 62), .indexAddrA 2 1 (.t 61) (.k (.int .i64 1)), some (57, true)⟩, 0, 0),
    (⟨(some 63), .load none (.t 62), some (57, true)⟩, 0, 1),
    (⟨(some 64), .mov (.t 0), some (57, true)⟩, 0, 0),
    (⟨(some 65), .mov (.t 3), some (57, true)⟩, 0, 0),
    (⟨(some 66), .indexAddr 2 (.t 64) (.t 65), some (57, true)⟩, 0, 0),
    (⟨(some 67), .indexAddrA 2 1 (.t 66) (.k (.int .i64 1)), some (57, true)⟩, 0, 0),
    (⟨(some 68), .load none (.t 67), some (57, true)⟩, 0, 1),
    (⟨(some 69), .bin .geq (.t 63) (.t 68), some (57, true)⟩, 0, 0),
    (⟨(some 70), .pick (.t 57) (.t 69) (.k (.bool false)), some (44, false)⟩, 0, 0),
    (⟨(some 71), .pick (.t 44) (.k (.bool true)) (.t 70), some (31, true)⟩, 0, 0),
    (⟨(some 72), .pick (.t 31) (.t 71) (.k (.bool false)), none⟩, 0, 0)]
def b30_2 : C :=
  .seq (.regD d30_1 [0, 3, 72])
  (.cond (.t 72) (.seq (.reg [⟨(some 2), .mov (.k (.bool false)), none⟩] [2])
   (.ret))
  (.skip))
def b30_3 : C :=
  .reg [⟨(some 8), .mov (.t 3), none⟩,
    ⟨(some 9), .bin .add (.t 8) (.k (.int .i64 1)), none⟩,
    ⟨(some 3), .mov (.t 9), none⟩] [0, 3]
def c30_4 (b30_2 b30_3 : C) : C :=
  .seqT (.block 1 (.seqT (.seq (.regD d30_0 [0, 3, 28])
     (.cond (.t 28) (.seq (.reg [⟨(some 2), .mov (.k (.bool false)), none⟩] [2])
      (.ret))
     (.skip))) [0, 3] b30_2)) [0, 3] b30_3
def b30_4 : C := c30_4 b30_2 b30_3
def c30_5 (b30_4 : C) : C :=
  .seqT (.seq (.reg [⟨(some 4), .mov (.t 3), none⟩,
      ⟨(some 5), .mov (.t 0), none⟩,
      ⟨(some 6), .len 1 (.t 5), none⟩,
      ⟨(some 7), .bin .lss (.t 4) (.t 6), none⟩] [0, 3, 7])
   (.cond (.t 7) (.skip)
   (.exit 0))) [0, 3] b30_4
def b30_5 : C := c30_5 b30_4
def b30_6 : C :=
  .seq (.reg [⟨(some 2), .mov (.k (.bool true)), none⟩] [2])
  (.ret)
def c30 (b30_5 b30_6 : C) : C :=
  .seq (.reg [⟨(some 2), .mov (.k (.bool false)), none⟩] [0])
  (.seqT (.seq (.reg [⟨(some 3), .mov (.k (.int .i64 0)), none⟩] [0, 3])
   (.block 0 (.loop [0, 3] false b30_5))) [] b30_6)
def b30 : C := c30 b30_5 b30_6
def f30 : IFn := { body := b30, params := 1, res := [(2, none)], pop := false, keep := false }
theorem ok30 : okFn Try.prog 30 f30 = true := by kernel_rfl

-- resolvent/resolventref17.Has
def b31_0 : C :=
  .reg [⟨(some 23), .mov (.t 7), none⟩,
    ⟨(some 24), .bin .add (.t 23) (.k (.int .i64 1)), none⟩,
    ⟨(some 7), .mov (.t 24), none⟩] [0, 1, 2, 7]
def c31_1 (b31_0 : C) : C :=
  .seqT (.block 1 (.seq (.reg [⟨(some 25), .mov (.t 0), none⟩,
       ⟨(some 26), .mov (.t 7), none⟩,
       ⟨(some 27), .indexAddr 2 (.t 25) (.t 26), none⟩,
       ⟨(some 28), .indexAddrA 2 1 (.t 27) (.k (.int .i64 0)), none⟩,
       ⟨(some 29), .load none (.t 28), none⟩,
       ⟨(some 30), .mov (.t 1), none⟩,
       ⟨(some 31), .bin .eql (.t 29) (.t 30), none⟩,
       ⟨(some 32), .mov (.t 31), none⟩,
       ⟨(some 33), .mov (.t 0), some (32, true)⟩,
       ⟨(some 34), .mov (.t 7), some (32, true)⟩,
       ⟨(some 35), .indexAddr 2 (.t 33) (.t 34), some (32, true)⟩,
       ⟨(some 36), .indexAddrA 2 1 (.t 35) (.k (.int .i64 1)), some (32, true)⟩,
       ⟨(some 37), .load none (.t 36), some (32, true)⟩,
       ⟨(some 38), .mov (.t 2), some (32, true)⟩,
       ⟨(some 39), .bin .eql (.t 37) (.t 38), some (32, true)⟩,
       ⟨(some 40), .pick (.t 32) (.t 39) (.k (.bool false)), none⟩,
       ⟨(some 41), .mov (.t 40), none⟩,
       ⟨(some 42), .mov (.t 0), some (41, false)⟩,
       ⟨(some 43), .mov (.t 7), some (41, false)⟩,
       ⟨(some 44), .indexAddr 2 (.t 42) (.t 43), some (41, false)⟩,
       ⟨(some 45), .indexAddrA 2 1 (.t 44) (.k (.int .i64 0)), some (41, false)⟩,
       ⟨(some 46), .load none (.t 45), some (41, false)⟩,
       ⟨(some 47), .mov (.t 2), some (41, false)⟩,
       ⟨(some 48), .bin .eql (.t 46) (.t 47), some (41, false)⟩,
       ⟨(some 49), .mov (.t 48), some (41, false)⟩,
       ⟨(some 50), .mov (.t 0), some (49, true)⟩,
       ⟨(some 51), .mov (.t 7), some (49, true)⟩,
       ⟨(some 52), .indexAddr 2 (.t 50) (.t 51), some (49, true)⟩,
       ⟨(some 53), .indexAddrA 2 1 (.t 52) (.k (.int .i64 1)), some (49, true)⟩,
       ⟨(some 54), .load none (.t 53), some (49, true)⟩,
       ⟨(some 55), .mov (.t 1), some (49, true)⟩,
       ⟨(some 56), .bin .eql (.t 54) (.t 55), some (49, true)⟩,
       ⟨(some 57), .pick (.t 49) (.t 56) (.k (.bool false)), some (41, false)⟩,
       ⟨(some 58), .pick (.t 41) (.k (.bool true)) (.t 57), none⟩] [0, 1, 2, 7, 58])
    (.cond (.t 58) (.seq (.reg [⟨(some 6), .mov (.k (.bool true)), none⟩] [6])
     (.ret))
    (.skip)))) [0, 1, 2, 7] b31_0
def b31_1 : C := c31_1 b31_0
def c31_2 (b31_1 : C) : C :=
  .seqT (.seq (.reg [⟨(some 19), .mov (.t 7), none⟩,
      ⟨(some 20), .mov (.t 0), none⟩,
      ⟨(some 21), .len 1 (.t 20), none⟩,
      ⟨(some 22), .bin .lss (.t 19) (.t 21), none⟩] [0, 1, 2, 7, 22])
   (.cond (.t 22) (.skip)
   (.exit 0))) [0, 1, 2, 7] b31_1
def b31_2 : C := c31_2 b31_1
def b31_3 : C :=
  .seq (.reg [⟨(some 6), .mov (.k (.bool false)), none⟩] [6])
  (.ret)
def c31_4 (b31_2 b31_3 : C) : C :=
  .seqT (.seq (.reg [⟨(some 7), .mov (.k (.int .i64 0)), none⟩] [0, 1, 2, 7])
   (.block 0 (.loop [0, 1, 2, 7] false b31_2))) [] b31_3
def b31_4 : C := c31_4 b31_2 b31_3
def c31 (b31_4 : C) : C :=
  .seq (.reg [⟨(some 6), .mov (.k (.bool false)), none⟩] [0, 1, 2])
  (.seqT (.seq (.reg [⟨(some 8), .mov (.t 1), none⟩,
      ⟨(some 9), .bin .lss (.t 8) (.k (.int .i64 0)), none⟩,
      ⟨(some 10), .mov (.t 9), none⟩,
      ⟨(some 11), .mov (.t 2), some (10, false)⟩,
      ⟨(some 12), .bin .lss (.t 11) (.k (.int .i64 0)), some (10, false)⟩,
      ⟨(some 13), .pick (.t 10) (.k (.bool true)) (.t 12), none⟩,
      ⟨(some 14), .mov (.t 13), none⟩,
      ⟨(some 15), .mov (.t 1), some (14, false)⟩,
      ⟨(some 16), .mov (.t 2), some (14, false)⟩,
      ⟨(some 17), .bin .eql (.t 15) (.t 16), some (14, false)⟩,
      ⟨(some 18), .pick (.t 14) (.k (.bool true)) (.t 17), none⟩] [0, 1, 2, 18])
   (.cond (.t 18) (.seq (.reg [⟨(some 6), .mov (.k (.bool false)), none⟩] [6])
    (.ret))
   (.skip))) [0, 1, 2] b31_4)
def b31 : C := c31 b31_4
def f31 : IFn := { body := b31, params := 3, res := [(6, none)], pop := false, keep := false }
theorem ok31 : okFn Try.prog 31 f31 = true := by kernel_rfl

-- resolvent/pairs.Of
def b32 : C :=
  .seq (.reg [⟨(some 2), .mov (.k (.list .full 2 [])), none⟩] [0])
  (.seq (.reg [⟨(some 4), .mov (.t 0), none⟩,
     ⟨(some 5), .call (.f 61) [(.t 4)] false, none⟩,
     ⟨(some 6), .call (.f 62) [(.t 5)] false, none⟩,
     ⟨(some 3), .mov (.t 6), none⟩] [3])
  (.seq (.reg [⟨(some 7), .mov (.t 3), none⟩,
     ⟨(some 8), .call (.f 63) [(.t 7), (.f 64)] false, none⟩] [3])
  (.seq (.reg [⟨(some 9), .mov (.t 3), none⟩,
     ⟨(some 10), .call (.f 67) [(.t 9)] false, none⟩,
     ⟨(some 2), .mov (.t 10), none⟩] [2])
  (.ret))))
def f32 : IFn := { body := b32, params := 1, res := [(2, none)], pop := false, keep := false }
theorem ok32 : okFn Try.prog 32 f32 = true := by kernel_rfl

-- resolvent/pairs.Without
def b35 : C :=
  .seq (.reg [⟨(some 3), .box (.t 1), none⟩,
     ⟨(some 4), .mov (.k (.list .full 2 [])), none⟩] [0, 3])
  (.seq (.reg [⟨(some 5), .mov (.t 0), none⟩,
     ⟨(some 6), .call (.f 32) [(.t 5)] false, none⟩,
     ⟨(some 7), .makeFunc 71 [] [(.t 3)], none⟩,
     ⟨(some 8), .call (.f 70) [(.t 6), (.t 7)] false, none⟩,
     ⟨(some 4), .mov (.t 8), none⟩] [4])
  (.ret))
def f35 : IFn := { body := b35, params := 2, res := [(4, none)], pop := false, keep := false }
theorem ok35 : okFn Try.prog 35 f35 = true := by kernel_rfl

-- resolvent/pairs.Related
def b36_0 : C :=
  .reg [⟨(some 7), .new [(.int .i64 0), (.int .i64 0)], none⟩,
    ⟨none, .store 2 (.t 7) (.t 14), none⟩] [5, 6, 7]
def b36_1 : C :=
  .block 1 (.seq (.reg [⟨(some 15), .load none (.t 6), none⟩,
      ⟨(some 16), .indexAddrA 2 1 (.t 7) (.k (.int .i64 0)), none⟩,
      ⟨(some 17), .load none (.t 16), none⟩,
      ⟨(some 18), .call (.f 49) [(.t 15), (.t 17)] false, none⟩,
      ⟨(some 19), .mov (.t 18), none⟩,
      ⟨(some 20), .load none (.t 6), some (19, false)⟩,
      ⟨(some 21), .indexAddrA 2 1 (.t 7) (.k (.int .i64 1)), some (19, false)⟩,
      ⟨(some 22), .load none (.t 21), some (19, false)⟩,
      ⟨(some 23), .call (.f 49) [(.t 20), (.t 22)] false, some (19, false)⟩,
      ⟨(some 24), .pick (.t 19) (.k (.bool true)) (.t 23), none⟩] [5, 7, 24])
   (.cond (.t 24) (.reg [⟨(some 25), .load none (.t 5), none⟩,
      ⟨(some 26), .indexAddrA 2 1 (.t 7) (.k (.int .i64 0)), none⟩,
      ⟨(some 27), .load none (.t 26), none⟩,
      ⟨(some 28), .indexAddrA 2 1 (.t 7) (.k (.int .i64 1)), none⟩,
      ⟨(some 29), .load none (.t 28), none⟩,
      ⟨(some 30), .buildSlice 1 [(.int .i64 0)] 2 [(0, (.t 27)), (1, (.t 29))] false, none⟩,
      ⟨(some 31), .append 1 8 (.t 25) (.t 30) 0, none⟩,
      ⟨none, .store 1 (.t 5) (.t 31), none⟩] [])
   (.skip)))
def b36_2 : C :=
  .seq (.reg [⟨(some 32), .load none (.t 5), none⟩,
     ⟨(some 33), .call (.f 37) [(.t 32)] false, none⟩,
     ⟨(some 4), .mov (.t 33), none⟩] [4])
  (.ret)
def c36 (b36_0 b36_1 b36_2 : C) : C :=
  .seq (.reg [⟨(some 4), .mov (.k (.list .full 1 [])), none⟩] [0, 1, 4])
  (.seq (.reg [⟨(some 8), .mov (.t 1), none⟩,
     ⟨(some 9), .call (.f 37) [(.t 8)] false, none⟩,
     ⟨(some 5), .new [(.list .full 0 [])], none⟩,
     ⟨none, .store 1 (.t 5) (.t 9), none⟩] [0, 4, 5])
  (.seq (.reg [⟨(some 10), .load none (.t 5), none⟩,
     ⟨(some 11), .call (.f 72) [(.t 10)] false, none⟩,
     ⟨(some 6), .new [(.list .full 0 [])], none⟩,
     ⟨none, .store 1 (.t 6) (.t 11), none⟩] [0, 4, 5, 6])
  (.seqT (.seq (.reg [⟨(some 12), .mov (.t 0), none⟩,
      ⟨(some 13), .call (.f 61) [(.t 12)] false, none⟩] [4, 5, 6, 13])
   (.block 0 (.rangeFunc (.t 13) [14] b36_0 b36_1 [4, 5, 6]))) [5] b36_2)))
def b36 : C := c36 b36_0 b36_1 b36_2
def f36 : IFn := { body := b36, params := 2, res := [(4, none)], pop := false, keep := false }
theorem ok36 : okFn Try.prog 36 f36 = true := by kernel_rfl

-- resolvent/pairs.Places
def b37 : C :=
  .seq (.reg [⟨(some 2), .mov (.k (.list .full 1 [])), none⟩] [0])
  (.seq (.reg [⟨(some 4), .mov (.t 0), none⟩,
     ⟨(some 5), .call (.f 72) [(.t 4)] false, none⟩,
     ⟨(some 6), .call (.f 73) [(.t 5), (.f 74)] false, none⟩,
     ⟨(some 3), .mov (.t 6), none⟩] [3])
  (.seq (.reg [⟨(some 7), .mov (.t 3), none⟩,
     ⟨(some 8), .call (.f 56) [(.t 7)] false, none⟩] [3])
  (.seq (.reg [⟨(some 9), .mov (.t 3), none⟩,
     ⟨(some 10), .call (.f 57) [(.t 9)] false, none⟩,
     ⟨(some 2), .mov (.t 10), none⟩] [2])
  (.ret))))
def f37 : IFn := { body := b37, params := 1, res := [(2, none)], pop := false, keep := false }
theorem ok37 : okFn Try.prog 37 f37 = true := by kernel_rfl

-- resolvent/pairs.Has
def b42_0 : C :=
  .reg [⟨(some 8), .new [(.int .i64 0), (.int .i64 0)], none⟩,
    ⟨none, .store 2 (.t 8) (.t 18), none⟩] [6, 7, 8]
def b42_1 : C :=
  .block 1 (.seq (.reg [⟨(some 19), .load (some 2) (.t 8), none⟩,
      ⟨(some 20), .load (some 2) (.t 7), none⟩,
      ⟨(some 21), .eqv ⟨[.i, .i], true⟩ false (.t 19) (.t 20), none⟩] [6, 21])
   (.cond (.t 21) (.seq (.reg [⟨none, .store 1 (.t 6) (.k (.bool true)), none⟩] [])
    (.ret))
   (.skip)))
def b42_2 : C :=
  .seq (.reg [⟨none, .store 1 (.t 6) (.k (.bool false)), none⟩] [6])
  (.ret)
def c42 (b42_0 b42_1 b42_2 : C) : C :=
  .seq (.reg [⟨(some 6), .new [(.bool false)], none⟩] [0, 1, 2, 6])
  (.seq (.reg [⟨(some 9), .mov (.t 1), none⟩,
     ⟨(some 10), .mov (.t 2), none⟩,
     ⟨(some 11), .min2 (.t 9) (.t 10), none⟩,
     ⟨(some 12), .mov (.t 1), none⟩,
     ⟨(some 13), .mov (.t 2), none⟩,
     ⟨(some 14), .max2 (.t 12) (.t 13), none⟩,
     ⟨(some 15), .build [(.int .i64 0), (.int .i64 0)] [(0, 1, (.t 11)), (1, 1, (.t 14))], none⟩,
     ⟨(some 7), .new [(.int .i64 0), (.int .i64 0)], none⟩,
     ⟨none, .store 2 (.t 7) (.t 15), none⟩] [0, 6, 7])
  (.seqT (.seq (.reg [⟨(some 16), .mov (.t 0), none⟩,
      ⟨(some 17), .call (.f 61) [(.t 16)] false, none⟩] [6, 7, 17])
   (.block 0 (.rangeFunc (.t 17) [18] b42_0 b42_1 [6, 7]))) [6] b42_2))
def b42 : C := c42 b42_0 b42_1 b42_2
def f42 : IFn := { body := b42, params := 3, res := [(6, some none)], pop := false, keep := false }
theorem ok42 : okFn Try.prog 42 f42 = true := by kernel_rfl

-- slices.Contains[[]int,int]
def b49 : C :=
  .seq (.reg [⟨(some 4), .mov (.k (.bool false)), none⟩] [0, 1])
  (.seq (.reg [⟨(some 5), .mov (.t 0), none⟩,
     ⟨(some 6), .mov (.t 1), none⟩,
     ⟨(some 7), .call (.f 79) [(.t 5), (.t 6)] false, none⟩,
     ⟨(some 8), .bin .geq (.t 7) (.k (.int .i64 0)), none⟩,
     ⟨(some 4), .mov (.t 8), none⟩] [4])
  (.ret))
def f49 : IFn := { body := b49, params := 2, res := [(4, none)], pop := false, keep := false }
theorem ok49 : okFn Try.prog 49 f49 = true := by kernel_rfl

-- slices.Sort[[]int,int]
def b56 : C :=
  .seq (.reg [⟨(some 3), .mov (.t 0), none⟩,
     ⟨(some 4), .len 1 (.t 3), none⟩,
     ⟨(some 2), .mov (.t 4), none⟩] [0, 2])
  (.reg [⟨(some 5), .mov (.t 0), none⟩,
    ⟨(some 6), .mov (.t 2), none⟩,
    ⟨(some 7), .mov (.t 2), none⟩,
    ⟨(some 8), .conv .u64 (.t 7), none⟩,
    ⟨(some 9), .call (.f 84) [(.t 8)] false, none⟩,
    ⟨(some 10), .call (.f 83) [(.t 5), (.k (.int .i64 0)), (.t 6), (.t 9)] false, none⟩] [])
def f56 : IFn := { body := b56, params := 1, res := [], pop := false, keep := false }
theorem ok56o : okFn Try.prog 56 { f56 with orc := sortO } = true := by kernel_rfl
-- slices.Compact[[]int,int]
def d57_0 : List (IOper × Nat × Nat) :=
  [(⟨(some 16), .mov (.t 0), none⟩, 0, 0),
    (⟨(some 17), .mov (.t 3), none⟩, 0, 0),
    (⟨(some 18), .indexAddr 1 (.t 16) (.t 17), none⟩, 0, 0),
    (⟨(some 19), .load none (.t 18), none⟩, 0, 1),
    (⟨(some 20), .mov (.t 0), none⟩, 0, 0),
    (⟨(some 21), .mov (.t 3), none⟩, 0, 0),
    (⟨(some 22), .bin .sub (.t 21) (.k (.int .i64 1)), none⟩, 0, 0),
    (⟨(some 23), .indexAddr 1 (.t 20) (.t 22), none⟩, 0, 0),
    (⟨(some 24), .load none (.t 23), none⟩, 0, 1),
    (⟨(some 25), .bin .eql (.t 19) (.t 24), none⟩, 0, 0)]
def d57_1 : List (IOper × Nat × Nat) :=
  [(⟨(some 35), .mov (.t 4), none⟩, 0, 0),
    (⟨(some 36), .mov (.t 5), none⟩, 0, 0),
    (⟨(some 37), .indexAddr 1 (.t 35) (.t 36), none⟩, 0, 0),
    (⟨(some 38), .load none (.t 37), none⟩, 0, 1),
    (⟨(some 39), .mov (.t 4), none⟩, 0, 0),
    (⟨(some 40), .mov (.t 5), none⟩, 0, 0),
    (⟨(some 41), .bin .sub (.t 40) (.k (.int .i64 1)), none⟩, 0, 0),
    (⟨(some 42), .indexAddr 1 (.t 39) (.t 41), none⟩, 0, 0),
    (⟨(some 43), .load none (.t 42), none⟩, 0, 1),
    (⟨(some 44), .bin .neq (.t 38) (.t 43), none⟩, 0, 0)]
def b57_2 : C :=
  .reg [⟨(some 33), .mov (.t 5), none⟩,
    ⟨(some 34), .bin .add (.t 33) (.k (.int .i64 1)), none⟩,
    ⟨(some 5), .mov (.t 34), none⟩] [0, 3, 4, 5]
def c57_3 (b57_2 : C) : C :=
  .seqT (.block 3 (.seq (.regD d57_1 [0, 3, 4, 5, 44])
    (.cond (.t 44) (.seq (.reg [⟨(some 45), .mov (.t 0), none⟩,
        ⟨(some 46), .mov (.t 3), none⟩,
        ⟨(some 47), .mov (.t 4), none⟩,
        ⟨(some 48), .mov (.t 5), none⟩,
        ⟨(some 49), .indexAddr 1 (.t 47) (.t 48), none⟩,
        ⟨(some 50), .load none (.t 49), none⟩,
        ⟨(some 51), .indexAddr 1 (.t 45) (.t 46), none⟩,
        ⟨none, .store 1 (.t 51) (.t 50), none⟩] [0, 3, 4, 5])
     (.reg [⟨(some 52), .mov (.t 3), none⟩,
       ⟨(some 53), .bin .add (.t 52) (.k (.int .i64 1)), none⟩,
       ⟨(some 3), .mov (.t 53), none⟩] [0, 3, 4, 5]))
    (.skip)))) [0, 3, 4, 5] b57_2
def b57_3 : C := c57_3 b57_2
def c57_4 (b57_3 : C) : C :=
  .seqT (.seq (.reg [⟨(some 29), .mov (.t 5), none⟩,
      ⟨(some 30), .mov (.t 4), none⟩,
      ⟨(some 31), .len 1 (.t 30), none⟩,
      ⟨(some 32), .bin .lss (.t 29) (.t 31), none⟩] [0, 3, 4, 5, 32])
   (.cond (.t 32) (.skip)
   (.exit 2))) [0, 3, 4, 5] b57_3
def b57_4 : C := c57_4 b57_3
def b57_5 : C :=
  .seq (.reg [⟨(some 54), .mov (.t 0), none⟩,
     ⟨(some 55), .mov (.t 3), none⟩,
     ⟨(some 56), .slice 1 (.t 54) (some (.t 55)) none, none⟩,
     ⟨none, .clear 1 [(.int .i64 0)] (.t 56), none⟩] [0, 3])
  (.seq (.reg [⟨(some 57), .mov (.t 0), none⟩,
     ⟨(some 58), .mov (.t 3), none⟩,
     ⟨(some 59), .slice 1 (.t 57) none (some (.t 58)), none⟩,
     ⟨(some 2), .mov (.t 59), none⟩] [2])
  (.ret))
def b57_6 : C :=
  .reg [⟨(some 14), .mov (.t 3), none⟩,
    ⟨(some 15), .bin .add (.t 14) (.k (.int .i64 1)), none⟩,
    ⟨(some 3), .mov (.t 15), none⟩] [0, 3]
def c57_7 (b57_4 b57_5 b57_6 : C) : C :=
  .seqT (.block 1 (.seq (.regD d57_0 [0, 3, 25])
    (.cond (.t 25) (.seq (.reg [⟨(some 26), .mov (.t 0), none⟩,
        ⟨(some 27), .mov (.t 3), none⟩,
        ⟨(some 28), .slice 1 (.t 26) (some (.t 27)) none, none⟩,
        ⟨(some 4), .mov (.t 28), none⟩] [0, 3, 4])
     (.seqT (.seq (.reg [⟨(some 5), .mov (.k (.int .i64 1)), none⟩] [0, 3, 4, 5])
      (.block 2 (.loop [0, 3, 4, 5] false b57_4))) [0, 3] b57_5))
    (.skip)))) [0, 3] b57_6
def b57_7 : C := c57_7 b57_4 b57_5 b57_6
def c57_8 (b57_7 : C) : C :=
  .seqT (.seq (.reg [⟨(some 10), .mov (.t 3), none⟩,
      ⟨(some 11), .mov (.t 0), none⟩,
      ⟨(some 12), .len 1 (.t 11), none⟩,
      ⟨(some 13), .bin .lss (.t 10) (.t 12), none⟩] [0, 3, 13])
   (.cond (.t 13) (.skip)
   (.exit 0))) [0, 3] b57_7
def b57_8 : C := c57_8 b57_7
def b57_9 : C :=
  .seq (.reg [⟨(some 60), .mov (.t 0), none⟩,
     ⟨(some 2), .mov (.t 60), none⟩] [2])
  (.ret)
def c57_10 (b57_8 b57_9 : C) : C :=
  .seqT (.seq (.reg [⟨(some 3), .mov (.k (.int .i64 1)), none⟩] [0, 3])
   (.block 0 (.loop [0, 3] false b57_8))) [0] b57_9
def b57_10 : C := c57_10 b57_8 b57_9
def c57 (b57_10 : C) : C :=
  .seq (.reg [⟨(some 2), .mov (.k (.list .full 1 [])), none⟩] [0])
  (.seqT (.seq (.reg [⟨(some 6), .mov (.t 0), none⟩,
      ⟨(some 7), .len 1 (.t 6), none⟩,
      ⟨(some 8), .bin .lss (.t 7) (.k (.int .i64 2)), none⟩] [0, 8])
   (.cond (.t 8) (.seq (.reg [⟨(some 9), .mov (.t 0), none⟩,
       ⟨(some 2), .mov (.t 9), none⟩] [2])
    (.ret))
   (.skip))) [0] b57_10)
def b57 : C := c57 b57_10
def f57 : IFn := { body := b57, params := 1, res := [(2, none)], pop := false, keep := false }
theorem ok57o : okFn Try.prog 57 { f57 with orc := compO } = true := by kernel_rfl
-- resolvent/pairs.good
def b61 : C :=
  .seq (.reg [⟨(some 1), .box (.t 0), none⟩,
     ⟨(some 2), .mov (.k .nilfunc), none⟩] [1])
  (.seq (.reg [⟨(some 3), .makeFunc 85 [] [(.t 1)], none⟩,
     ⟨(some 2), .mov (.t 3), none⟩] [2])
  (.ret))
def f61 : IFn := { body := b61, params := 1, res := [(2, none)], pop := false, keep := false }
theorem ok61 : okFn Try.prog 61 f61 = true := by kernel_rfl

-- slices.Collect[[2]int]
def b62 : C :=
  .seq (.reg [⟨(some 2), .mov (.k (.list .full 2 [])), none⟩] [0])
  (.seq (.reg [⟨(some 3), .mov (.t 0), none⟩,
     ⟨(some 4), .call (.f 86) [(.k (.list .full 0 [])), (.t 3)] true, none⟩,
     ⟨(some 2), .mov (.t 4), none⟩] [2])
  (.ret))
def f62 : IFn := { body := b62, params := 1, res := [(2, none)], pop := false, keep := false }
theorem ok62 : okFn Try.prog 62 f62 = true := by kernel_rfl

-- slices.SortFunc[[][2]int,[2]int]
def b63 : C :=
  .seq (.reg [⟨(some 5), .mov (.t 0), none⟩,
     ⟨(some 6), .len 1 (.t 5), none⟩,
     ⟨(some 4), .mov (.t 6), none⟩] [0, 1, 4])
  (.reg [⟨(some 7), .mov (.t 0), none⟩,
    ⟨(some 8), .mov (.t 4), none⟩,
    ⟨(some 9), .mov (.t 4), none⟩,
    ⟨(some 10), .conv .u64 (.t 9), none⟩,
    ⟨(some 11), .call (.f 84) [(.t 10)] false, none⟩,
    ⟨(some 12), .mov (.t 1), none⟩,
    ⟨(some 13), .call (.f 87) [(.t 7), (.k (.int .i64 0)), (.t 8), (.t 11), (.t 12)] false, none⟩] [])
def f63 : IFn := { body := b63, params := 2, res := [], pop := false, keep := false }
theorem ok63o : okFn Try.prog 63 { f63 with orc := sortFO } = true := by kernel_rfl
-- resolvent/pairs.Of$1
def d64_0 : List (IOper × Nat × Nat) :=
  [(⟨(some 5), .indexAddrA 2 1 (.t 2) (.k (.int .i64 0)), none⟩, 0, 0),
    (⟨(some 6), .load none (.t 5), none⟩, 0, 1),
    (⟨(some 7), .indexAddrA 2 1 (.t 3) (.k (.int .i64 0)), none⟩, 0, 0),
    (⟨(some 8), .load none (.t 7), none⟩, 0, 1),
    (⟨(some 9), .call (.f 66) [(.t 6), (.t 8)] false, none⟩, 0, 0),
    (⟨(some 10), .indexAddrA 2 1 (.t 2) (.k (.int .i64 1)), none⟩, 0, 0),
    (⟨(some 11), .load none (.t 10), none⟩, 0, 2),
    (⟨(some 12), .indexAddrA 2 1 (.t 3) (.k (.int .i64 1)), none⟩, 0, 0),
    (⟨(some 13), .load none (.t 12), none⟩, 0, 2),
    (⟨(some 14), .call (.f 66) [(.t 11), (.t 13)] false, none⟩, 0, 0),
    (⟨(some 15), .buildSlice 1 [(.int .i64 0)] 2 [(0, (.t 9)), (1, (.t 14))] false, none⟩, 0, 0),
    (⟨(some 16), .call (.f 65) [(.t 15)] false, none⟩, 0, 0),
    (⟨(some 4), .mov (.t 16), none⟩, 0, 0)]
def b64 : C :=
  .seq (.reg [⟨(some 2), .box (.t 0), none⟩,
     ⟨(some 3), .box (.t 1), none⟩,
     ⟨(some 4), .mov (.k (.int .i64 0)), none⟩] [2, 3])
  (.seq (.regD d64_0 [4])
  (.ret))
def f64 : IFn := { body := b64, params := 2, res := [(4, none)], pop := false, keep := false }
theorem ok64 : okFn Try.prog 64 f64 = true := by kernel_rfl

-- cmp.Or[int]
def b65_0 : C :=
  .reg [⟨(some 16), .bin .add (.t 8) (.k (.int .i64 1)), none⟩,
    ⟨(some 8), .mov (.t 16), none⟩] [3, 6, 7, 8]
def c65_1 (b65_0 : C) : C :=
  .seqT (.block 1 (.seq (.reg [⟨(some 10), .indexAddr 1 (.t 6) (.t 8), none⟩,
       ⟨(some 11), .load none (.t 10), none⟩,
       ⟨(some 5), .mov (.t 11), none⟩] [3, 5, 6, 7, 8])
    (.seq (.reg [⟨(some 12), .mov (.t 5), none⟩,
       ⟨(some 13), .mov (.t 3), none⟩,
       ⟨(some 14), .bin .neq (.t 12) (.t 13), none⟩] [3, 5, 6, 7, 8, 14])
    (.cond (.t 14) (.seq (.reg [⟨(some 15), .mov (.t 5), none⟩,
        ⟨(some 2), .mov (.t 15), none⟩] [2])
     (.ret))
    (.skip))))) [3, 6, 7, 8] b65_0
def b65_1 : C := c65_1 b65_0
def c65_2 (b65_1 : C) : C :=
  .seq (.reg [⟨(some 9), .bin .lss (.t 8) (.t 7), none⟩] [3, 6, 7, 8, 9])
  (.seqT (.cond (.t 9) (.skip)
   (.exit 0)) [3, 6, 7, 8] b65_1)
def b65_2 : C := c65_2 b65_1
def b65_3 : C :=
  .seq (.reg [⟨(some 17), .mov (.t 3), none⟩,
     ⟨(some 2), .mov (.t 17), none⟩] [2])
  (.ret)
def c65 (b65_2 b65_3 : C) : C :=
  .seq (.reg [⟨(some 2), .mov (.k (.int .i64 0)), none⟩] [0])
  (.seq (.reg [⟨(some 3), .mov (.k (.int .i64 0)), none⟩] [0, 3])
  (.seqT (.seq (.reg [⟨(some 6), .mov (.t 0), none⟩,
      ⟨(some 7), .len 1 (.t 6), none⟩,
      ⟨(some 8), .mov (.k (.int .i64 0)), none⟩] [3, 6, 7, 8])
   (.block 0 (.loop [3, 6, 7, 8] false b65_2))) [3] b65_3))
def b65 : C := c65 b65_2 b65_3
def f65 : IFn := { body := b65, params := 1, res := [(2, none)], pop := false, keep := false }
theorem ok65 : okFn Try.prog 65 f65 = true := by kernel_rfl

-- cmp.Compare[int]
def b66_0 : C :=
  .seq (.reg [⟨(some 4), .mov (.k (.int .i64 (-1))), none⟩] [4])
  (.ret)
def b66_1 : C :=
  .seq (.reg [⟨(some 4), .mov (.k (.int .i64 0)), none⟩] [4])
  (.ret)
def c66_2 (b66_1 : C) : C :=
  .seqT (.seq (.reg [⟨(some 17), .mov (.t 0), none⟩,
      ⟨(some 18), .mov (.t 1), none⟩,
      ⟨(some 19), .bin .gtr (.t 17) (.t 18), none⟩] [19])
   (.cond (.t 19) (.seq (.reg [⟨(some 4), .mov (.k (.int .i64 1)), none⟩] [4])
    (.ret))
   (.skip))) [] b66_1
def b66_2 : C := c66_2 b66_1
def c66_3 (b66_2 : C) : C :=
  .seqT (.seq (.reg [⟨(some 14), .mov (.t 0), none⟩,
      ⟨(some 15), .mov (.t 1), none⟩,
      ⟨(some 16), .bin .lss (.t 14) (.t 15), none⟩] [0, 1, 16])
   (.cond (.t 16) (.seq (.reg [⟨(some 4), .mov (.k (.int .i64 (-1))), none⟩] [4])
    (.ret))
   (.skip))) [0, 1] b66_2
def b66_3 : C := c66_3 b66_2
def c66_4 (b66_3 : C) : C :=
  .seqT (.seq (.reg [⟨(some 13), .mov (.t 6), none⟩] [0, 1, 13])
   (.cond (.t 13) (.seq (.reg [⟨(some 4), .mov (.k (.int .i64 1)), none⟩] [4])
    (.ret))
   (.skip))) [0, 1] b66_3
def b66_4 : C := c66_4 b66_3
def c66 (b66_0 b66_4 : C) : C :=
  .seq (.reg [⟨(some 4), .mov (.k (.int .i64 0)), none⟩] [0, 1])
  (.seq (.reg [⟨(some 7), .mov (.t 0), none⟩,
     ⟨(some 8), .call (.f 88) [(.t 7)] false, none⟩,
     ⟨(some 5), .mov (.t 8), none⟩] [0, 1, 5])
  (.seq (.reg [⟨(some 9), .mov (.t 1), none⟩,
     ⟨(some 10), .call (.f 88) [(.t 9)] false, none⟩,
     ⟨(some 6), .mov (.t 10), none⟩] [0, 1, 5, 6])
  (.seqT (.seq (.reg [⟨(some 11), .mov (.t 5), none⟩] [0, 1, 6, 11])
   (.cond (.t 11) (.seqT (.seq (.reg [⟨(some 12), .mov (.t 6), none⟩] [12])
     (.cond (.t 12) (.seq (.reg [⟨(some 4), .mov (.k (.int .i64 0)), none⟩] [4])
      (.ret))
     (.skip))) [] b66_0)
   (.skip))) [0, 1, 6] b66_4)))
def b66 : C := c66 b66_0 b66_4
def f66 : IFn := { body := b66, params := 2, res := [(4, none)], pop := false, keep := false }
theorem ok66 : okFn Try.prog 66 f66 = true := by kernel_rfl

-- slices.Compact[[][2]int,[2]int]
def d67_0 : List (IOper × Nat × Nat) :=
  [(⟨(some 16), .mov (.t 0), none⟩, 0, 0),
    (⟨(some 17), .mov (.t 3), none⟩, 0, 0),
    (⟨(some 18), .indexAddr 2 (.t 16) (.t 17), none⟩, 0, 0),
    (⟨(some 19), .load (some 2) (.t 18), none⟩, 0, 1),
    (⟨(some 20), .mov (.t 0), none⟩, 0, 0),
    (⟨(some 21), .mov (.t 3), none⟩, 0, 0),
    (⟨(some 22), .bin .sub (.t 21) (.k (.int .i64 1)), none⟩, 0, 0),
    (⟨(some 23), .indexAddr 2 (.t 20) (.t 22), none⟩, 0, 0),
    (⟨(some 24), .load (some 2) (.t 23), none⟩, 0, 1),
    (⟨(some 25), .eqv ⟨[.i, .i], true⟩ false (.t 19) (.t 24), none⟩, 0, 0)]
def d67_1 : List (IOper × Nat × Nat) :=
  [(⟨(some 35), .mov (.t 4), none⟩, 0, 0),
    (⟨(some 36), .mov (.t 5), none⟩, 0, 0),
    (⟨(some 37), .indexAddr 2 (.t 35) (.t 36), none⟩, 0, 0),
    (⟨(some 38), .load (some 2) (.t 37), none⟩, 0, 1),
    (⟨(some 39), .mov (.t 4), none⟩, 0, 0),
    (⟨(some 40), .mov (.t 5), none⟩, 0, 0),
    (⟨(some 41), .bin .sub (.t 40) (.k (.int .i64 1)), none⟩, 0, 0),
    (⟨(some 42), .indexAddr 2 (.t 39) (.t 41), none⟩, 0, 0),
    (⟨(some 43), .load (some 2) (.t 42), none⟩, 0, 1),
    (⟨(some 44), .eqv ⟨[.i, .i], true⟩ true (.t 38) (.t 43), none⟩, 0, 0)]
def b67_2 : C :=
  .reg [⟨(some 33), .mov (.t 5), none⟩,
    ⟨(some 34), .bin .add (.t 33) (.k (.int .i64 1)), none⟩,
    ⟨(some 5), .mov (.t 34), none⟩] [0, 3, 4, 5]
def c67_3 (b67_2 : C) : C :=
  .seqT (.block 3 (.seq (.regD d67_1 [0, 3, 4, 5, 44])
    (.cond (.t 44) (.seq (.reg [⟨(some 45), .mov (.t 0), none⟩,
        ⟨(some 46), .mov (.t 3), none⟩,
        ⟨(some 47), .mov (.t 4), none⟩,
        ⟨(some 48), .mov (.t 5), none⟩,
        ⟨(some 49), .indexAddr 2 (.t 47) (.t 48), none⟩,
        ⟨(some 50), .load (some 2) (.t 49), none⟩,
        ⟨(some 51), .indexAddr 2 (.t 45) (.t 46), none⟩,
        ⟨none, .store 2 (.t 51) (.t 50), none⟩] [0, 3, 4, 5])
     (.reg [⟨(some 52), .mov (.t 3), none⟩,
       ⟨(some 53), .bin .add (.t 52) (.k (.int .i64 1)), none⟩,
       ⟨(some 3), .mov (.t 53), none⟩] [0, 3, 4, 5]))
    (.skip)))) [0, 3, 4, 5] b67_2
def b67_3 : C := c67_3 b67_2
def c67_4 (b67_3 : C) : C :=
  .seqT (.seq (.reg [⟨(some 29), .mov (.t 5), none⟩,
      ⟨(some 30), .mov (.t 4), none⟩,
      ⟨(some 31), .len 1 (.t 30), none⟩,
      ⟨(some 32), .bin .lss (.t 29) (.t 31), none⟩] [0, 3, 4, 5, 32])
   (.cond (.t 32) (.skip)
   (.exit 2))) [0, 3, 4, 5] b67_3
def b67_4 : C := c67_4 b67_3
def b67_5 : C :=
  .seq (.reg [⟨(some 54), .mov (.t 0), none⟩,
     ⟨(some 55), .mov (.t 3), none⟩,
     ⟨(some 56), .slice 2 (.t 54) (some (.t 55)) none, none⟩,
     ⟨none, .clear 2 [(.int .i64 0), (.int .i64 0)] (.t 56), none⟩] [0, 3])
  (.seq (.reg [⟨(some 57), .mov (.t 0), none⟩,
     ⟨(some 58), .mov (.t 3), none⟩,
     ⟨(some 59), .slice 2 (.t 57) none (some (.t 58)), none⟩,
     ⟨(some 2), .mov (.t 59), none⟩] [2])
  (.ret))
def b67_6 : C :=
  .reg [⟨(some 14), .mov (.t 3), none⟩,
    ⟨(some 15), .bin .add (.t 14) (.k (.int .i64 1)), none⟩,
    ⟨(some 3), .mov (.t 15), none⟩] [0, 3]
def c67_7 (b67_4 b67_5 b67_6 : C) : C :=
  .seqT (.block 1 (.seq (.regD d67_0 [0, 3, 25])
    (.cond (.t 25) (.seq (.reg [⟨(some 26), .mov (.t 0), none⟩,
        ⟨(some 27), .mov (.t 3), none⟩,
        ⟨(some 28), .slice 2 (.t 26) (some (.t 27)) none, none⟩,
        ⟨(some 4), .mov (.t 28), none⟩] [0, 3, 4])
     (.seqT (.seq (.reg [⟨(some 5), .mov (.k (.int .i64 1)), none⟩] [0, 3, 4, 5])
      (.block 2 (.loop [0, 3, 4, 5] false b67_4))) [0, 3] b67_5))
    (.skip)))) [0, 3] b67_6
def b67_7 : C := c67_7 b67_4 b67_5 b67_6
def c67_8 (b67_7 : C) : C :=
  .seqT (.seq (.reg [⟨(some 10), .mov (.t 3), none⟩,
      ⟨(some 11), .mov (.t 0), none⟩,
      ⟨(some 12), .len 1 (.t 11), none⟩,
      ⟨(some 13), .bin .lss (.t 10) (.t 12), none⟩] [0, 3, 13])
   (.cond (.t 13) (.skip)
   (.exit 0))) [0, 3] b67_7
def b67_8 : C := c67_8 b67_7
def b67_9 : C :=
  .seq (.reg [⟨(some 60), .mov (.t 0), none⟩,
     ⟨(some 2), .mov (.t 60), none⟩] [2])
  (.ret)
def c67_10 (b67_8 b67_9 : C) : C :=
  .seqT (.seq (.reg [⟨(some 3), .mov (.k (.int .i64 1)), none⟩] [0, 3])
   (.block 0 (.loop [0, 3] false b67_8))) [0] b67_9
def b67_10 : C := c67_10 b67_8 b67_9
def c67 (b67_10 : C) : C :=
  .seq (.reg [⟨(some 2), .mov (.k (.list .full 2 [])), none⟩] [0])
  (.seqT (.seq (.reg [⟨(some 6), .mov (.t 0), none⟩,
      ⟨(some 7), .len 1 (.t 6), none⟩,
      ⟨(some 8), .bin .lss (.t 7) (.k (.int .i64 2)), none⟩] [0, 8])
   (.cond (.t 8) (.seq (.reg [⟨(some 9), .mov (.t 0), none⟩,
       ⟨(some 2), .mov (.t 9), none⟩] [2])
    (.ret))
   (.skip))) [0] b67_10)
def b67 : C := c67 b67_10
def f67 : IFn := { body := b67, params := 1, res := [(2, none)], pop := false, keep := false }
theorem ok67 : okFn Try.prog 67 f67 = true := by kernel_rfl

-- slices.DeleteFunc[[][2]int,[2]int]
def b70_0 : C :=
  .reg [⟨(some 20), .mov (.t 6), none⟩,
    ⟨(some 21), .bin .add (.t 20) (.k (.int .i64 1)), none⟩,
    ⟨(some 6), .mov (.t 21), none⟩] [0, 1, 5, 6]
def c70_1 (b70_0 : C) : C :=
  .seqT (.block 1 (.seq (.reg [⟨(some 22), .mov (.t 0), none⟩,
       ⟨(some 23), .mov (.t 6), none⟩,
       ⟨(some 24), .indexAddr 2 (.t 22) (.t 23), none⟩,
       ⟨(some 25), .load (some 2) (.t 24), none⟩,
       ⟨(some 7), .new [(.int .i64 0), (.int .i64 0)], none⟩,
       ⟨none, .store 2 (.t 7) (.t 25), none⟩] [0, 1, 5, 6, 7])
    (.seq (.reg [⟨(some 26), .mov (.t 1), none⟩,
       ⟨(some 27), .load (some 2) (.t 7), none⟩,
       ⟨(some 28), .call (.t 26) [(.t 27)] false, none⟩,
       ⟨(some 29), .un .not (.t 28), none⟩] [0, 1, 5, 6, 7, 29])
    (.cond (.t 29) (.seq (.reg [⟨(some 30), .mov (.t 0), none⟩,
        ⟨(some 31), .mov (.t 5), none⟩,
        ⟨(some 32), .load (some 2) (.t 7), none⟩,
        ⟨(some 33), .indexAddr 2 (.t 30) (.t 31), none⟩,
        ⟨none, .store 2 (.t 33) (.t 32), none⟩] [0, 1, 5, 6])
     (.reg [⟨(some 34), .mov (.t 5), none⟩,
       ⟨(some 35), .bin .add (.t 34) (.k (.int .i64 1)), none⟩,
       ⟨(some 5), .mov (.t 35), none⟩] [0, 1, 5, 6]))
    (.skip))))) [0, 1, 5, 6] b70_0
def b70_1 : C := c70_1 b70_0
def c70_2 (b70_1 : C) : C :=
  .seqT (.seq (.reg [⟨(some 16), .mov (.t 6), none⟩,
      ⟨(some 17), .mov (.t 0), none⟩,
      ⟨(some 18), .len 1 (.t 17), none⟩,
      ⟨(some 19), .bin .lss (.t 16) (.t 18), none⟩] [0, 1, 5, 6, 19])
   (.cond (.t 19) (.skip)
   (.exit 0))) [0, 1, 5, 6] b70_1
def b70_2 : C := c70_2 b70_1
def b70_3 : C :=
  .seq (.reg [⟨(some 36), .mov (.t 0), none⟩,
     ⟨(some 37), .mov (.t 5), none⟩,
     ⟨(some 38), .slice 2 (.t 36) (some (.t 37)) none, none⟩,
     ⟨none, .clear 2 [(.int .i64 0), (.int .i64 0)] (.t 38), none⟩] [0, 5])
  (.seq (.reg [⟨(some 39), .mov (.t 0), none⟩,
     ⟨(some 40), .mov (.t 5), none⟩,
     ⟨(some 41), .slice 2 (.t 39) none (some (.t 40)), none⟩,
     ⟨(some 4), .mov (.t 41), none⟩] [4])
  (.ret))
def c70_4 (b70_2 b70_3 : C) : C :=
  .seqT (.seq (.reg [⟨(some 14), .mov (.t 5), none⟩,
      ⟨(some 15), .bin .add (.t 14) (.k (.int .i64 1)), none⟩,
      ⟨(some 6), .mov (.t 15), none⟩] [0, 1, 5, 6])
   (.block 0 (.loop [0, 1, 5, 6] false b70_2))) [0, 5] b70_3
def b70_4 : C := c70_4 b70_2 b70_3
def c70 (b70_4 : C) : C :=
  .seq (.reg [⟨(some 4), .mov (.k (.list .full 2 [])), none⟩] [0, 1])
  (.seq (.reg [⟨(some 8), .mov (.t 0), none⟩,
     ⟨(some 9), .mov (.t 1), none⟩,
     ⟨(some 10), .call (.f 90) [(.t 8), (.t 9)] false, none⟩,
     ⟨(some 5), .mov (.t 10), none⟩] [0, 1, 5])
  (.seqT (.seq (.reg [⟨(some 11), .mov (.t 5), none⟩,
      ⟨(some 12), .bin .eql (.t 11) (.k (.int .i64 (-1))), none⟩] [0, 1, 5, 12])
   (.cond (.t 12) (.seq (.reg [⟨(some 13), .mov (.t 0), none⟩,
       ⟨(some 4), .mov (.t 13), none⟩] [4])
    (.ret))
   (.skip))) [0, 1, 5] b70_4))
def b70 : C := c70 b70_4
def f70 : IFn := { body := b70, params := 2, res := [(4, none)], pop := false, keep := false }
theorem ok70 : okFn Try.prog 70 f70 = true := by kernel_rfl

-- resolvent/pairs.Without$1
def b71 : C :=
  .seq (.reg [⟨(some 2), .box (.t 0), none⟩,
     ⟨(some 3), .mov (.k (.bool false)), none⟩] [1, 2])
  (.seq (.reg [⟨(some 4), .load none (.t 1), none⟩,
     ⟨(some 5), .indexAddrA 2 1 (.t 2) (.k (.int .i64 0)), none⟩,
     ⟨(some 6), .load none (.t 5), none⟩,
     ⟨(some 7), .call (.f 49) [(.t 4), (.t 6)] false, none⟩,
     ⟨(some 8), .mov (.t 7), none⟩,
     ⟨(some 9), .load none (.t 1), some (8, false)⟩,
     ⟨(some 10), .indexAddrA 2 1 (.t 2) (.k (.int .i64 1)), some (8, false)⟩,
     ⟨(some 11), .load none (.t 10), some (8, false)⟩,
     ⟨(some 12), .call (.f 49) [(.t 9), (.t 11)] false, some (8, false)⟩,
     ⟨(some 13), .pick (.t 8) (.k (.bool true)) (.t 12), none⟩,
     ⟨(some 3), .mov (.t 13), none⟩] [3])
  (.ret))
def f71 : IFn := { body := b71, params := 2, res := [(3, none)], pop := false, keep := false }
theorem ok71 : okFn Try.prog 71 f71 = true := by kernel_rfl

-- slices.Clone[[]int,int]
def b72_0 : C :=
  .seq (.reg [⟨(some 5), .buildSlice 1 [(.int .i64 0)] 0 [] false, none⟩,
     ⟨(some 6), .mov (.t 0), none⟩,
     ⟨(some 7), .append 1 8 (.t 5) (.t 6) 0, none⟩,
     ⟨(some 2), .mov (.t 7), none⟩] [2])
  (.ret)
def c72 (b72_0 : C) : C :=
  .seq (.reg [⟨(some 2), .mov (.k (.list .full 1 [])), none⟩] [0])
  (.seqT (.seq (.reg [⟨(some 3), .mov (.t 0), none⟩,
      ⟨(some 4), .never, none⟩] [0, 4])
   (.cond (.t 4) (.seq (.reg [⟨(some 2), .mov (.k (.list .full 1 [])), none⟩] [2])
    (.ret))
   (.skip))) [0] b72_0)
def b72 : C := c72 b72_0
def f72 : IFn := { body := b72, params := 1, res := [(2, none)], pop := false, keep := false }
theorem ok72o : okFn Try.prog 72 { f72 with orc := cloneI } = true := by kernel_rfl
-- slices.DeleteFunc[[]int,int]
def b73_0 : C :=
  .reg [⟨(some 20), .mov (.t 6), none⟩,
    ⟨(some 21), .bin .add (.t 20) (.k (.int .i64 1)), none⟩,
    ⟨(some 6), .mov (.t 21), none⟩] [0, 1, 5, 6]
def c73_1 (b73_0 : C) : C :=
  .seqT (.block 1 (.seq (.reg [⟨(some 22), .mov (.t 0), none⟩,
       ⟨(some 23), .mov (.t 6), none⟩,
       ⟨(some 24), .indexAddr 1 (.t 22) (.t 23), none⟩,
       ⟨(some 25), .load none (.t 24), none⟩,
       ⟨(some 7), .mov (.t 25), none⟩] [0, 1, 5, 6, 7])
    (.seq (.reg [⟨(some 26), .mov (.t 1), none⟩,
       ⟨(some 27), .mov (.t 7), none⟩,
       ⟨(some 28), .call (.t 26) [(.t 27)] false, none⟩,
       ⟨(some 29), .un .not (.t 28), none⟩] [0, 1, 5, 6, 7, 29])
    (.cond (.t 29) (.seq (.reg [⟨(some 30), .mov (.t 0), none⟩,
        ⟨(some 31), .mov (.t 5), none⟩,
        ⟨(some 32), .mov (.t 7), none⟩,
        ⟨(some 33), .indexAddr 1 (.t 30) (.t 31), none⟩,
        ⟨none, .store 1 (.t 33) (.t 32), none⟩] [0, 1, 5, 6])
     (.reg [⟨(some 34), .mov (.t 5), none⟩,
       ⟨(some 35), .bin .add (.t 34) (.k (.int .i64 1)), none⟩,
       ⟨(some 5), .mov (.t 35), none⟩] [0, 1, 5, 6]))
    (.skip))))) [0, 1, 5, 6] b73_0
def b73_1 : C := c73_1 b73_0
def c73_2 (b73_1 : C) : C :=
  .seqT (.seq (.reg [⟨(some 16), .mov (.t 6), none⟩,
      ⟨(some 17), .mov (.t 0), none⟩,
      ⟨(some 18), .len 1 (.t 17), none⟩,
      ⟨(some 19), .bin .lss (.t 16) (.t 18), none⟩] [0, 1, 5, 6, 19])
   (.cond (.t 19) (.skip)
   (.exit 0))) [0, 1, 5, 6] b73_1
def b73_2 : C := c73_2 b73_1
def b73_3 : C :=
  .seq (.reg [⟨(some 36), .mov (.t 0), none⟩,
     ⟨(some 37), .mov (.t 5), none⟩,
     ⟨(some 38), .slice 1 (.t 36) (some (.t 37)) none, none⟩,
     ⟨none, .clear 1 [(.int .i64 0)] (.t 38), none⟩] [0, 5])
  (.seq (.reg [⟨(some 39), .mov (.t 0), none⟩,
     ⟨(some 40), .mov (.t 5), none⟩,
     ⟨(some 41), .slice 1 (.t 39) none (some (.t 40)), none⟩,
     ⟨(some 4), .mov (.t 41), none⟩] [4])
  (.ret))
def c73_4 (b73_2 b73_3 : C) : C :=
  .seqT (.seq (.reg [⟨(some 14), .mov (.t 5), none⟩,
      ⟨(some 15), .bin .add (.t 14) (.k (.int .i64 1)), none⟩,
      ⟨(some 6), .mov (.t 15), none⟩] [0, 1, 5, 6])
   (.block 0 (.loop [0, 1, 5, 6] false b73_2))) [0, 5] b73_3
def b73_4 : C := c73_4 b73_2 b73_3
def c73 (b73_4 : C) : C :=
  .seq (.reg [⟨(some 4), .mov (.k (.list .full 1 [])), none⟩] [0, 1])
  (.seq (.reg [⟨(some 8), .mov (.t 0), none⟩,
     ⟨(some 9), .mov (.t 1), none⟩,
     ⟨(some 10), .call (.f 91) [(.t 8), (.t 9)] false, none⟩,
     ⟨(some 5), .mov (.t 10), none⟩] [0, 1, 5])
  (.seqT (.seq (.reg [⟨(some 11), .mov (.t 5), none⟩,
      ⟨(some 12), .bin .eql (.t 11) (.k (.int .i64 (-1))), none⟩] [0, 1, 5, 12])
   (.cond (.t 12) (.seq (.reg [⟨(some 13), .mov (.t 0), none⟩,
       ⟨(some 4), .mov (.t 13), none⟩] [4])
    (.ret))
   (.skip))) [0, 1, 5] b73_4))
def b73 : C := c73 b73_4
def f73 : IFn := { body := b73, params := 2, res := [(4, none)], pop := false, keep := false }
theorem ok73 : okFn Try.prog 73 f73 = true := by kernel_rfl

-- resolvent/pairs.Places$1
def b74 : C :=
  .seq (.reg [⟨(some 2), .mov (.k (.bool false)), none⟩] [0])
  (.seq (.reg [⟨(some 3), .mov (.t 0), none⟩,
     ⟨(some 4), .bin .lss (.t 3) (.k (.int .i64 0)), none⟩,
     ⟨(some 2), .mov (.t 4), none⟩] [2])
  (.ret))
def f74 : IFn := { body := b74, params := 1, res := [(2, none)], pop := false, keep := false }
theorem ok74 : okFn Try.prog 74 f74 = true := by kernel_rfl

-- slices.Index[[]int,int]
def b79_0 : C :=
  .reg [⟨(some 18), .bin .add (.t 8) (.k (.int .i64 1)), none⟩,
    ⟨(some 8), .mov (.t 18), none⟩] [0, 1, 7, 8]
def c79_1 (b79_0 : C) : C :=
  .seqT (.block 1 (.seq (.reg [⟨(some 10), .mov (.t 8), none⟩,
       ⟨(some 5), .mov (.t 10), none⟩] [0, 1, 5, 7, 8])
    (.seq (.reg [⟨(some 11), .mov (.t 1), none⟩,
       ⟨(some 12), .mov (.t 0), none⟩,
       ⟨(some 13), .mov (.t 5), none⟩,
       ⟨(some 14), .indexAddr 1 (.t 12) (.t 13), none⟩,
       ⟨(some 15), .load none (.t 14), none⟩,
       ⟨(some 16), .bin .eql (.t 11) (.t 15), none⟩] [0, 1, 5, 7, 8, 16])
    (.cond (.t 16) (.seq (.reg [⟨(some 17), .mov (.t 5), none⟩,
        ⟨(some 4), .mov (.t 17), none⟩] [4])
     (.ret))
    (.skip))))) [0, 1, 7, 8] b79_0
def b79_1 : C := c79_1 b79_0
def c79_2 (b79_1 : C) : C :=
  .seq (.reg [⟨(some 9), .bin .lss (.t 8) (.t 7), none⟩] [0, 1, 7, 8, 9])
  (.seqT (.cond (.t 9) (.skip)
   (.exit 0)) [0, 1, 7, 8] b79_1)
def b79_2 : C := c79_2 b79_1
def b79_3 : C :=
  .seq (.reg [⟨(some 4), .mov (.k (.int .i64 (-1))), none⟩] [4])
  (.ret)
def c79 (b79_2 b79_3 : C) : C :=
  .seq (.reg [⟨(some 4), .mov (.k (.int .i64 0)), none⟩] [0, 1])
  (.seqT (.seq (.reg [⟨(some 6), .mov (.t 0), none⟩,
      ⟨(some 7), .len 1 (.t 6), none⟩,
      ⟨(some 8), .mov (.k (.int .i64 0)), none⟩] [0, 1, 7, 8])
   (.block 0 (.loop [0, 1, 7, 8] false b79_2))) [] b79_3)
def b79 : C := c79 b79_2 b79_3
def f79 : IFn := { body := b79, params := 2, res := [(4, none)], pop := false, keep := false }
theorem ok79 : okFn Try.prog 79 f79 = true := by kernel_rfl

-- resolvent/pairs.good$1
def b85_0 : C :=
  .reg [⟨(some 38), .bin .add (.t 7) (.k (.int .i64 1)), none⟩,
    ⟨(some 7), .mov (.t 38), none⟩] [0, 5, 6, 7]
def c85_1 (b85_0 : C) : C :=
  .seqT (.block 1 (.seq (.reg [⟨(some 9), .indexAddr 2 (.t 5) (.t 7), none⟩,
       ⟨(some 10), .load (some 2) (.t 9), none⟩,
       ⟨(some 4), .new [(.int .i64 0), (.int .i64 0)], none⟩,
       ⟨none, .store 2 (.t 4) (.t 10), none⟩] [0, 4, 5, 6, 7])
    (.seq (.reg [⟨(some 11), .indexAddrA 2 1 (.t 4) (.k (.int .i64 0)), none⟩,
       ⟨(some 12), .load none (.t 11), none⟩,
       ⟨(some 13), .indexAddrA 2 1 (.t 4) (.k (.int .i64 1)), none⟩,
       ⟨(some 14), .load none (.t 13), none⟩,
       ⟨(some 15), .min2 (.t 12) (.t 14), none⟩,
       ⟨(some 16), .indexAddrA 2 1 (.t 4) (.k (.int .i64 0)), none⟩,
       ⟨(some 17), .load none (.t 16), none⟩,
       ⟨(some 18), .indexAddrA 2 1 (.t 4) (.k (.int .i64 1)), none⟩,
       ⟨(some 19), .load none (.t 18), none⟩,
       ⟨(some 20), .max2 (.t 17) (.t 19), none⟩,
       ⟨(some 21), .build [(.int .i64 0), (.int .i64 0)] [(0, 1, (.t 15)), (1, 1, (.t 20))], none⟩,
       ⟨none, .store 2 (.t 4) (.t 21), none⟩] [0, 4, 5, 6, 7])
    (.seq (.reg [⟨(some 22), .indexAddrA 2 1 (.t 4) (.k (.int .i64 0)), none⟩,
       ⟨(some 23), .load none (.t 22), none⟩,
       ⟨(some 24), .bin .geq (.t 23) (.k (.int .i64 0)), none⟩,
       ⟨(some 25), .mov (.t 24), none⟩,
       ⟨(some 26), .indexAddrA 2 1 (.t 4) (.k (.int .i64 0)), some (25, true)⟩,
       ⟨(some 27), .load none (.t 26), some (25, true)⟩,
       ⟨(some 28), .indexAddrA 2 1 (.t 4) (.k (.int .i64 1)), some (25, true)⟩,
       ⟨(some 29), .load none (.t 28), some (25, true)⟩,
       ⟨(some 30), .bin .neq (.t 27) (.t 29), some (25, true)⟩,
       ⟨(some 31), .pick (.t 25) (.t 30) (.k (.bool false)), none⟩,
       ⟨(some 32), .mov (.t 31), none⟩,
       ⟨(some 33), .mov (.t 0), some (32, true)⟩,
       ⟨(some 34), .load (some 2) (.t 4), some (32, true)⟩,
       ⟨(some 35), .call (.t 33) [(.t 34)] false, some (32, true)⟩,
       ⟨(some 36), .un .not (.t 35), some (32, true)⟩,
       ⟨(some 37), .pick (.t 32) (.t 36) (.k (.bool false)), none⟩] [0, 5, 6, 7, 37])
    (.cond (.t 37) (.ret)
    (.skip)))))) [0, 5, 6, 7] b85_0
def b85_1 : C := c85_1 b85_0
def c85_2 (b85_1 : C) : C :=
  .seq (.reg [⟨(some 8), .bin .lss (.t 7) (.t 6), none⟩] [0, 5, 6, 7, 8])
  (.seqT (.cond (.t 8) (.skip)
   (.exit 0)) [0, 5, 6, 7] b85_1)
def b85_2 : C := c85_2 b85_1
def c85 (b85_2 : C) : C :=
  .seq (.reg [⟨(some 5), .load none (.t 1), none⟩,
     ⟨(some 6), .len 1 (.t 5), none⟩,
     ⟨(some 7), .mov (.k (.int .i64 0)), none⟩] [0, 5, 6, 7])
  (.block 0 (.loop [0, 5, 6, 7] false b85_2))
def b85 : C := c85 b85_2
def f85 : IFn := { body := b85, params := 2, res := [], pop := false, keep := false }
theorem ok85 : okFn Try.prog 85 f85 = true := by kernel_rfl

-- slices.AppendSeq[[][2]int,[2]int]
def b86_0 : C :=
  .reg [⟨(some 5), .new [(.int .i64 0), (.int .i64 0)], none⟩,
    ⟨none, .store 2 (.t 5) (.t 7), none⟩] [2, 5]
def b86_1 : C :=
  .block 1 (.reg [⟨(some 8), .load none (.t 2), none⟩,
     ⟨(some 9), .load (some 2) (.t 5), none⟩,
     ⟨(some 10), .buildSlice 2 [(.int .i64 0), (.int .i64 0)] 1 [(0, (.t 9))] false, none⟩,
     ⟨(some 11), .append 2 16 (.t 8) (.t 10) 1, none⟩,
     ⟨none, .store 1 (.t 2) (.t 11), none⟩] [])
def b86_2 : C :=
  .seq (.reg [⟨(some 12), .load none (.t 2), none⟩,
     ⟨(some 4), .mov (.t 12), none⟩] [4])
  (.ret)
def c86 (b86_0 b86_1 b86_2 : C) : C :=
  .seq (.reg [⟨(some 2), .box (.t 0), none⟩,
     ⟨(some 4), .mov (.k (.list .full 2 [])), none⟩] [1, 2, 4])
  (.seqT (.seq (.reg [⟨(some 6), .mov (.t 1), none⟩] [2, 4, 6])
   (.block 0 (.rangeFunc (.t 6) [7] b86_0 b86_1 [2, 4]))) [2] b86_2)
def b86 : C := c86 b86_0 b86_1 b86_2
def f86 : IFn := { body := b86, params := 2, res := [(4, none)], pop := false, keep := false }
theorem ok86 : okFn Try.prog 86 f86 = true := by kernel_rfl

-- cmp.isNaN[int]
def b88 : C :=
  .seq (.reg [⟨(some 2), .mov (.k (.bool false)), none⟩] [0])
  (.seq (.reg [⟨(some 3), .mov (.t 0), none⟩,
     ⟨(some 4), .mov (.t 0), none⟩,
     ⟨(some 5), .bin .neq (.t 3) (.t 4), none⟩,
     ⟨(some 2), .mov (.t 5), none⟩] [2])
  (.ret))
def f88 : IFn := { body := b88, params := 1, res := [(2, none)], pop := false, keep := false }
theorem ok88 : okFn Try.prog 88 f88 = true := by kernel_rfl

-- slices.IndexFunc[[][2]int,[2]int]
def b90_0 : C :=
  .reg [⟨(some 18), .bin .add (.t 8) (.k (.int .i64 1)), none⟩,
    ⟨(some 8), .mov (.t 18), none⟩] [0, 1, 7, 8]
def c90_1 (b90_0 : C) : C :=
  .seqT (.block 1 (.seq (.reg [⟨(some 10), .mov (.t 8), none⟩,
       ⟨(some 5), .mov (.t 10), none⟩] [0, 1, 5, 7, 8])
    (.seq (.reg [⟨(some 11), .mov (.t 1), none⟩,
       ⟨(some 12), .mov (.t 0), none⟩,
       ⟨(some 13), .mov (.t 5), none⟩,
       ⟨(some 14), .indexAddr 2 (.t 12) (.t 13), none⟩,
       ⟨(some 15), .load (some 2) (.t 14), none⟩,
       ⟨(some 16), .call (.t 11) [(.t 15)] false, none⟩] [0, 1, 5, 7, 8, 16])
    (.cond (.t 16) (.seq (.reg [⟨(some 17), .mov (.t 5), none⟩,
        ⟨(some 4), .mov (.t 17), none⟩] [4])
     (.ret))
    (.skip))))) [0, 1, 7, 8] b90_0
def b90_1 : C := c90_1 b90_0
def c90_2 (b90_1 : C) : C :=
  .seq (.reg [⟨(some 9), .bin .lss (.t 8) (.t 7), none⟩] [0, 1, 7, 8, 9])
  (.seqT (.cond (.t 9) (.skip)
   (.exit 0)) [0, 1, 7, 8] b90_1)
def b90_2 : C := c90_2 b90_1
def b90_3 : C :=
  .seq (.reg [⟨(some 4), .mov (.k (.int .i64 (-1))), none⟩] [4])
  (.ret)
def c90 (b90_2 b90_3 : C) : C :=
  .seq (.reg [⟨(some 4), .mov (.k (.int .i64 0)), none⟩] [0, 1])
  (.seqT (.seq (.reg [⟨(some 6), .mov (.t 0), none⟩,
      ⟨(some 7), .len 1 (.t 6), none⟩,
      ⟨(some 8), .mov (.k (.int .i64 0)), none⟩] [0, 1, 7, 8])
   (.block 0 (.loop [0, 1, 7, 8] false b90_2))) [] b90_3)
def b90 : C := c90 b90_2 b90_3
def f90 : IFn := { body := b90, params := 2, res := [(4, none)], pop := false, keep := false }
theorem ok90 : okFn Try.prog 90 f90 = true := by kernel_rfl

-- slices.IndexFunc[[]int,int]
def b91_0 : C :=
  .reg [⟨(some 18), .bin .add (.t 8) (.k (.int .i64 1)), none⟩,
    ⟨(some 8), .mov (.t 18), none⟩] [0, 1, 7, 8]
def c91_1 (b91_0 : C) : C :=
  .seqT (.block 1 (.seq (.reg [⟨(some 10), .mov (.t 8), none⟩,
       ⟨(some 5), .mov (.t 10), none⟩] [0, 1, 5, 7, 8])
    (.seq (.reg [⟨(some 11), .mov (.t 1), none⟩,
       ⟨(some 12), .mov (.t 0), none⟩,
       ⟨(some 13), .mov (.t 5), none⟩,
       ⟨(some 14), .indexAddr 1 (.t 12) (.t 13), none⟩,
       ⟨(some 15), .load none (.t 14), none⟩,
       ⟨(some 16), .call (.t 11) [(.t 15)] false, none⟩] [0, 1, 5, 7, 8, 16])
    (.cond (.t 16) (.seq (.reg [⟨(some 17), .mov (.t 5), none⟩,
        ⟨(some 4), .mov (.t 17), none⟩] [4])
     (.ret))
    (.skip))))) [0, 1, 7, 8] b91_0
def b91_1 : C := c91_1 b91_0
def c91_2 (b91_1 : C) : C :=
  .seq (.reg [⟨(some 9), .bin .lss (.t 8) (.t 7), none⟩] [0, 1, 7, 8, 9])
  (.seqT (.cond (.t 9) (.skip)
   (.exit 0)) [0, 1, 7, 8] b91_1)
def b91_2 : C := c91_2 b91_1
def b91_3 : C :=
  .seq (.reg [⟨(some 4), .mov (.k (.int .i64 (-1))), none⟩] [4])
  (.ret)
def c91 (b91_2 b91_3 : C) : C :=
  .seq (.reg [⟨(some 4), .mov (.k (.int .i64 0)), none⟩] [0, 1])
  (.seqT (.seq (.reg [⟨(some 6), .mov (.t 0), none⟩,
      ⟨(some 7), .len 1 (.t 6), none⟩,
      ⟨(some 8), .mov (.k (.int .i64 0)), none⟩] [0, 1, 7, 8])
   (.block 0 (.loop [0, 1, 7, 8] false b91_2))) [] b91_3)
def b91 : C := c91 b91_2 b91_3
def f91 : IFn := { body := b91, params := 2, res := [(4, none)], pop := false, keep := false }
theorem ok91 : okFn Try.prog 91 f91 = true := by kernel_rfl

theorem mixed : Try.prog.follows .mixedOrders = true := by kernel_rfl
def T0 : Nat → Option IFn
  | 7 => some f7
  | 27 => some f27
  | 28 => some f28
  | 29 => some f29
  | 30 => some f30
  | 31 => some f31
  | 32 => some f32
  | 35 => some f35
  | 36 => some f36
  | 37 => some f37
  | 42 => some f42
  | 49 => some f49
  | 56 => some { f56 with orc := sortO }
  | 57 => some { f57 with orc := compO }
  | 61 => some f61
  | 62 => some f62
  | 63 => some { f63 with orc := sortFO }
  | 64 => some f64
  | 65 => some f65
  | 66 => some f66
  | 67 => some f67
  | 70 => some f70
  | 71 => some f71
  | 72 => some { f72 with orc := cloneI }
  | 73 => some f73
  | 74 => some f74
  | 79 => some f79
  | 85 => some f85
  | 86 => some f86
  | 88 => some f88
  | 90 => some f90
  | 91 => some f91
  | _ => none

theorem hT0 : ∀ f fn, T0 f = some fn → okFn Try.prog f fn = true := by
  intro f fn h
  unfold T0 at h
  split at h
  · cases h; exact ok7
  · cases h; exact ok27
  · cases h; exact ok28
  · cases h; exact ok29
  · cases h; exact ok30
  · cases h; exact ok31
  · cases h; exact ok32
  · cases h; exact ok35
  · cases h; exact ok36
  · cases h; exact ok37
  · cases h; exact ok42
  · cases h; exact ok49
  · cases h; exact ok56o
  · cases h; exact ok57o
  · cases h; exact ok61
  · cases h; exact ok62
  · cases h; exact ok63o
  · cases h; exact ok64
  · cases h; exact ok65
  · cases h; exact ok66
  · cases h; exact ok67
  · cases h; exact ok70
  · cases h; exact ok71
  · cases h; exact ok72o
  · cases h; exact ok73
  · cases h; exact ok74
  · cases h; exact ok79
  · cases h; exact ok85
  · cases h; exact ok86
  · cases h; exact ok88
  · cases h; exact ok90
  · cases h; exact ok91
  · cases h
theorem hO0 (h56 : OrcSound Try.prog (okc0 Try.prog) 56 { f56 with orc := sortO }) (h57 : OrcSound Try.prog (okc0 Try.prog) 57 { f57 with orc := compO }) (h63 : OrcSound Try.prog (okc0 Try.prog) 63 { f63 with orc := sortFO }) (h72 : OrcSound Try.prog (okc0 Try.prog) 72 { f72 with orc := cloneI }) : ∀ f fn, T0 f = some fn → OrcSound Try.prog (okc0 Try.prog) f fn := by
  intro f fn h
  unfold T0 at h
  split at h
  · cases h; exact orcSound_none fun _ _ => rfl
  · cases h; exact orcSound_none fun _ _ => rfl
  · cases h; exact orcSound_none fun _ _ => rfl
  · cases h; exact orcSound_none fun _ _ => rfl
  · cases h; exact orcSound_none fun _ _ => rfl
  · cases h; exact orcSound_none fun _ _ => rfl
  · cases h; exact orcSound_none fun _ _ => rfl
  · cases h; exact orcSound_none fun _ _ => rfl
  · cases h; exact orcSound_none fun _ _ => rfl
  · cases h; exact orcSound_none fun _ _ => rfl
  · cases h; exact orcSound_none fun _ _ => rfl
  · cases h; exact orcSound_none fun _ _ => rfl
  · cases h; exact h56
  · cases h; exact h57
  · cases h; exact orcSound_none fun _ _ => rfl
  · cases h; exact orcSound_none fun _ _ => rfl
  · cases h; exact h63
  · cases h; exact orcSound_none fun _ _ => rfl
  · cases h; exact orcSound_none fun _ _ => rfl
  · cases h; exact orcSound_none fun _ _ => rfl
  · cases h; exact orcSound_none fun _ _ => rfl
  · cases h; exact orcSound_none fun _ _ => rfl
  · cases h; exact orcSound_none fun _ _ => rfl
  · cases h; exact h72
  · cases h; exact orcSound_none fun _ _ => rfl
  · cases h; exact orcSound_none fun _ _ => rfl
  · cases h; exact orcSound_none fun _ _ => rfl
  · cases h; exact orcSound_none fun _ _ => rfl
  · cases h; exact orcSound_none fun _ _ => rfl
  · cases h; exact orcSound_none fun _ _ => rfl
  · cases h; exact orcSound_none fun _ _ => rfl
  · cases h; exact orcSound_none fun _ _ => rfl
  · cases h
theorem ok28o : okFn Try.prog 28 { f28 with orc := orc0 (.bool true) } = true := by kernel_rfl
def T : Nat → Option IFn
  | 7 => some f7
  | 27 => some f27
  | 28 => some { f28 with orc := orc0 (.bool true) }
  | 29 => some f29
  | 30 => some f30
  | 31 => some f31
  | 32 => some f32
  | 35 => some f35
  | 36 => some f36
  | 37 => some f37
  | 42 => some f42
  | 49 => some f49
  | 56 => some { f56 with orc := sortO }
  | 57 => some { f57 with orc := compO }
  | 61 => some f61
  | 62 => some f62
  | 63 => some { f63 with orc := sortFO }
  | 64 => some f64
  | 65 => some f65
  | 66 => some f66
  | 67 => some f67
  | 70 => some f70
  | 71 => some f71
  | 72 => some { f72 with orc := cloneI }
  | 73 => some f73
  | 74 => some f74
  | 79 => some f79
  | 85 => some f85
  | 86 => some f86
  | 88 => some f88
  | 90 => some f90
  | 91 => some f91
  | _ => none

theorem hT : ∀ f fn, T f = some fn → okFn Try.prog f fn = true := by
  intro f fn h
  unfold T at h
  split at h
  · cases h; exact ok7
  · cases h; exact ok27
  · cases h; exact ok28o
  · cases h; exact ok29
  · cases h; exact ok30
  · cases h; exact ok31
  · cases h; exact ok32
  · cases h; exact ok35
  · cases h; exact ok36
  · cases h; exact ok37
  · cases h; exact ok42
  · cases h; exact ok49
  · cases h; exact ok56o
  · cases h; exact ok57o
  · cases h; exact ok61
  · cases h; exact ok62
  · cases h; exact ok63o
  · cases h; exact ok64
  · cases h; exact ok65
  · cases h; exact ok66
  · cases h; exact ok67
  · cases h; exact ok70
  · cases h; exact ok71
  · cases h; exact ok72o
  · cases h; exact ok73
  · cases h; exact ok74
  · cases h; exact ok79
  · cases h; exact ok85
  · cases h; exact ok86
  · cases h; exact ok88
  · cases h; exact ok90
  · cases h; exact ok91
  · cases h
end Go.Proofs.P17
