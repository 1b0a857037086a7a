import Derived.KernelRfl
import Derived.Test.YtdddcofggemnkaaAmIn
import Derived.Test.YtdddcofggemnkaaAmSort
import Derived.Test.YtdddcofggemnkaaAmX
import Derived.Test.YtdddcofggemnkaaProg
namespace Go.Proofs.P16
set_option linter.all false
open Go Go.Am

-- resolvent/resolventlaw16.PosLattice X
def d5_0 : List (IOper × Nat × Nat) :=
  [(⟨(some 37), .mov (.t 5), none⟩, 0, 1000001),
    (⟨(some 38), .mov (.t 5), none⟩, 0, 1000001),
    (⟨(some 39), .len 1 (.t 38), none⟩, 2, 1000001),
    (⟨(some 40), .bin .sub (.t 39) (.k (.int .i64 1)), none⟩, 4, 1000001),
    (⟨(some 41), .indexAddr 2 (.t 37) (.t 40), none⟩, 9, 1000001),
    (⟨(some 42), .load (some 2) (.t 41), none⟩, 16, 1000001),
    (⟨(some 43), .mov (.t 5), none⟩, 0, 1000001),
    (⟨(some 44), .mov (.t 5), none⟩, 0, 1000001),
    (⟨(some 45), .len 1 (.t 44), none⟩, 128, 1000001),
    (⟨(some 46), .bin .sub (.t 45) (.k (.int .i64 2)), none⟩, 256, 1000001),
    (⟨(some 47), .indexAddr 2 (.t 43) (.t 46), none⟩, 576, 1000001),
    (⟨(some 48), .load (some 2) (.t 47), none⟩, 1024, 1000001),
    (⟨(some 49), .mov (.t 5), none⟩, 0, 1000001),
    (⟨(some 50), .mov (.t 5), none⟩, 0, 1000001),
    (⟨(some 51), .len 1 (.t 50), none⟩, 8192, 1000001),
    (⟨(some 52), .bin .sub (.t 51) (.k (.int .i64 3)), none⟩, 16384, 1000001),
    (⟨(some 53), .indexAddr 2 (.t 49) (.t 52), none⟩, 36864, 1000001),
    (⟨(some 54), .load (some 2) (.t 53), none⟩, 65536, 1000001),
    (⟨(some 8), .new [(.list .full 0 []), (.bool false)], none⟩, 0, 1000001),
    (⟨(some 9), .new [(.list .full 0 []), (.bool false)], none⟩, 0, 1000001),
    (⟨(some 10), .new [(.list .full 0 []), (.bool false)], none⟩, 0, 1000001),
    (⟨none, .store 2 (.t 8) (.t 42), none⟩, 1835071, 1000001),
    (⟨none, .store 2 (.t 9) (.t 48), none⟩, 3936255, 1000001),
    (⟨none, .store 2 (.t 10) (.t 54), none⟩, 8388607, 1000001)]
def d5_1 : List (IOper × Nat × Nat) :=
  [(⟨(some 55), .load (some 2) (.t 8), none⟩, 0, 1),
    (⟨(some 56), .load (some 2) (.t 9), none⟩, 0, 1),
    (⟨(some 57), .call (.f 11) [(.t 55), (.t 56)] false, none⟩, 0, 0),
    (⟨(some 58), .load (some 2) (.t 9), none⟩, 0, 2),
    (⟨(some 59), .load (some 2) (.t 8), none⟩, 0, 2),
    (⟨(some 60), .call (.f 11) [(.t 58), (.t 59)] false, none⟩, 0, 0),
    (⟨(some 61), .call (.f 22) [(.t 57), (.t 60)] false, none⟩, 0, 0),
    (⟨(some 62), .un .not (.t 61), none⟩, 0, 0),
    (⟨(some 63), .mov (.t 62), none⟩, 0, 0),
    (⟨(some 64), .load (some 2) (.t 8), some (63, false)⟩, 3, 1),
    (⟨(some 65), .load (some 2) (.t 9), some (63, false)⟩, 3, 1),
    (⟨(some 66), .call (.f 23) [(.t 64), (.t 65)] false, some (63, false)⟩, 0, 0),
    (⟨(some 67), .load (some 2) (.t 9), some (63, false)⟩, 3, 2),
    (⟨(some 68), .load (some 2) (.t 8), some (63, false)⟩, 3, 2),
    (⟨(some 69), .call (.f 23) [(.t 67), (.t 68)] false, some (63, false)⟩, 0, 0),
    (⟨(some 70), .call (.f 22) [(.t 66), (.t 69)] false, some (63, false)⟩, 0, 0),
    (⟨(some 71), .un .not (.t 70), some (63, false)⟩, 0, 0),
    (⟨(some 72), .pick (.t 63) (.k (.bool true)) (.t 71), none⟩, 0, 0),
    (⟨(some 73), .mov (.t 72), none⟩, 0, 0),
    (⟨(some 74), .load (some 2) (.t 8), some (73, false)⟩, 6, 1),
    (⟨(some 75), .load (some 2) (.t 9), some (73, false)⟩, 6, 1),
    (⟨(some 76), .call (.f 11) [(.t 74), (.t 75)] false, some (73, false)⟩, 0, 0),
    (⟨(some 77), .load (some 2) (.t 10), some (73, false)⟩, 6, 2),
    (⟨(some 78), .call (.f 11) [(.t 76), (.t 77)] false, some (73, false)⟩, 0, 0),
    (⟨(some 79), .load (some 2) (.t 8), some (73, false)⟩, 6, 4),
    (⟨(some 80), .load (some 2) (.t 9), some (73, false)⟩, 6, 3),
    (⟨(some 81), .load (some 2) (.t 10), some (73, false)⟩, 6, 3),
    (⟨(some 82), .call (.f 11) [(.t 80), (.t 81)] false, some (73, false)⟩, 0, 0),
    (⟨(some 83), .call (.f 11) [(.t 79), (.t 82)] false, some (73, false)⟩, 0, 0),
    (⟨(some 84), .call (.f 22) [(.t 78), (.t 83)] false, some (73, false)⟩, 0, 0),
    (⟨(some 85), .un .not (.t 84), some (73, false)⟩, 0, 0),
    (⟨(some 86), .pick (.t 73) (.k (.bool true)) (.t 85), none⟩, 0, 0),
    (⟨(some 87), .mov (.t 86), none⟩, 0, 0),
    (⟨(some 88), .load (some 2) (.t 8), some (87, false)⟩, 11, 1),
    (⟨(some 89), .load (some 2) (.t 9), some (87, false)⟩, 11, 1),
    (⟨(some 90), .call (.f 23) [(.t 88), (.t 89)] false, some (87, false)⟩, 0, 0),
    (⟨(some 91), .load (some 2) (.t 10), some (87, false)⟩, 11, 2),
    (⟨(some 92), .call (.f 23) [(.t 90), (.t 91)] false, some (87, false)⟩, 0, 0),
    (⟨(some 93), .load (some 2) (.t 8), some (87, false)⟩, 11, 4),
    (⟨(some 94), .load (some 2) (.t 9), some (87, false)⟩, 11, 3),
    (⟨(some 95), .load (some 2) (.t 10), some (87, false)⟩, 11, 3),
    (⟨(some 96), .call (.f 23) [(.t 94), (.t 95)] false, some (87, false)⟩, 0, 0),
    (⟨(some 97), .call (.f 23) [(.t 93), (.t 96)] false, some (87, false)⟩, 0, 0),
    (⟨(some 98), .call (.f 22) [(.t 92), (.t 97)] false, some (87, false)⟩, 0, 0),
    (⟨(some 99), .un .not (.t 98), some (87, false)⟩, 0, 0),
    (⟨(some 100), .pick (.t 87) (.k (.bool true)) (.t 99), none⟩, 0, 0)]
def d5_2 : List (IOper × Nat × Nat) :=
  [(⟨(some 101), .load (some 2) (.t 8), none⟩, 0, 2),
    (⟨(some 102), .load (some 2) (.t 8), none⟩, 0, 1),
    (⟨(some 103), .load (some 2) (.t 9), none⟩, 0, 1),
    (⟨(some 104), .call (.f 23) [(.t 102), (.t 103)] false, none⟩, 0, 0),
    (⟨(some 105), .call (.f 11) [(.t 101), (.t 104)] false, none⟩, 0, 0),
    (⟨(some 106), .load (some 2) (.t 8), none⟩, 0, 3),
    (⟨(some 107), .call (.f 22) [(.t 105), (.t 106)] false, none⟩, 0, 0),
    (⟨(some 108), .un .not (.t 107), none⟩, 0, 0),
    (⟨(some 109), .mov (.t 108), none⟩, 0, 0),
    (⟨(some 110), .load (some 2) (.t 8), some (109, false)⟩, 3, 2),
    (⟨(some 111), .load (some 2) (.t 8), some (109, false)⟩, 3, 1),
    (⟨(some 112), .load (some 2) (.t 9), some (109, false)⟩, 3, 1),
    (⟨(some 113), .call (.f 11) [(.t 111), (.t 112)] false, some (109, false)⟩, 0, 0),
    (⟨(some 114), .call (.f 23) [(.t 110), (.t 113)] false, some (109, false)⟩, 0, 0),
    (⟨(some 115), .load (some 2) (.t 8), some (109, false)⟩, 3, 3),
    (⟨(some 116), .call (.f 22) [(.t 114), (.t 115)] false, some (109, false)⟩, 0, 0),
    (⟨(some 117), .un .not (.t 116), some (109, false)⟩, 0, 0),
    (⟨(some 118), .pick (.t 109) (.k (.bool true)) (.t 117), none⟩, 0, 0),
    (⟨(some 119), .mov (.t 118), none⟩, 0, 0),
    (⟨(some 120), .load (some 2) (.t 8), some (119, false)⟩, 6, 2),
    (⟨(some 121), .load (some 2) (.t 9), some (119, false)⟩, 6, 1),
    (⟨(some 122), .load (some 2) (.t 10), some (119, false)⟩, 6, 1),
    (⟨(some 123), .call (.f 23) [(.t 121), (.t 122)] false, some (119, false)⟩, 0, 0),
    (⟨(some 124), .call (.f 11) [(.t 120), (.t 123)] false, some (119, false)⟩, 0, 0),
    (⟨(some 125), .load (some 2) (.t 8), some (119, false)⟩, 6, 3),
    (⟨(some 126), .load (some 2) (.t 9), some (119, false)⟩, 6, 3),
    (⟨(some 127), .call (.f 11) [(.t 125), (.t 126)] false, some (119, false)⟩, 0, 0),
    (⟨(some 128), .load (some 2) (.t 8), some (119, false)⟩, 6, 4),
    (⟨(some 129), .load (some 2) (.t 10), some (119, false)⟩, 6, 4),
    (⟨(some 130), .call (.f 11) [(.t 128), (.t 129)] false, some (119, false)⟩, 0, 0),
    (⟨(some 131), .call (.f 23) [(.t 127), (.t 130)] false, some (119, false)⟩, 0, 0),
    (⟨(some 132), .call (.f 22) [(.t 124), (.t 131)] false, some (119, false)⟩, 0, 0),
    (⟨(some 133), .un .not (.t 132), some (119, false)⟩, 0, 0),
    (⟨(some 134), .pick (.t 119) (.k (.bool true)) (.t 133), none⟩, 0, 0),
    (⟨(some 135), .mov (.t 134), none⟩, 0, 0),
    (⟨(some 136), .load (some 2) (.t 8), some (135, false)⟩, 12, 1),
    (⟨(some 137), .load (some 2) (.t 8), some (135, false)⟩, 12, 1),
    (⟨(some 138), .call (.f 11) [(.t 136), (.t 137)] false, some (135, false)⟩, 0, 0),
    (⟨(some 139), .load (some 2) (.t 8), some (135, false)⟩, 12, 2),
    (⟨(some 140), .call (.f 22) [(.t 138), (.t 139)] false, some (135, false)⟩, 0, 0),
    (⟨(some 141), .un .not (.t 140), some (135, false)⟩, 0, 0),
    (⟨(some 142), .pick (.t 135) (.k (.bool true)) (.t 141), none⟩, 0, 0)]
def b5_3 : C :=
  .reg [⟨(some 152), .mov (.t 13), none⟩,
    ⟨(some 153), .bin .add (.t 152) (.k (.int .i64 1)), none⟩,
    ⟨(some 13), .mov (.t 153), none⟩] [1, 8, 9, 11, 12, 13]
def c5_4 (b5_3 : C) : C :=
  .seqT (.block 1 (.seq (.reg [⟨(some 154), .mov (.t 12), none⟩,
       ⟨(some 155), .mov (.t 13), none⟩,
       ⟨(some 156), .indexAddr 1 (.t 154) (.t 155), none⟩,
       ⟨(some 157), .load none (.t 156), none⟩,
       ⟨(some 158), .mov (.t 1), none⟩,
       ⟨(some 159), .bin .eql (.t 157) (.t 158), none⟩] [1, 8, 9, 11, 12, 13, 159])
    (.cond (.t 159) (.seq (.reg [⟨(some 4), .mov (.k (.bool false)), none⟩] [4])
     (.ret))
    (.skip)))) [1, 8, 9, 11, 12, 13] b5_3
def b5_4 : C := c5_4 b5_3
def c5_5 (b5_4 : C) : C :=
  .seqT (.seq (.reg [⟨(some 148), .mov (.t 13), none⟩,
      ⟨(some 149), .mov (.t 12), none⟩,
      ⟨(some 150), .len 1 (.t 149), none⟩,
      ⟨(some 151), .bin .lss (.t 148) (.t 150), none⟩] [1, 8, 9, 11, 12, 13, 151])
   (.cond (.t 151) (.skip)
   (.exit 0))) [1, 8, 9, 11, 12, 13] b5_4
def b5_5 : C := c5_5 b5_4
def d5_6 : List (IOper × Nat × Nat) :=
  [(⟨(some 165), .load (some 2) (.t 8), none⟩, 0, 1),
    (⟨(some 166), .load (some 2) (.t 11), none⟩, 0, 1),
    (⟨(some 167), .call (.f 11) [(.t 165), (.t 166)] false, none⟩, 0, 0),
    (⟨(some 168), .load (some 2) (.t 8), none⟩, 0, 2),
    (⟨(some 169), .call (.f 22) [(.t 167), (.t 168)] false, none⟩, 0, 0),
    (⟨(some 170), .mov (.t 169), none⟩, 0, 0),
    (⟨(some 171), .load (some 2) (.t 11), some (170, true)⟩, 2, 1),
    (⟨(some 172), .mov (.t 1), some (170, true)⟩, 0, 0),
    (⟨(some 173), .call (.f 24) [(.t 171), (.t 172)] false, some (170, true)⟩, 0, 0),
    (⟨(some 174), .load (some 2) (.t 11), some (170, true)⟩, 2, 2),
    (⟨(some 175), .call (.f 22) [(.t 173), (.t 174)] false, some (170, true)⟩, 0, 0),
    (⟨(some 176), .pick (.t 170) (.t 175) (.k (.bool false)), none⟩, 0, 0),
    (⟨(some 177), .mov (.t 176), none⟩, 0, 0),
    (⟨(some 178), .load (some 2) (.t 11), some (177, true)⟩, 4, 1),
    (⟨(some 179), .load (some 2) (.t 14), some (177, true)⟩, 4, 1),
    (⟨(some 180), .call (.f 11) [(.t 178), (.t 179)] false, some (177, true)⟩, 0, 0),
    (⟨(some 181), .load (some 2) (.t 11), some (177, true)⟩, 4, 2),
    (⟨(some 182), .call (.f 22) [(.t 180), (.t 181)] false, some (177, true)⟩, 0, 0),
    (⟨(some 183), .pick (.t 177) (.t 182) (.k (.bool false)), none⟩, 0, 0),
    (⟨(some 184), .mov (.t 183), none⟩, 0, 0),
    (⟨(some 185), .load (some 2) (.t 8), some (184, true)⟩, 6, 1),
    (⟨(some 186), .mov (.t 1), some (184, true)⟩, 0, 0),
    (⟨(some 187), .call (.f 19) [(.t 185), (.t 186)] false, some (184, true)⟩, 0, 0),
    (⟨(some 188), .load (some 2) (.t 8), some (184, true)⟩, 6, 3),
    (⟨(some 189), .mov (.t 1), some (184, true)⟩, 0, 0),
    (⟨(some 190), .call (.f 25) [(.t 189)] false, some (184, true)⟩, 0, 0),
    (⟨(some 191), .call (.f 11) [(.t 188), (.t 190)] false, some (184, true)⟩, 0, 0),
    (⟨(some 192), .load (some 2) (.t 8), some (184, true)⟩, 6, 4),
    (⟨(some 193), .call (.f 22) [(.t 191), (.t 192)] false, some (184, true)⟩, 0, 0),
    (⟨(some 194), .eqv ⟨[.b], false⟩ false (.t 187) (.t 193), some (184, true)⟩, 0, 0),
    (⟨(some 195), .pick (.t 184) (.t 194) (.k (.bool false)), none⟩, 0, 0),
    (⟨(some 196), .mov (.t 195), none⟩, 0, 0),
    (⟨(some 197), .call (.f 15) [] false, some (196, true)⟩, 0, 0),
    (⟨(some 198), .pick (.t 196) (.t 197) (.k (.bool false)), none⟩, 0, 0),
    (⟨(some 4), .mov (.t 198), none⟩, 0, 0)]
def b5_7 : C :=
  .seq (.reg [⟨(some 160), .load (some 2) (.t 8), none⟩,
     ⟨(some 161), .load (some 2) (.t 9), none⟩,
     ⟨(some 162), .call (.f 23) [(.t 160), (.t 161)] false, none⟩,
     ⟨(some 163), .mov (.t 1), none⟩,
     ⟨(some 164), .call (.f 24) [(.t 162), (.t 163)] false, none⟩,
     ⟨(some 14), .new [(.list .full 0 []), (.bool false)], none⟩,
     ⟨none, .store 2 (.t 14) (.t 164), none⟩] [1, 8, 11, 14])
  (.seq (.regD d5_6 [4])
  (.ret))
def c5_8 (b5_5 b5_7 : C) : C :=
  .seq (.reg [⟨(some 143), .load (some 2) (.t 8), none⟩,
     ⟨(some 144), .mov (.t 1), none⟩,
     ⟨(some 145), .call (.f 24) [(.t 143), (.t 144)] false, none⟩,
     ⟨(some 11), .new [(.list .full 0 []), (.bool false)], none⟩,
     ⟨none, .store 2 (.t 11) (.t 145), none⟩] [1, 8, 9, 11])
  (.seq (.reg [⟨(some 146), .load (some 2) (.t 11), none⟩,
     ⟨(some 147), .call (.f 17) [(.t 146)] false, none⟩,
     ⟨(some 12), .mov (.t 147), none⟩] [1, 8, 9, 11, 12])
  (.seqT (.seq (.reg [⟨(some 13), .mov (.k (.int .i64 0)), none⟩] [1, 8, 9, 11, 12, 13])
   (.block 0 (.loop [1, 8, 9, 11, 12, 13] false b5_5))) [1, 8, 9, 11] b5_7))
def b5_8 : C := c5_8 b5_5 b5_7
def c5_9 (b5_8 : C) : C :=
  .seqT (.seq (.regD d5_2 [1, 8, 9, 142])
   (.cond (.t 142) (.seq (.reg [⟨(some 4), .mov (.k (.bool false)), none⟩] [4])
    (.ret))
   (.skip))) [1, 8, 9] b5_8
def b5_9 : C := c5_9 b5_8
def c5_10 (b5_9 : C) : C :=
  .seqT (.seq (.regD d5_1 [1, 8, 9, 10, 100])
   (.cond (.t 100) (.seq (.reg [⟨(some 4), .mov (.k (.bool false)), none⟩] [4])
    (.ret))
   (.skip))) [1, 8, 9, 10] b5_9
def b5_10 : C := c5_10 b5_9
def c5_11 (b5_10 : C) : C :=
  .seqT (.regD d5_0 [1, 8, 9, 10]) [1, 8, 9, 10] b5_10
def b5_11 : C := c5_11 b5_10
def c5_12 (b5_11 : C) : C :=
  .seqT (.seq (.reg [⟨(some 21), .mov (.t 7), none⟩,
      ⟨(some 22), .un .not (.t 21), none⟩,
      ⟨(some 23), .mov (.t 22), none⟩,
      ⟨(some 24), .mov (.t 5), some (23, false)⟩,
      ⟨(some 25), .len 1 (.t 24), some (23, false)⟩,
      ⟨(some 26), .bin .lss (.t 25) (.k (.int .i64 3)), some (23, false)⟩,
      ⟨(some 27), .pick (.t 23) (.k (.bool true)) (.t 26), none⟩,
      ⟨(some 28), .mov (.t 27), none⟩,
      ⟨(some 29), .mov (.t 1), some (28, false)⟩,
      ⟨(some 30), .bin .lss (.t 29) (.k (.int .i64 0)), some (28, false)⟩,
      ⟨(some 31), .pick (.t 28) (.k (.bool true)) (.t 30), none⟩,
      ⟨(some 32), .mov (.t 31), none⟩,
      ⟨(some 33), .mov (.t 1), some (32, false)⟩,
      ⟨(some 34), .bin .gtr (.t 33) (.k (.int .i64 5)), some (32, false)⟩,
      ⟨(some 35), .pick (.t 32) (.k (.bool true)) (.t 34), none⟩] [1, 5, 35])
   (.cond (.t 35) (.seq (.reg [⟨(some 36), .call (.f 15) [] false, none⟩,
       ⟨(some 4), .mov (.t 36), none⟩] [4])
    (.ret))
   (.skip))) [1, 5] b5_11
def b5_12 : C := c5_12 b5_11
def c5_13 (b5_12 : C) : C :=
  .seqT (.reg [⟨(some 16), .mov (.t 0), none⟩,
     ⟨(some 17), .call (.f 16) [(.t 16)] false, none⟩,
     ⟨(some 15), .mov (.t 17), none⟩,
     ⟨(some 18), .extract (.t 15) 0, none⟩,
     ⟨(some 19), .extract (.t 15) 1, none⟩,
     ⟨(some 20), .extract (.t 15) 2, none⟩,
     ⟨(some 5), .mov (.t 18), none⟩,
     ⟨(some 6), .mov (.t 19), none⟩,
     ⟨(some 7), .mov (.t 20), none⟩] [1, 5, 7]) [1, 5, 7] b5_12
def b5_13 : C := c5_13 b5_12
def c5 (b5_13 : C) : C :=
  .seqT (.reg [⟨(some 4), .mov (.k (.bool false)), none⟩] [0, 1]) [0, 1] b5_13
def b5 : C := c5 b5_13
def f5 : IFn := { body := b5, params := 2, res := [(4, none)], pop := false, keep := false }
theorem ok5 : okFnX Try.prog 5 f5 = true := by kernel_rfl

-- resolvent/pos.Const
def b10 : C :=
  .seq (.reg [⟨(some 2), .new [(.list .full 0 []), (.bool false)], none⟩] [0, 2])
  (.seq (.reg [⟨(some 3), .mov (.t 0), none⟩,
     ⟨(some 4), .build [(.list .full 0 []), (.bool false)] [(1, 1, (.t 3))], none⟩,
     ⟨none, .store 2 (.t 2) (.t 4), none⟩] [2])
  (.ret))
def f10 : IFn := { body := b10, params := 1, res := [(2, some (some 2))], pop := false, keep := false }
theorem ok10 : okFn Try.prog 10 f10 = true := by kernel_rfl

-- resolvent/pos.And
def b11 : C :=
  .seq (.reg [⟨(some 2), .box (.t 0), none⟩,
     ⟨(some 3), .box (.t 1), none⟩,
     ⟨(some 4), .new [(.list .full 0 []), (.bool false)], none⟩] [2, 3, 4])
  (.seq (.reg [⟨(some 5), .load (some 2) (.t 2), none⟩,
     ⟨(some 6), .load (some 2) (.t 3), none⟩,
     ⟨(some 7), .buildSlice 2 [(.list .full 0 []), (.bool false)] 1 [(0, (.t 6))] false, none⟩,
     ⟨(some 8), .call (.f 44) [(.f 45), (.t 5), (.t 7)] false, none⟩,
     ⟨none, .store 2 (.t 4) (.t 8), none⟩] [4])
  (.ret))
def f11 : IFn := { body := b11, params := 2, res := [(4, some (some 2))], pop := false, keep := false }
theorem ok11 : okFn Try.prog 11 f11 = true := by kernel_rfl

-- resolvent/pos.Iff
def b12_0 : C :=
  .reg [⟨(some 33), .bin .add (.t 19) (.k (.int .i64 1)), none⟩,
    ⟨(some 19), .mov (.t 33), none⟩] [0, 1, 4, 5, 6, 17, 18, 19]
def c12_1 (b12_0 : C) : C :=
  .seqT (.block 1 (.seq (.reg [⟨(some 21), .indexAddr 1 (.t 17) (.t 19), none⟩,
       ⟨(some 22), .load none (.t 21), none⟩,
       ⟨(some 8), .mov (.t 22), none⟩] [0, 1, 4, 5, 6, 8, 17, 18, 19])
    (.seq (.reg [⟨(some 23), .mov (.t 8), none⟩,
       ⟨(some 24), .mov (.t 0), none⟩,
       ⟨(some 25), .bin .neq (.t 23) (.t 24), none⟩] [0, 1, 4, 5, 6, 8, 17, 18, 19, 25])
    (.cond (.t 25) (.reg [⟨(some 26), .mov (.t 5), none⟩,
       ⟨(some 27), .mov (.t 6), none⟩,
       ⟨(some 28), .mov (.t 5), none⟩,
       ⟨(some 29), .mov (.t 8), none⟩,
       ⟨(some 30), .call (.f 25) [(.t 29)] false, none⟩,
       ⟨(some 31), .call (.f 48) [(.t 28), (.t 30)] false, none⟩,
       ⟨(some 32), .call (.f 47) [(.t 26), (.t 27), (.t 31), (.f 45)] false, none⟩,
       ⟨(some 6), .mov (.t 32), none⟩] [0, 1, 4, 5, 6, 17, 18, 19])
    (.skip))))) [0, 1, 4, 5, 6, 17, 18, 19] b12_0
def b12_1 : C := c12_1 b12_0
def c12_2 (b12_1 : C) : C :=
  .seq (.reg [⟨(some 20), .bin .lss (.t 19) (.t 18), none⟩] [0, 1, 4, 5, 6, 17, 18, 19, 20])
  (.seqT (.cond (.t 20) (.skip)
   (.exit 0)) [0, 1, 4, 5, 6, 17, 18, 19] b12_1)
def b12_2 : C := c12_2 b12_1
def b12_3 : C :=
  .seq (.reg [⟨(some 56), .mov (.t 5), none⟩,
     ⟨(some 57), .mov (.t 5), none⟩,
     ⟨(some 58), .mov (.t 11), none⟩,
     ⟨(some 59), .mov (.t 5), none⟩,
     ⟨(some 60), .mov (.t 12), none⟩,
     ⟨(some 61), .mov (.t 5), none⟩,
     ⟨(some 62), .mov (.t 6), none⟩,
     ⟨(some 63), .call (.f 53) [(.t 61), (.t 62)] false, none⟩,
     ⟨(some 64), .call (.f 47) [(.t 59), (.t 60), (.t 63), (.f 45)] false, none⟩,
     ⟨(some 65), .call (.f 47) [(.t 57), (.t 58), (.t 64), (.f 52)] false, none⟩,
     ⟨(some 66), .call (.f 51) [(.t 56), (.t 65)] false, none⟩,
     ⟨none, .store 2 (.t 4) (.t 66), none⟩] [4])
  (.ret)
def c12_4 (b12_3 : C) : C :=
  .seq (.reg [⟨(some 34), .mov (.t 5), none⟩,
     ⟨(some 35), .mov (.t 0), none⟩,
     ⟨(some 36), .call (.f 25) [(.t 35)] false, none⟩,
     ⟨(some 37), .call (.f 48) [(.t 34), (.t 36)] false, none⟩,
     ⟨(some 9), .mov (.t 37), none⟩] [0, 1, 4, 5, 6, 9])
  (.seq (.reg [⟨(some 38), .mov (.t 1), none⟩,
     ⟨(some 39), .mov (.t 0), none⟩,
     ⟨(some 40), .call (.f 49) [(.t 38), (.t 39)] false, none⟩,
     ⟨(some 10), .mov (.t 40), none⟩] [0, 4, 5, 6, 9, 10])
  (.seq (.reg [⟨(some 41), .mov (.t 5), none⟩,
     ⟨(some 42), .mov (.t 9), none⟩,
     ⟨(some 43), .mov (.t 6), none⟩,
     ⟨(some 44), .call (.f 47) [(.t 41), (.t 42), (.t 43), (.f 45)] false, none⟩,
     ⟨(some 11), .mov (.t 44), none⟩] [0, 4, 5, 6, 10, 11])
  (.seq (.reg [⟨(some 45), .mov (.t 5), none⟩,
     ⟨(some 46), .mov (.t 0), none⟩,
     ⟨(some 47), .build [(.int .i64 0), (.int .i64 0), (.int .i64 0)] [(0, 1, (.t 46)), (1, 1, (.k (.int .i64 1))), (2, 1, (.k (.int .i64 0)))], none⟩,
     ⟨(some 48), .call (.f 50) [(.t 45), (.t 47)] false, none⟩,
     ⟨(some 12), .mov (.t 48), none⟩] [4, 5, 6, 10, 11, 12])
  (.seqT (.seq (.reg [⟨(some 49), .mov (.t 10), none⟩] [4, 5, 6, 11, 12, 49])
   (.cond (.t 49) (.seq (.reg [⟨(some 50), .mov (.t 5), none⟩,
       ⟨(some 51), .mov (.t 5), none⟩,
       ⟨(some 52), .mov (.t 11), none⟩,
       ⟨(some 53), .mov (.t 12), none⟩,
       ⟨(some 54), .call (.f 47) [(.t 51), (.t 52), (.t 53), (.f 52)] false, none⟩,
       ⟨(some 55), .call (.f 51) [(.t 50), (.t 54)] false, none⟩,
       ⟨none, .store 2 (.t 4) (.t 55), none⟩] [4])
    (.ret))
   (.skip))) [4, 5, 6, 11, 12] b12_3))))
def b12_4 : C := c12_4 b12_3
def c12_5 (b12_2 b12_4 : C) : C :=
  .seq (.reg [⟨(some 16), .call (.f 46) [] false, none⟩,
     ⟨(some 5), .mov (.t 16), none⟩] [0, 1, 4, 5])
  (.seq (.reg [⟨(some 6), .mov (.k (.int .i64 1)), none⟩] [0, 1, 4, 5, 6])
  (.seqT (.seq (.reg [⟨(some 17), .mov (.t 1), none⟩,
      ⟨(some 18), .len 1 (.t 17), none⟩,
      ⟨(some 19), .mov (.k (.int .i64 0)), none⟩] [0, 1, 4, 5, 6, 17, 18, 19])
   (.block 0 (.loop [0, 1, 4, 5, 6, 17, 18, 19] false b12_2))) [0, 1, 4, 5, 6] b12_4))
def b12_5 : C := c12_5 b12_2 b12_4
def c12 (b12_5 : C) : C :=
  .seq (.reg [⟨(some 4), .new [(.list .full 0 []), (.bool false)], none⟩] [0, 1, 4])
  (.seqT (.seq (.reg [⟨(some 13), .mov (.t 0), none⟩,
      ⟨(some 14), .bin .lss (.t 13) (.k (.int .i64 0)), none⟩] [0, 1, 4, 14])
   (.cond (.t 14) (.seq (.reg [⟨(some 15), .call (.f 10) [(.k (.bool true))] false, none⟩,
       ⟨none, .store 2 (.t 4) (.t 15), none⟩] [4])
    (.ret))
   (.skip))) [0, 1, 4] b12_5)
def b12 : C := c12 b12_5
def f12 : IFn := { body := b12, params := 2, res := [(4, some (some 2))], pop := false, keep := false }
theorem ok12 : okFn Try.prog 12 f12 = true := by kernel_rfl

-- (resolvent/pos.Func).Size
def b13 : C :=
  .seq (.reg [⟨(some 1), .box (.t 0), none⟩,
     ⟨(some 2), .mov (.k (.int .i64 0)), none⟩] [1])
  (.seq (.reg [⟨(some 3), .fieldAddr 0 1 (.t 1), none⟩,
     ⟨(some 4), .load none (.t 3), none⟩,
     ⟨(some 5), .len 1 (.t 4), none⟩,
     ⟨(some 2), .mov (.t 5), none⟩] [2])
  (.ret))
def f13 : IFn := { body := b13, params := 1, res := [(2, none)], pop := false, keep := false }
theorem ok13 : okFn Try.prog 13 f13 = true := by kernel_rfl

-- (resolvent/pos.Func).Eval
def b14_0 : C :=
  .block 1 (.seq (.reg [⟨(some 19), .fieldAddr 0 1 (.t 2), none⟩,
      ⟨(some 20), .load none (.t 19), none⟩,
      ⟨(some 21), .mov (.t 5), none⟩,
      ⟨(some 22), .bin .sub (.t 21) (.k (.int .i64 2)), none⟩,
      ⟨(some 23), .indexAddr 3 (.t 20) (.t 22), none⟩,
      ⟨(some 24), .load (some 3) (.t 23), none⟩,
      ⟨(some 6), .new [(.int .i64 0), (.int .i64 0), (.int .i64 0)], none⟩,
      ⟨none, .store 3 (.t 6) (.t 24), none⟩] [1, 2, 6])
   (.seq (.reg [⟨(some 25), .fieldAddr 1 1 (.t 6), none⟩,
      ⟨(some 26), .load none (.t 25), none⟩,
      ⟨(some 5), .mov (.t 26), none⟩] [1, 2, 5, 6])
   (.seq (.reg [⟨(some 27), .mov (.t 1), none⟩,
      ⟨(some 28), .fieldAddr 0 1 (.t 6), none⟩,
      ⟨(some 29), .load none (.t 28), none⟩,
      ⟨(some 30), .call (.f 49) [(.t 27), (.t 29)] false, none⟩] [1, 2, 5, 6, 30])
   (.cond (.t 30) (.reg [⟨(some 31), .fieldAddr 2 1 (.t 6), none⟩,
      ⟨(some 32), .load none (.t 31), none⟩,
      ⟨(some 5), .mov (.t 32), none⟩] [1, 2, 5])
   (.skip)))))
def c14_1 (b14_0 : C) : C :=
  .seqT (.seq (.reg [⟨(some 17), .mov (.t 5), none⟩,
      ⟨(some 18), .bin .geq (.t 17) (.k (.int .i64 2)), none⟩] [1, 2, 5, 18])
   (.cond (.t 18) (.skip)
   (.exit 0))) [1, 2, 5] b14_0
def b14_1 : C := c14_1 b14_0
def b14_2 : C :=
  .seq (.reg [⟨(some 33), .mov (.t 5), none⟩,
     ⟨(some 34), .bin .eql (.t 33) (.k (.int .i64 1)), none⟩,
     ⟨(some 4), .mov (.t 34), none⟩] [4])
  (.ret)
def c14_3 (b14_1 b14_2 : C) : C :=
  .seq (.reg [⟨(some 13), .fieldAddr 0 1 (.t 2), none⟩,
     ⟨(some 14), .load none (.t 13), none⟩,
     ⟨(some 15), .len 1 (.t 14), none⟩,
     ⟨(some 16), .bin .add (.t 15) (.k (.int .i64 1)), none⟩,
     ⟨(some 5), .mov (.t 16), none⟩] [1, 2, 5])
  (.seqT (.block 0 (.loop [1, 2, 5] false b14_1)) [5] b14_2)
def b14_3 : C := c14_3 b14_1 b14_2
def c14 (b14_3 : C) : C :=
  .seq (.reg [⟨(some 2), .box (.t 0), none⟩,
     ⟨(some 4), .mov (.k (.bool false)), none⟩] [1, 2])
  (.seqT (.seq (.reg [⟨(some 7), .fieldAddr 0 1 (.t 2), none⟩,
      ⟨(some 8), .load none (.t 7), none⟩,
      ⟨(some 9), .len 1 (.t 8), none⟩,
      ⟨(some 10), .bin .eql (.t 9) (.k (.int .i64 0)), none⟩] [1, 2, 10])
   (.cond (.t 10) (.seq (.reg [⟨(some 11), .fieldAddr 1 1 (.t 2), none⟩,
       ⟨(some 12), .load none (.t 11), none⟩,
       ⟨(some 4), .mov (.t 12), none⟩] [4])
    (.ret))
   (.skip))) [1, 2] b14_3)
def b14 : C := c14 b14_3
def f14 : IFn := { body := b14, params := 2, res := [(4, none)], pop := false, keep := false }
theorem ok14 : okFn Try.prog 14 f14 = true := by kernel_rfl

-- resolvent/resolventlaw16.wakes
def d15_0 : List (IOper × Nat × Nat) :=
  [(⟨(some 15), .load (some 2) (.t 1), none⟩, 0, 1),
    (⟨(some 16), .call (.f 19) [(.t 15), (.k (.int .i64 1))] false, none⟩, 0, 0),
    (⟨(some 17), .mov (.t 16), none⟩, 0, 0),
    (⟨(some 18), .load (some 2) (.t 1), some (17, true)⟩, 1, 1),
    (⟨(some 19), .call (.f 19) [(.t 18), (.k (.int .i64 2))] false, some (17, true)⟩, 0, 0),
    (⟨(some 20), .pick (.t 17) (.t 19) (.k (.bool false)), none⟩, 0, 0),
    (⟨(some 21), .mov (.t 20), none⟩, 0, 0),
    (⟨(some 22), .load (some 2) (.t 1), some (21, true)⟩, 2, 1),
    (⟨(some 23), .call (.f 19) [(.t 22), (.k (.int .i64 3))] false, some (21, true)⟩, 0, 0),
    (⟨(some 24), .un .not (.t 23), some (21, true)⟩, 0, 0),
    (⟨(some 25), .pick (.t 21) (.t 24) (.k (.bool false)), none⟩, 0, 0),
    (⟨(some 26), .mov (.t 25), none⟩, 0, 0),
    (⟨(some 27), .load (some 2) (.t 2), some (26, true)⟩, 3, 2),
    (⟨(some 28), .call (.f 25) [(.k (.int .i64 1))] false, some (26, true)⟩, 0, 0),
    (⟨(some 29), .call (.f 22) [(.t 27), (.t 28)] false, some (26, true)⟩, 0, 0),
    (⟨(some 30), .pick (.t 26) (.t 29) (.k (.bool false)), none⟩, 0, 0),
    (⟨(some 31), .mov (.t 30), none⟩, 0, 0),
    (⟨(some 32), .load (some 2) (.t 3), some (31, true)⟩, 5, 2),
    (⟨(some 33), .call (.f 10) [(.k (.bool true))] false, some (31, true)⟩, 0, 0),
    (⟨(some 34), .call (.f 22) [(.t 32), (.t 33)] false, some (31, true)⟩, 0, 0),
    (⟨(some 35), .pick (.t 31) (.t 34) (.k (.bool false)), none⟩, 0, 0),
    (⟨(some 36), .mov (.t 35), none⟩, 0, 0),
    (⟨(some 37), .load (some 2) (.t 3), some (36, true)⟩, 7, 1),
    (⟨(some 38), .call (.f 13) [(.t 37)] false, some (36, true)⟩, 0, 0),
    (⟨(some 39), .bin .eql (.t 38) (.k (.int .i64 0)), some (36, true)⟩, 0, 0),
    (⟨(some 40), .pick (.t 36) (.t 39) (.k (.bool false)), none⟩, 0, 0),
    (⟨(some 41), .mov (.t 40), none⟩, 0, 0),
    (⟨(some 42), .call (.f 25) [(.k (.int .i64 3))] false, some (41, true)⟩, 0, 0),
    (⟨(some 43), .buildSlice 1 [(.int .i64 0)] 1 [(0, (.k (.int .i64 3)))] false, some (41, true)⟩, 0, 0),
    (⟨(some 44), .call (.f 14) [(.t 42), (.t 43)] false, some (41, true)⟩, 0, 0),
    (⟨(some 45), .pick (.t 41) (.t 44) (.k (.bool false)), none⟩, 0, 0),
    (⟨(some 46), .mov (.t 45), none⟩, 0, 0),
    (⟨(some 47), .call (.f 25) [(.k (.int .i64 3))] false, some (46, true)⟩, 0, 0),
    (⟨(some 48), .call (.f 14) [(.t 47), (.k (.list .full 0 []))] false, some (46, true)⟩, 0, 0),
    (⟨(some 49), .un .not (.t 48), some (46, true)⟩, 0, 0),
    (⟨(some 50), .pick (.t 46) (.t 49) (.k (.bool false)), none⟩, 0, 0),
    (⟨(some 0), .mov (.t 50), none⟩, 0, 0)]
def b15 : C :=
  .seq (.reg [⟨(some 0), .mov (.k (.bool false)), none⟩] [])
  (.seq (.reg [⟨(some 4), .call (.f 25) [(.k (.int .i64 0))] false, none⟩,
     ⟨(some 5), .buildSlice 1 [(.int .i64 0)] 2 [(0, (.k (.int .i64 1))), (1, (.k (.int .i64 2)))] false, none⟩,
     ⟨(some 6), .call (.f 12) [(.k (.int .i64 0)), (.t 5)] false, none⟩,
     ⟨(some 7), .call (.f 11) [(.t 4), (.t 6)] false, none⟩,
     ⟨(some 1), .new [(.list .full 0 []), (.bool false)], none⟩,
     ⟨none, .store 2 (.t 1) (.t 7), none⟩] [1])
  (.seq (.reg [⟨(some 8), .call (.f 25) [(.k (.int .i64 0))] false, none⟩,
     ⟨(some 9), .call (.f 25) [(.k (.int .i64 1))] false, none⟩,
     ⟨(some 10), .call (.f 11) [(.t 8), (.t 9)] false, none⟩,
     ⟨(some 11), .call (.f 24) [(.t 10), (.k (.int .i64 0))] false, none⟩,
     ⟨(some 2), .new [(.list .full 0 []), (.bool false)], none⟩,
     ⟨none, .store 2 (.t 2) (.t 11), none⟩] [1, 2])
  (.seq (.reg [⟨(some 12), .call (.f 25) [(.k (.int .i64 0))] false, none⟩,
     ⟨(some 13), .call (.f 10) [(.k (.bool true))] false, none⟩,
     ⟨(some 14), .call (.f 23) [(.t 12), (.t 13)] false, none⟩,
     ⟨(some 3), .new [(.list .full 0 []), (.bool false)], none⟩,
     ⟨none, .store 2 (.t 3) (.t 14), none⟩] [1, 2, 3])
  (.seq (.regD d15_0 [0])
  (.ret)))))
def f15 : IFn := { body := b15, params := 0, res := [(0, none)], pop := false, keep := false }
theorem ok15 : okFn Try.prog 15 f15 = true := by kernel_rfl

-- resolvent/resolventlaw16.makes
def b16_0 : C :=
  .reg [⟨(some 42), .mov (.t 9), none⟩,
    ⟨(some 43), .bin .add (.t 42) (.k (.int .i64 1)), none⟩,
    ⟨(some 9), .mov (.t 43), none⟩] [0, 5, 6, 7, 8, 9]
def c16_1 (b16_0 : C) : C :=
  .seqT (.block 3 (.seq (.reg [⟨(some 44), .fieldAddr 4 1 (.t 8), none⟩,
       ⟨(some 45), .load none (.t 44), none⟩,
       ⟨(some 46), .mov (.t 9), none⟩,
       ⟨(some 47), .indexAddr 1 (.t 45) (.t 46), none⟩,
       ⟨(some 48), .load none (.t 47), none⟩,
       ⟨(some 49), .bin .gtr (.t 48) (.k (.int .i64 5)), none⟩] [0, 5, 6, 7, 8, 9, 49])
    (.cond (.t 49) (.seq (.reg [⟨(some 2), .mov (.k (.list .full 2 [])), none⟩,
        ⟨(some 3), .mov (.k (.list .full 1 [])), none⟩,
        ⟨(some 4), .mov (.k (.bool false)), none⟩] [2, 3, 4])
     (.ret))
    (.skip)))) [0, 5, 6, 7, 8, 9] b16_0
def b16_1 : C := c16_1 b16_0
def c16_2 (b16_1 : C) : C :=
  .seqT (.seq (.reg [⟨(some 37), .mov (.t 9), none⟩,
      ⟨(some 38), .fieldAddr 4 1 (.t 8), none⟩,
      ⟨(some 39), .load none (.t 38), none⟩,
      ⟨(some 40), .len 1 (.t 39), none⟩,
      ⟨(some 41), .bin .lss (.t 37) (.t 40), none⟩] [0, 5, 6, 7, 8, 9, 41])
   (.cond (.t 41) (.skip)
   (.exit 2))) [0, 5, 6, 7, 8, 9] b16_1
def b16_2 : C := c16_2 b16_1
def b16_3 : C :=
  .reg [⟨(some 113), .mov (.t 14), none⟩,
    ⟨(some 114), .bin .add (.t 113) (.k (.int .i64 1)), none⟩,
    ⟨(some 14), .mov (.t 114), none⟩] [0, 5, 6, 7, 8, 12, 13, 14]
def c16_4 (b16_3 : C) : C :=
  .seqT (.block 6 (.seq (.reg [⟨(some 115), .load (some 5) (.t 8), none⟩,
       ⟨(some 116), .mov (.t 6), none⟩,
       ⟨(some 117), .mov (.t 14), none⟩,
       ⟨(some 118), .call (.f 55) [(.t 115), (.t 116), (.t 117)] false, none⟩] [0, 5, 6, 7, 8, 12, 13, 14, 118])
    (.cond (.t 118) (.reg [⟨(some 119), .mov (.t 13), none⟩,
       ⟨(some 120), .mov (.t 14), none⟩,
       ⟨(some 121), .bin .shl (.k (.int .u64 1)) (.t 120), none⟩,
       ⟨(some 122), .bin .or (.t 119) (.t 121), none⟩,
       ⟨(some 13), .mov (.t 122), none⟩] [0, 5, 6, 7, 8, 12, 13, 14])
    (.skip)))) [0, 5, 6, 7, 8, 12, 13, 14] b16_3
def b16_4 : C := c16_4 b16_3
def c16_5 (b16_4 : C) : C :=
  .seqT (.seq (.reg [⟨(some 111), .mov (.t 14), none⟩,
      ⟨(some 112), .bin .lss (.t 111) (.k (.int .i64 64)), none⟩] [0, 5, 6, 7, 8, 12, 13, 14, 112])
   (.cond (.t 112) (.skip)
   (.exit 5))) [0, 5, 6, 7, 8, 12, 13, 14] b16_4
def b16_5 : C := c16_5 b16_4
def b16_6 : C :=
  .seq (.reg [⟨(some 123), .mov (.t 5), none⟩,
     ⟨(some 124), .load (some 2) (.t 12), none⟩,
     ⟨(some 125), .buildSlice 2 [(.list .full 0 []), (.bool false)] 1 [(0, (.t 124))] false, none⟩,
     ⟨(some 126), .append 2 32 (.t 123) (.t 125) 0, none⟩,
     ⟨(some 5), .mov (.t 126), none⟩] [0, 5, 6, 7, 13])
  (.reg [⟨(some 127), .mov (.t 6), none⟩,
    ⟨(some 128), .mov (.t 13), none⟩,
    ⟨(some 129), .buildSlice 1 [(.int .u64 0)] 1 [(0, (.t 128))] false, none⟩,
    ⟨(some 130), .append 1 8 (.t 127) (.t 129) 0, none⟩,
    ⟨(some 6), .mov (.t 130), none⟩] [0, 5, 6, 7])
def c16_7 (b16_5 b16_6 : C) : C :=
  .seq (.reg [⟨(some 13), .mov (.k (.int .u64 0)), none⟩] [0, 5, 6, 7, 8, 12, 13])
  (.seqT (.seq (.reg [⟨(some 14), .mov (.k (.int .i64 0)), none⟩] [0, 5, 6, 7, 8, 12, 13, 14])
   (.block 5 (.loop [0, 5, 6, 7, 8, 12, 13, 14] false b16_5))) [0, 5, 6, 7, 12, 13] b16_6)
def b16_7 : C := c16_7 b16_5 b16_6
def c16_8 (b16_7 : C) : C :=
  .seq (.reg [⟨(some 71), .fieldAddr 1 1 (.t 8), none⟩,
     ⟨(some 72), .load none (.t 71), none⟩,
     ⟨(some 73), .bin .gtr (.t 72) (.k (.int .i64 0)), none⟩,
     ⟨(some 74), .call (.f 10) [(.t 73)] false, none⟩,
     ⟨(some 12), .new [(.list .full 0 []), (.bool false)], none⟩,
     ⟨none, .store 2 (.t 12) (.t 74), none⟩] [0, 5, 6, 7, 8, 10, 11, 12])
  (.seqT (.seq (.reg [⟨(some 75), .fieldAddr 0 1 (.t 8), none⟩,
      ⟨(some 76), .load none (.t 75), none⟩] [0, 5, 6, 7, 8, 10, 11, 12, 76])
   (.block 4 (.seq (.reg [⟨(some 78), .bin .eql (.t 76) (.k (.int .i64 0)), none⟩,
       ⟨(some 77), .mov (.t 78), none⟩] [0, 5, 6, 7, 8, 10, 11, 12, 76, 77])
    (.cond (.t 77) (.reg [⟨(some 79), .fieldAddr 1 1 (.t 8), none⟩,
       ⟨(some 80), .load none (.t 79), none⟩,
       ⟨(some 81), .call (.f 25) [(.t 80)] false, none⟩,
       ⟨none, .store 2 (.t 12) (.t 81), none⟩] [0, 5, 6, 7, 8, 12])
    (.seq (.reg [⟨(some 83), .bin .eql (.t 76) (.k (.int .i64 1)), none⟩,
        ⟨(some 82), .mov (.t 83), none⟩] [0, 5, 6, 7, 8, 10, 11, 12, 76, 82])
     (.cond (.t 82) (.reg [⟨(some 84), .fieldAddr 1 1 (.t 8), none⟩,
        ⟨(some 85), .load none (.t 84), none⟩,
        ⟨(some 86), .fieldAddr 4 1 (.t 8), none⟩,
        ⟨(some 87), .load none (.t 86), none⟩,
        ⟨(some 88), .call (.f 12) [(.t 85), (.t 87)] false, none⟩,
        ⟨none, .store 2 (.t 12) (.t 88), none⟩] [0, 5, 6, 7, 8, 12])
     (.seq (.reg [⟨(some 90), .bin .eql (.t 76) (.k (.int .i64 2)), none⟩,
         ⟨(some 89), .mov (.t 90), none⟩] [0, 5, 6, 7, 8, 10, 11, 12, 76, 89])
      (.cond (.t 89) (.reg [⟨(some 91), .load (some 2) (.t 10), none⟩,
         ⟨(some 92), .load (some 2) (.t 11), none⟩,
         ⟨(some 93), .call (.f 11) [(.t 91), (.t 92)] false, none⟩,
         ⟨none, .store 2 (.t 12) (.t 93), none⟩] [0, 5, 6, 7, 8, 12])
      (.seq (.reg [⟨(some 95), .bin .eql (.t 76) (.k (.int .i64 3)), none⟩,
          ⟨(some 94), .mov (.t 95), none⟩] [0, 5, 6, 7, 8, 10, 11, 12, 76, 94])
       (.cond (.t 94) (.reg [⟨(some 96), .load (some 2) (.t 10), none⟩,
          ⟨(some 97), .load (some 2) (.t 11), none⟩,
          ⟨(some 98), .call (.f 23) [(.t 96), (.t 97)] false, none⟩,
          ⟨none, .store 2 (.t 12) (.t 98), none⟩] [0, 5, 6, 7, 8, 12])
       (.seq (.reg [⟨(some 100), .bin .eql (.t 76) (.k (.int .i64 4)), none⟩,
           ⟨(some 99), .mov (.t 100), none⟩] [0, 5, 6, 7, 8, 10, 12, 76, 99])
        (.cond (.t 99) (.reg [⟨(some 101), .load (some 2) (.t 10), none⟩,
           ⟨(some 102), .fieldAddr 1 1 (.t 8), none⟩,
           ⟨(some 103), .load none (.t 102), none⟩,
           ⟨(some 104), .call (.f 24) [(.t 101), (.t 103)] false, none⟩,
           ⟨none, .store 2 (.t 12) (.t 104), none⟩] [0, 5, 6, 7, 8, 12])
        (.seq (.reg [⟨(some 106), .bin .eql (.t 76) (.k (.int .i64 5)), none⟩,
            ⟨(some 105), .mov (.t 106), none⟩] [0, 5, 6, 7, 8, 10, 12, 105])
         (.cond (.t 105) (.reg [⟨(some 107), .load (some 2) (.t 10), none⟩,
            ⟨(some 108), .fieldAddr 4 1 (.t 8), none⟩,
            ⟨(some 109), .load none (.t 108), none⟩,
            ⟨(some 110), .call (.f 26) [(.t 107), (.t 109)] false, none⟩,
            ⟨none, .store 2 (.t 12) (.t 110), none⟩] [0, 5, 6, 7, 8, 12])
         (.skip))))))))))))))) [0, 5, 6, 7, 8, 12] b16_7)
def b16_8 : C := c16_8 b16_7
def c16_9 (b16_8 : C) : C :=
  .seq (.reg [⟨(some 50), .build [(.list .full 0 []), (.bool false)] [], none⟩,
     ⟨(some 51), .build [(.list .full 0 []), (.bool false)] [], none⟩,
     ⟨(some 10), .new [(.list .full 0 []), (.bool false)], none⟩,
     ⟨(some 11), .new [(.list .full 0 []), (.bool false)], none⟩,
     ⟨none, .store 2 (.t 10) (.t 50), none⟩,
     ⟨none, .store 2 (.t 11) (.t 51), none⟩] [0, 5, 6, 7, 8, 10, 11])
  (.seqT (.seq (.reg [⟨(some 52), .mov (.t 5), none⟩,
      ⟨(some 53), .len 1 (.t 52), none⟩,
      ⟨(some 54), .bin .gtr (.t 53) (.k (.int .i64 0)), none⟩] [0, 5, 6, 7, 8, 10, 11, 54])
   (.cond (.t 54) (.seq (.reg [⟨(some 55), .mov (.t 5), none⟩,
       ⟨(some 56), .fieldAddr 2 1 (.t 8), none⟩,
       ⟨(some 57), .load none (.t 56), none⟩,
       ⟨(some 58), .mov (.t 5), none⟩,
       ⟨(some 59), .len 1 (.t 58), none⟩,
       ⟨(some 60), .call (.f 54) [(.t 57), (.t 59)] false, none⟩,
       ⟨(some 61), .indexAddr 2 (.t 55) (.t 60), none⟩,
       ⟨(some 62), .load (some 2) (.t 61), none⟩,
       ⟨none, .store 2 (.t 10) (.t 62), none⟩] [0, 5, 6, 7, 8, 10, 11])
    (.reg [⟨(some 63), .mov (.t 5), none⟩,
      ⟨(some 64), .fieldAddr 3 1 (.t 8), none⟩,
      ⟨(some 65), .load none (.t 64), none⟩,
      ⟨(some 66), .mov (.t 5), none⟩,
      ⟨(some 67), .len 1 (.t 66), none⟩,
      ⟨(some 68), .call (.f 54) [(.t 65), (.t 67)] false, none⟩,
      ⟨(some 69), .indexAddr 2 (.t 63) (.t 68), none⟩,
      ⟨(some 70), .load (some 2) (.t 69), none⟩,
      ⟨none, .store 2 (.t 11) (.t 70), none⟩] [0, 5, 6, 7, 8, 10, 11]))
   (.skip))) [0, 5, 6, 7, 8, 10, 11] b16_8)
def b16_9 : C := c16_9 b16_8
def c16_10 (b16_2 b16_9 : C) : C :=
  .seqT (.seq (.reg [⟨(some 9), .mov (.k (.int .i64 0)), none⟩] [0, 5, 6, 7, 8, 9])
   (.block 2 (.loop [0, 5, 6, 7, 8, 9] false b16_2))) [0, 5, 6, 7, 8] b16_9
def b16_10 : C := c16_10 b16_2 b16_9
def b16_11 : C :=
  .reg [⟨(some 22), .mov (.t 7), none⟩,
    ⟨(some 23), .bin .add (.t 22) (.k (.int .i64 1)), none⟩,
    ⟨(some 7), .mov (.t 23), none⟩] [0, 5, 6, 7]
def c16_12 (b16_10 b16_11 : C) : C :=
  .seqT (.block 1 (.seq (.reg [⟨(some 24), .mov (.t 0), none⟩,
       ⟨(some 25), .mov (.t 7), none⟩,
       ⟨(some 26), .indexAddr 5 (.t 24) (.t 25), none⟩,
       ⟨(some 27), .load (some 5) (.t 26), none⟩,
       ⟨(some 8), .new [(.int .i64 0), (.int .i64 0), (.int .i64 0), (.int .i64 0), (.list .full 0 [])], none⟩,
       ⟨none, .store 5 (.t 8) (.t 27), none⟩] [0, 5, 6, 7, 8])
    (.seqT (.seq (.reg [⟨(some 28), .fieldAddr 1 1 (.t 8), none⟩,
        ⟨(some 29), .load none (.t 28), none⟩,
        ⟨(some 30), .bin .gtr (.t 29) (.k (.int .i64 5)), none⟩,
        ⟨(some 31), .mov (.t 30), none⟩,
        ⟨(some 32), .fieldAddr 4 1 (.t 8), some (31, false)⟩,
        ⟨(some 33), .load none (.t 32), some (31, false)⟩,
        ⟨(some 34), .len 1 (.t 33), some (31, false)⟩,
        ⟨(some 35), .bin .gtr (.t 34) (.k (.int .i64 8)), some (31, false)⟩,
        ⟨(some 36), .pick (.t 31) (.k (.bool true)) (.t 35), none⟩] [0, 5, 6, 7, 8, 36])
     (.cond (.t 36) (.seq (.reg [⟨(some 2), .mov (.k (.list .full 2 [])), none⟩,
         ⟨(some 3), .mov (.k (.list .full 1 [])), none⟩,
         ⟨(some 4), .mov (.k (.bool false)), none⟩] [2, 3, 4])
      (.ret))
     (.skip))) [0, 5, 6, 7, 8] b16_10))) [0, 5, 6, 7] b16_11
def b16_12 : C := c16_12 b16_10 b16_11
def c16_13 (b16_12 : C) : C :=
  .seqT (.seq (.reg [⟨(some 18), .mov (.t 7), none⟩,
      ⟨(some 19), .mov (.t 0), none⟩,
      ⟨(some 20), .len 1 (.t 19), none⟩,
      ⟨(some 21), .bin .lss (.t 18) (.t 20), none⟩] [0, 5, 6, 7, 21])
   (.cond (.t 21) (.skip)
   (.exit 0))) [0, 5, 6, 7] b16_12
def b16_13 : C := c16_13 b16_12
def b16_14 : C :=
  .seq (.reg [⟨(some 131), .mov (.t 5), none⟩,
     ⟨(some 132), .mov (.t 6), none⟩,
     ⟨(some 2), .mov (.t 131), none⟩,
     ⟨(some 3), .mov (.t 132), none⟩,
     ⟨(some 4), .mov (.k (.bool true)), none⟩] [2, 3, 4])
  (.ret)
def c16_15 (b16_13 b16_14 : C) : C :=
  .seq (.reg [⟨(some 5), .tipNew 2, none⟩] [0, 5])
  (.seq (.reg [⟨(some 6), .tipNew 1, none⟩] [0, 5, 6])
  (.seqT (.seq (.reg [⟨(some 7), .mov (.k (.int .i64 0)), none⟩] [0, 5, 6, 7])
   (.block 0 (.loop [0, 5, 6, 7] false b16_13))) [5, 6] b16_14))
def b16_15 : C := c16_15 b16_13 b16_14
def c16 (b16_15 : C) : C :=
  .seq (.reg [⟨(some 2), .mov (.k (.list .full 2 [])), none⟩,
     ⟨(some 3), .mov (.k (.list .full 1 [])), none⟩,
     ⟨(some 4), .mov (.k (.bool false)), none⟩] [0])
  (.seqT (.seq (.reg [⟨(some 15), .mov (.t 0), none⟩,
      ⟨(some 16), .len 1 (.t 15), none⟩,
      ⟨(some 17), .bin .gtr (.t 16) (.k (.int .i64 20)), none⟩] [0, 17])
   (.cond (.t 17) (.seq (.reg [⟨(some 2), .mov (.k (.list .full 2 [])), none⟩,
       ⟨(some 3), .mov (.k (.list .full 1 [])), none⟩,
       ⟨(some 4), .mov (.k (.bool false)), none⟩] [2, 3, 4])
    (.ret))
   (.skip))) [0] b16_15)
def b16 : C := c16 b16_15
def f16 : IFn := { body := b16, params := 1, res := [(2, none), (3, none), (4, none)], pop := false, keep := false }
theorem ok16 : okFn Try.prog 16 f16 = true := by kernel_rfl

-- (resolvent/pos.Func).Vars
def b17_0 : C :=
  .seq (.block 1 (.seq (.reg [⟨(some 11), .indexAddr 3 (.t 7) (.t 9), none⟩,
       ⟨(some 12), .load (some 3) (.t 11), none⟩,
       ⟨(some 5), .new [(.int .i64 0), (.int .i64 0), (.int .i64 0)], none⟩,
       ⟨none, .store 3 (.t 5) (.t 12), none⟩] [3, 5, 7, 8, 9])
    (.reg [⟨(some 13), .mov (.t 3), none⟩,
      ⟨(some 14), .fieldAddr 0 1 (.t 5), none⟩,
      ⟨(some 15), .load none (.t 14), none⟩,
      ⟨(some 16), .buildSlice 1 [(.int .i64 0)] 1 [(0, (.t 15))] false, none⟩,
      ⟨(some 17), .append 1 8 (.t 13) (.t 16) 1, none⟩,
      ⟨(some 3), .mov (.t 17), none⟩] [3, 7, 8, 9])))
  (.reg [⟨(some 18), .bin .add (.t 9) (.k (.int .i64 1)), none⟩,
    ⟨(some 9), .mov (.t 18), none⟩] [3, 7, 8, 9])
def c17_1 (b17_0 : C) : C :=
  .seq (.reg [⟨(some 10), .bin .lss (.t 9) (.t 8), none⟩] [3, 7, 8, 9, 10])
  (.seqT (.cond (.t 10) (.skip)
   (.exit 0)) [3, 7, 8, 9] b17_0)
def b17_1 : C := c17_1 b17_0
def b17_2 : C :=
  .seq (.reg [⟨(some 19), .mov (.t 3), none⟩,
     ⟨(some 20), .call (.f 56) [(.t 19)] false, none⟩] [3])
  (.seq (.reg [⟨(some 21), .mov (.t 3), none⟩,
     ⟨(some 22), .call (.f 57) [(.t 21)] false, none⟩,
     ⟨(some 2), .mov (.t 22), none⟩] [2])
  (.ret))
def c17 (b17_1 b17_2 : C) : C :=
  .seq (.reg [⟨(some 1), .box (.t 0), none⟩,
     ⟨(some 2), .mov (.k (.list .full 1 [])), none⟩] [1])
  (.seq (.reg [⟨(some 3), .mov (.k (.list .full 1 [])), none⟩] [1, 3])
  (.seqT (.seq (.reg [⟨(some 6), .fieldAddr 0 1 (.t 1), none⟩,
      ⟨(some 7), .load none (.t 6), none⟩,
      ⟨(some 8), .len 1 (.t 7), none⟩,
      ⟨(some 9), .mov (.k (.int .i64 0)), none⟩] [3, 7, 8, 9])
   (.block 0 (.loop [3, 7, 8, 9] false b17_1))) [3] b17_2))
def b17 : C := c17 b17_1 b17_2
def f17 : IFn := { body := b17, params := 1, res := [(2, none)], pop := false, keep := false }
theorem ok17 : okFn Try.prog 17 f17 = true := by kernel_rfl

-- resolvent/resolventlaw16.hangs
def d18_0 : List (IOper × Nat × Nat) :=
  [(⟨(some 10), .mov (.t 0), none⟩, 0, 0),
    (⟨(some 11), .mov (.t 5), none⟩, 0, 0),
    (⟨(some 12), .mov (.t 1), none⟩, 0, 0),
    (⟨(some 13), .bin .shl (.k (.int .i64 1)) (.t 12), none⟩, 0, 0),
    (⟨(some 14), .bin .or (.t 11) (.t 13), none⟩, 0, 0),
    (⟨(some 15), .bin .shr (.t 10) (.t 14), none⟩, 0, 0),
    (⟨(some 16), .bin .and (.t 15) (.k (.int .u64 1)), none⟩, 0, 0),
    (⟨(some 17), .mov (.t 0), none⟩, 0, 0),
    (⟨(some 18), .mov (.t 5), none⟩, 0, 0),
    (⟨(some 19), .mov (.t 1), none⟩, 0, 0),
    (⟨(some 20), .bin .shl (.k (.int .i64 1)) (.t 19), none⟩, 0, 0),
    (⟨(some 21), .bin .andNot (.t 18) (.t 20), none⟩, 0, 0),
    (⟨(some 22), .bin .shr (.t 17) (.t 21), none⟩, 0, 0),
    (⟨(some 23), .bin .and (.t 22) (.k (.int .u64 1)), none⟩, 0, 0),
    (⟨(some 24), .bin .neq (.t 16) (.t 23), none⟩, 0, 0)]
def b18_1 : C :=
  .reg [⟨(some 8), .mov (.t 5), none⟩,
    ⟨(some 9), .bin .add (.t 8) (.k (.int .i64 1)), none⟩,
    ⟨(some 5), .mov (.t 9), none⟩] [0, 1, 5]
def c18_2 (b18_1 : C) : C :=
  .seqT (.block 1 (.seq (.regD d18_0 [0, 1, 5, 24])
    (.cond (.t 24) (.seq (.reg [⟨(some 4), .mov (.k (.bool true)), none⟩] [4])
     (.ret))
    (.skip)))) [0, 1, 5] b18_1
def b18_2 : C := c18_2 b18_1
def c18_3 (b18_2 : C) : C :=
  .seqT (.seq (.reg [⟨(some 6), .mov (.t 5), none⟩,
      ⟨(some 7), .bin .lss (.t 6) (.k (.int .i64 64)), none⟩] [0, 1, 5, 7])
   (.cond (.t 7) (.skip)
   (.exit 0))) [0, 1, 5] b18_2
def b18_3 : C := c18_3 b18_2
def b18_4 : C :=
  .seq (.reg [⟨(some 4), .mov (.k (.bool false)), none⟩] [4])
  (.ret)
def c18 (b18_3 b18_4 : C) : C :=
  .seq (.reg [⟨(some 4), .mov (.k (.bool false)), none⟩] [0, 1])
  (.seqT (.seq (.reg [⟨(some 5), .mov (.k (.int .i64 0)), none⟩] [0, 1, 5])
   (.block 0 (.loop [0, 1, 5] false b18_3))) [] b18_4)
def b18 : C := c18 b18_3 b18_4
def f18 : IFn := { body := b18, params := 2, res := [(4, none)], pop := false, keep := false }
theorem ok18 : okFn Try.prog 18 f18 = true := by kernel_rfl

-- (resolvent/pos.Func).Entails
def d19_0 : List (IOper × Nat × Nat) :=
  [(⟨(some 5), .load (some 2) (.t 2), none⟩, 0, 2),
    (⟨(some 6), .mov (.t 1), none⟩, 0, 0),
    (⟨(some 7), .call (.f 25) [(.t 6)] false, none⟩, 0, 0),
    (⟨(some 8), .call (.f 11) [(.t 5), (.t 7)] false, none⟩, 0, 0),
    (⟨(some 9), .load (some 2) (.t 2), none⟩, 0, 3),
    (⟨(some 10), .call (.f 22) [(.t 8), (.t 9)] false, none⟩, 0, 0),
    (⟨(some 11), .mov (.t 10), none⟩, 0, 0),
    (⟨(some 12), .mov (.t 1), some (11, true)⟩, 0, 0),
    (⟨(some 13), .bin .geq (.t 12) (.k (.int .i64 0)), some (11, true)⟩, 0, 0),
    (⟨(some 14), .pick (.t 11) (.t 13) (.k (.bool false)), none⟩, 0, 0),
    (⟨(some 4), .mov (.t 14), none⟩, 0, 0)]
def b19 : C :=
  .seq (.reg [⟨(some 2), .box (.t 0), none⟩,
     ⟨(some 4), .mov (.k (.bool false)), none⟩] [1, 2])
  (.seq (.regD d19_0 [4])
  (.ret))
def f19 : IFn := { body := b19, params := 2, res := [(4, none)], pop := false, keep := false }
theorem ok19 : okFn Try.prog 19 f19 = true := by kernel_rfl

-- (resolvent/pos.Func).Same
def b22 : C :=
  .seq (.reg [⟨(some 2), .box (.t 0), none⟩,
     ⟨(some 3), .box (.t 1), none⟩,
     ⟨(some 4), .mov (.k (.bool false)), none⟩] [2, 3])
  (.seq (.reg [⟨(some 5), .fieldAddr 1 1 (.t 2), none⟩,
     ⟨(some 6), .load none (.t 5), none⟩,
     ⟨(some 7), .fieldAddr 1 1 (.t 3), none⟩,
     ⟨(some 8), .load none (.t 7), none⟩,
     ⟨(some 9), .eqv ⟨[.b], false⟩ false (.t 6) (.t 8), none⟩,
     ⟨(some 10), .mov (.t 9), none⟩,
     ⟨(some 11), .fieldAddr 0 1 (.t 2), some (10, true)⟩,
     ⟨(some 12), .load none (.t 11), some (10, true)⟩,
     ⟨(some 13), .fieldAddr 0 1 (.t 3), some (10, true)⟩,
     ⟨(some 14), .load none (.t 13), some (10, true)⟩,
     ⟨(some 15), .call (.f 59) [(.t 12), (.t 14)] false, some (10, true)⟩,
     ⟨(some 16), .pick (.t 10) (.t 15) (.k (.bool false)), none⟩,
     ⟨(some 4), .mov (.t 16), none⟩] [4])
  (.ret))
def f22 : IFn := { body := b22, params := 2, res := [(4, none)], pop := false, keep := false }
theorem ok22 : okFn Try.prog 22 f22 = true := by kernel_rfl

-- resolvent/pos.Or
def b23 : C :=
  .seq (.reg [⟨(some 2), .box (.t 0), none⟩,
     ⟨(some 3), .box (.t 1), none⟩,
     ⟨(some 4), .new [(.list .full 0 []), (.bool false)], none⟩] [2, 3, 4])
  (.seq (.reg [⟨(some 5), .load (some 2) (.t 2), none⟩,
     ⟨(some 6), .load (some 2) (.t 3), none⟩,
     ⟨(some 7), .buildSlice 2 [(.list .full 0 []), (.bool false)] 1 [(0, (.t 6))] false, none⟩,
     ⟨(some 8), .call (.f 44) [(.f 52), (.t 5), (.t 7)] false, none⟩,
     ⟨none, .store 2 (.t 4) (.t 8), none⟩] [4])
  (.ret))
def f23 : IFn := { body := b23, params := 2, res := [(4, some (some 2))], pop := false, keep := false }
theorem ok23 : okFn Try.prog 23 f23 = true := by kernel_rfl

-- resolvent/pos.Exists
def b24_0 : C :=
  .seq (.reg [⟨(some 10), .call (.f 46) [] false, none⟩,
     ⟨(some 5), .mov (.t 10), none⟩] [1, 2, 4, 5])
  (.seq (.reg [⟨(some 11), .mov (.t 5), none⟩,
     ⟨(some 12), .load (some 2) (.t 2), none⟩,
     ⟨(some 13), .call (.f 48) [(.t 11), (.t 12)] false, none⟩,
     ⟨(some 6), .mov (.t 13), none⟩] [1, 4, 5, 6])
  (.seq (.reg [⟨(some 14), .mov (.t 5), none⟩,
     ⟨(some 15), .mov (.t 5), none⟩,
     ⟨(some 16), .mov (.t 5), none⟩,
     ⟨(some 17), .mov (.t 6), none⟩,
     ⟨(some 18), .mov (.t 1), none⟩,
     ⟨(some 19), .call (.f 60) [(.t 16), (.t 17), (.t 18), (.k (.bool false))] false, none⟩,
     ⟨(some 20), .mov (.t 5), none⟩,
     ⟨(some 21), .mov (.t 6), none⟩,
     ⟨(some 22), .mov (.t 1), none⟩,
     ⟨(some 23), .call (.f 60) [(.t 20), (.t 21), (.t 22), (.k (.bool true))] false, none⟩,
     ⟨(some 24), .call (.f 47) [(.t 15), (.t 19), (.t 23), (.f 52)] false, none⟩,
     ⟨(some 25), .call (.f 51) [(.t 14), (.t 24)] false, none⟩,
     ⟨none, .store 2 (.t 4) (.t 25), none⟩] [4])
  (.ret)))
def c24 (b24_0 : C) : C :=
  .seq (.reg [⟨(some 2), .box (.t 0), none⟩,
     ⟨(some 4), .new [(.list .full 0 []), (.bool false)], none⟩] [1, 2, 4])
  (.seqT (.seq (.reg [⟨(some 7), .mov (.t 1), none⟩,
      ⟨(some 8), .bin .lss (.t 7) (.k (.int .i64 0)), none⟩] [1, 2, 4, 8])
   (.cond (.t 8) (.seq (.reg [⟨(some 9), .load (some 2) (.t 2), none⟩,
       ⟨none, .store 2 (.t 4) (.t 9), none⟩] [4])
    (.ret))
   (.skip))) [1, 2, 4] b24_0)
def b24 : C := c24 b24_0
def f24 : IFn := { body := b24, params := 2, res := [(4, some (some 2))], pop := false, keep := false }
theorem ok24 : okFn Try.prog 24 f24 = true := by kernel_rfl

-- resolvent/pos.Var
def b25_0 : C :=
  .seq (.reg [⟨(some 6), .mov (.t 0), none⟩,
     ⟨(some 7), .build [(.int .i64 0), (.int .i64 0), (.int .i64 0)] [(0, 1, (.t 6)), (1, 1, (.k (.int .i64 0))), (2, 1, (.k (.int .i64 1)))], none⟩,
     ⟨(some 8), .buildSlice 3 [(.int .i64 0), (.int .i64 0), (.int .i64 0)] 1 [(0, (.t 7))] false, none⟩,
     ⟨(some 9), .build [(.list .full 0 []), (.bool false)] [(0, 1, (.t 8))], none⟩,
     ⟨none, .store 2 (.t 2) (.t 9), none⟩] [2])
  (.ret)
def c25 (b25_0 : C) : C :=
  .seq (.reg [⟨(some 2), .new [(.list .full 0 []), (.bool false)], none⟩] [0, 2])
  (.seqT (.seq (.reg [⟨(some 3), .mov (.t 0), none⟩,
      ⟨(some 4), .bin .lss (.t 3) (.k (.int .i64 0)), none⟩] [0, 2, 4])
   (.cond (.t 4) (.seq (.reg [⟨(some 5), .call (.f 10) [(.k (.bool true))] false, none⟩,
       ⟨none, .store 2 (.t 2) (.t 5), none⟩] [2])
    (.ret))
   (.skip))) [0, 2] b25_0)
def b25 : C := c25 b25_0
def f25 : IFn := { body := b25, params := 1, res := [(2, some (some 2))], pop := false, keep := false }
theorem ok25 : okFn Try.prog 25 f25 = true := by kernel_rfl

-- resolvent/pos.Rename
def b26_0 : C :=
  .reg [⟨(some 43), .mov (.t 5), none⟩,
    ⟨(some 44), .mov (.t 1), none⟩,
    ⟨(some 45), .mov (.t 7), none⟩,
    ⟨(some 46), .indexAddr 1 (.t 44) (.t 45), none⟩,
    ⟨(some 47), .load none (.t 46), none⟩,
    ⟨none, .mapUpdate ⟨[.i], false⟩ (.t 43) (.t 47) (.k (.bool true)), none⟩] [1, 2, 4, 5, 17, 18, 19]
def b26_1 : C :=
  .reg [⟨(some 48), .bin .add (.t 19) (.k (.int .i64 1)), none⟩,
    ⟨(some 19), .mov (.t 48), none⟩] [1, 2, 4, 5, 17, 18, 19]
def c26_2 (b26_0 b26_1 : C) : C :=
  .seqT (.block 1 (.seq (.reg [⟨(some 21), .indexAddr 1 (.t 17) (.t 19), none⟩,
       ⟨(some 22), .load none (.t 21), none⟩,
       ⟨(some 7), .mov (.t 22), none⟩] [1, 2, 4, 5, 7, 17, 18, 19])
    (.seqT (.seq (.reg [⟨(some 23), .mov (.t 7), none⟩,
        ⟨(some 24), .mov (.t 1), none⟩,
        ⟨(some 25), .len 1 (.t 24), none⟩,
        ⟨(some 26), .bin .geq (.t 23) (.t 25), none⟩,
        ⟨(some 27), .mov (.t 26), none⟩,
        ⟨(some 28), .mov (.t 1), some (27, false)⟩,
        ⟨(some 29), .mov (.t 7), some (27, false)⟩,
        ⟨(some 30), .indexAddr 1 (.t 28) (.t 29), some (27, false)⟩,
        ⟨(some 31), .load none (.t 30), some (27, false)⟩,
        ⟨(some 32), .bin .lss (.t 31) (.k (.int .i64 0)), some (27, false)⟩,
        ⟨(some 33), .pick (.t 27) (.k (.bool true)) (.t 32), none⟩,
        ⟨(some 34), .mov (.t 33), none⟩,
        ⟨(some 35), .mov (.t 5), some (34, false)⟩,
        ⟨(some 36), .mov (.t 1), some (34, false)⟩,
        ⟨(some 37), .mov (.t 7), some (34, false)⟩,
        ⟨(some 38), .indexAddr 1 (.t 36) (.t 37), some (34, false)⟩,
        ⟨(some 39), .load none (.t 38), some (34, false)⟩,
        ⟨(some 40), .lookup ⟨[.i], false⟩ (.bool false) false (.t 35) (.t 39), some (34, false)⟩,
        ⟨(some 41), .pick (.t 34) (.k (.bool true)) (.t 40), none⟩] [1, 2, 4, 5, 7, 17, 18, 19, 41])
     (.cond (.t 41) (.seq (.reg [⟨(some 42), .call (.f 10) [(.k (.bool true))] false, none⟩,
         ⟨none, .store 2 (.t 4) (.t 42), none⟩] [4])
      (.ret))
     (.skip))) [1, 2, 4, 5, 7, 17, 18, 19] b26_0))) [1, 2, 4, 5, 17, 18, 19] b26_1
def b26_2 : C := c26_2 b26_0 b26_1
def c26_3 (b26_2 : C) : C :=
  .seq (.reg [⟨(some 20), .bin .lss (.t 19) (.t 18), none⟩] [1, 2, 4, 5, 17, 18, 19, 20])
  (.seqT (.cond (.t 20) (.skip)
   (.exit 0)) [1, 2, 4, 5, 17, 18, 19] b26_2)
def b26_3 : C := c26_3 b26_2
def d26_4 : List (IOper × Nat × Nat) :=
  [(⟨(some 74), .mov (.t 8), none⟩, 0, 0),
    (⟨(some 75), .mov (.t 8), none⟩, 0, 0),
    (⟨(some 76), .mov (.t 12), none⟩, 0, 0),
    (⟨(some 77), .call (.f 53) [(.t 75), (.t 76)] false, none⟩, 0, 0),
    (⟨(some 78), .mov (.t 9), none⟩, 0, 0),
    (⟨(some 79), .fieldAddr 1 1 (.t 11), none⟩, 0, 0),
    (⟨(some 80), .load none (.t 79), none⟩, 0, 2),
    (⟨(some 81), .indexAddr 1 (.t 78) (.t 80), none⟩, 0, 0),
    (⟨(some 82), .load none (.t 81), none⟩, 0, 2),
    (⟨(some 83), .call (.f 47) [(.t 74), (.t 77), (.t 82), (.f 45)] false, none⟩, 0, 0),
    (⟨(some 14), .mov (.t 83), none⟩, 0, 0)]
def b26_5 : C :=
  .seq (.block 3 (.seq (.reg [⟨(some 56), .indexAddr 3 (.t 52) (.t 54), none⟩,
       ⟨(some 57), .load (some 3) (.t 56), none⟩,
       ⟨(some 11), .new [(.int .i64 0), (.int .i64 0), (.int .i64 0)], none⟩,
       ⟨none, .store 3 (.t 11) (.t 57), none⟩] [1, 2, 4, 8, 9, 11, 52, 53, 54])
    (.seq (.reg [⟨(some 58), .mov (.t 8), none⟩,
       ⟨(some 59), .mov (.t 1), none⟩,
       ⟨(some 60), .fieldAddr 0 1 (.t 11), none⟩,
       ⟨(some 61), .load none (.t 60), none⟩,
       ⟨(some 62), .indexAddr 1 (.t 59) (.t 61), none⟩,
       ⟨(some 63), .load none (.t 62), none⟩,
       ⟨(some 64), .call (.f 25) [(.t 63)] false, none⟩,
       ⟨(some 65), .call (.f 48) [(.t 58), (.t 64)] false, none⟩,
       ⟨(some 12), .mov (.t 65), none⟩] [1, 2, 4, 8, 9, 11, 12, 52, 53, 54])
    (.seq (.reg [⟨(some 66), .mov (.t 8), none⟩,
       ⟨(some 67), .mov (.t 12), none⟩,
       ⟨(some 68), .mov (.t 9), none⟩,
       ⟨(some 69), .fieldAddr 2 1 (.t 11), none⟩,
       ⟨(some 70), .load none (.t 69), none⟩,
       ⟨(some 71), .indexAddr 1 (.t 68) (.t 70), none⟩,
       ⟨(some 72), .load none (.t 71), none⟩,
       ⟨(some 73), .call (.f 47) [(.t 66), (.t 67), (.t 72), (.f 45)] false, none⟩,
       ⟨(some 13), .mov (.t 73), none⟩] [1, 2, 4, 8, 9, 11, 12, 13, 52, 53, 54])
    (.seq (.regD d26_4 [1, 2, 4, 8, 9, 13, 14, 52, 53, 54])
    (.reg [⟨(some 84), .mov (.t 9), none⟩,
      ⟨(some 85), .mov (.t 8), none⟩,
      ⟨(some 86), .mov (.t 13), none⟩,
      ⟨(some 87), .mov (.t 14), none⟩,
      ⟨(some 88), .call (.f 47) [(.t 85), (.t 86), (.t 87), (.f 52)] false, none⟩,
      ⟨(some 89), .buildSlice 1 [(.int .i64 0)] 1 [(0, (.t 88))] false, none⟩,
      ⟨(some 90), .append 1 8 (.t 84) (.t 89) 0, none⟩,
      ⟨(some 9), .mov (.t 90), none⟩] [1, 2, 4, 8, 9, 52, 53, 54]))))))
  (.reg [⟨(some 91), .bin .add (.t 54) (.k (.int .i64 1)), none⟩,
    ⟨(some 54), .mov (.t 91), none⟩] [1, 2, 4, 8, 9, 52, 53, 54])
def c26_6 (b26_5 : C) : C :=
  .seq (.reg [⟨(some 55), .bin .lss (.t 54) (.t 53), none⟩] [1, 2, 4, 8, 9, 52, 53, 54, 55])
  (.seqT (.cond (.t 55) (.skip)
   (.exit 2)) [1, 2, 4, 8, 9, 52, 53, 54] b26_5)
def b26_6 : C := c26_6 b26_5
def b26_7 : C :=
  .seq (.reg [⟨(some 97), .mov (.t 8), none⟩,
     ⟨(some 98), .mov (.t 9), none⟩,
     ⟨(some 99), .mov (.t 9), none⟩,
     ⟨(some 100), .len 1 (.t 99), none⟩,
     ⟨(some 101), .bin .sub (.t 100) (.k (.int .i64 1)), none⟩,
     ⟨(some 102), .indexAddr 1 (.t 98) (.t 101), none⟩,
     ⟨(some 103), .load none (.t 102), none⟩,
     ⟨(some 104), .call (.f 51) [(.t 97), (.t 103)] false, none⟩,
     ⟨none, .store 2 (.t 4) (.t 104), none⟩] [4])
  (.ret)
def c26_8 (b26_7 : C) : C :=
  .seqT (.seq (.reg [⟨(some 92), .fieldAddr 0 1 (.t 2), none⟩,
      ⟨(some 93), .load none (.t 92), none⟩,
      ⟨(some 94), .len 1 (.t 93), none⟩,
      ⟨(some 95), .bin .eql (.t 94) (.k (.int .i64 0)), none⟩] [2, 4, 8, 9, 95])
   (.cond (.t 95) (.seq (.reg [⟨(some 96), .load (some 2) (.t 2), none⟩,
       ⟨none, .store 2 (.t 4) (.t 96), none⟩] [4])
    (.ret))
   (.skip))) [4, 8, 9] b26_7
def b26_8 : C := c26_8 b26_7
def c26_9 (b26_6 b26_8 : C) : C :=
  .seq (.reg [⟨(some 49), .call (.f 46) [] false, none⟩,
     ⟨(some 8), .mov (.t 49), none⟩] [1, 2, 4, 8])
  (.seq (.reg [⟨(some 50), .buildSlice 1 [(.int .i64 0)] 2 [(0, (.k (.int .i64 0))), (1, (.k (.int .i64 1)))] false, none⟩,
     ⟨(some 9), .mov (.t 50), none⟩] [1, 2, 4, 8, 9])
  (.seqT (.seq (.reg [⟨(some 51), .fieldAddr 0 1 (.t 2), none⟩,
      ⟨(some 52), .load none (.t 51), none⟩,
      ⟨(some 53), .len 1 (.t 52), none⟩,
      ⟨(some 54), .mov (.k (.int .i64 0)), none⟩] [1, 2, 4, 8, 9, 52, 53, 54])
   (.block 2 (.loop [1, 2, 4, 8, 9, 52, 53, 54] false b26_6))) [2, 4, 8, 9] b26_8))
def b26_9 : C := c26_9 b26_6 b26_8
def c26 (b26_3 b26_9 : C) : C :=
  .seq (.reg [⟨(some 2), .box (.t 0), none⟩,
     ⟨(some 4), .new [(.list .full 0 []), (.bool false)], none⟩] [1, 2, 4])
  (.seq (.reg [⟨(some 15), .makeMap, none⟩,
     ⟨(some 5), .mov (.t 15), none⟩] [1, 2, 4, 5])
  (.seqT (.seq (.reg [⟨(some 16), .load (some 2) (.t 2), none⟩,
      ⟨(some 17), .call (.f 17) [(.t 16)] false, none⟩,
      ⟨(some 18), .len 1 (.t 17), none⟩,
      ⟨(some 19), .mov (.k (.int .i64 0)), none⟩] [1, 2, 4, 5, 17, 18, 19])
   (.block 0 (.loop [1, 2, 4, 5, 17, 18, 19] false b26_3))) [1, 2, 4] b26_9))
def b26 : C := c26 b26_3 b26_9
def f26 : IFn := { body := b26, params := 2, res := [(4, some (some 2))], pop := false, keep := false }
theorem ok26 : okFn Try.prog 26 f26 = true := by kernel_rfl

-- resolvent/pos.join
def b44_0 : C :=
  .seq (.block 1 (.seq (.reg [⟨(some 19), .indexAddr 2 (.t 15) (.t 17), none⟩,
       ⟨(some 20), .load (some 2) (.t 19), none⟩,
       ⟨(some 10), .new [(.list .full 0 []), (.bool false)], none⟩,
       ⟨none, .store 2 (.t 10) (.t 20), none⟩] [0, 6, 7, 8, 10, 15, 16, 17])
    (.reg [⟨(some 21), .mov (.t 7), none⟩,
      ⟨(some 22), .mov (.t 8), none⟩,
      ⟨(some 23), .mov (.t 7), none⟩,
      ⟨(some 24), .load (some 2) (.t 10), none⟩,
      ⟨(some 25), .call (.f 48) [(.t 23), (.t 24)] false, none⟩,
      ⟨(some 26), .mov (.t 0), none⟩,
      ⟨(some 27), .call (.f 47) [(.t 21), (.t 22), (.t 25), (.t 26)] false, none⟩,
      ⟨(some 8), .mov (.t 27), none⟩] [0, 6, 7, 8, 15, 16, 17])))
  (.reg [⟨(some 28), .bin .add (.t 17) (.k (.int .i64 1)), none⟩,
    ⟨(some 17), .mov (.t 28), none⟩] [0, 6, 7, 8, 15, 16, 17])
def c44_1 (b44_0 : C) : C :=
  .seq (.reg [⟨(some 18), .bin .lss (.t 17) (.t 16), none⟩] [0, 6, 7, 8, 15, 16, 17, 18])
  (.seqT (.cond (.t 18) (.skip)
   (.exit 0)) [0, 6, 7, 8, 15, 16, 17] b44_0)
def b44_1 : C := c44_1 b44_0
def b44_2 : C :=
  .seq (.reg [⟨(some 29), .mov (.t 7), none⟩,
     ⟨(some 30), .mov (.t 8), none⟩,
     ⟨(some 31), .call (.f 51) [(.t 29), (.t 30)] false, none⟩,
     ⟨none, .store 2 (.t 6) (.t 31), none⟩] [6])
  (.ret)
def c44 (b44_1 b44_2 : C) : C :=
  .seq (.reg [⟨(some 4), .box (.t 1), none⟩,
     ⟨(some 6), .new [(.list .full 0 []), (.bool false)], none⟩] [0, 2, 4, 6])
  (.seq (.reg [⟨(some 11), .call (.f 46) [] false, none⟩,
     ⟨(some 7), .mov (.t 11), none⟩] [0, 2, 4, 6, 7])
  (.seq (.reg [⟨(some 12), .mov (.t 7), none⟩,
     ⟨(some 13), .load (some 2) (.t 4), none⟩,
     ⟨(some 14), .call (.f 48) [(.t 12), (.t 13)] false, none⟩,
     ⟨(some 8), .mov (.t 14), none⟩] [0, 2, 6, 7, 8])
  (.seqT (.seq (.reg [⟨(some 15), .mov (.t 2), none⟩,
      ⟨(some 16), .len 1 (.t 15), none⟩,
      ⟨(some 17), .mov (.k (.int .i64 0)), none⟩] [0, 6, 7, 8, 15, 16, 17])
   (.block 0 (.loop [0, 6, 7, 8, 15, 16, 17] false b44_1))) [6, 7, 8] b44_2)))
def b44 : C := c44 b44_1 b44_2
def f44 : IFn := { body := b44, params := 3, res := [(6, some (some 2))], pop := false, keep := false }
theorem ok44 : okFn Try.prog 44 f44 = true := by kernel_rfl

-- resolvent/pos.and
def b45_0 : C :=
  .seq (.reg [⟨(some 4), .mov (.k (.int .i64 0)), none⟩,
     ⟨(some 5), .mov (.k (.bool false)), none⟩] [4, 5])
  (.ret)
def c45 (b45_0 : C) : C :=
  .seq (.reg [⟨(some 4), .mov (.k (.int .i64 0)), none⟩,
     ⟨(some 5), .mov (.k (.bool false)), none⟩] [0, 1])
  (.seqT (.block 0 (.seq (.reg [⟨(some 7), .mov (.t 0), none⟩,
       ⟨(some 8), .bin .eql (.t 7) (.k (.int .i64 0)), none⟩,
       ⟨(some 9), .mov (.t 8), none⟩,
       ⟨(some 10), .mov (.t 1), some (9, false)⟩,
       ⟨(some 11), .bin .eql (.t 10) (.k (.int .i64 0)), some (9, false)⟩,
       ⟨(some 12), .pick (.t 9) (.k (.bool true)) (.t 11), none⟩,
       ⟨(some 6), .mov (.t 12), none⟩] [0, 1, 6])
    (.cond (.t 6) (.seq (.reg [⟨(some 4), .mov (.k (.int .i64 0)), none⟩,
        ⟨(some 5), .mov (.k (.bool true)), none⟩] [4, 5])
     (.ret))
    (.seq (.reg [⟨(some 14), .mov (.t 0), none⟩,
        ⟨(some 15), .bin .eql (.t 14) (.k (.int .i64 1)), none⟩,
        ⟨(some 13), .mov (.t 15), none⟩] [0, 1, 13])
     (.cond (.t 13) (.seq (.reg [⟨(some 16), .mov (.t 1), none⟩,
         ⟨(some 4), .mov (.t 16), none⟩,
         ⟨(some 5), .mov (.k (.bool true)), none⟩] [4, 5])
      (.ret))
     (.seq (.reg [⟨(some 18), .mov (.t 1), none⟩,
         ⟨(some 19), .bin .eql (.t 18) (.k (.int .i64 1)), none⟩,
         ⟨(some 20), .mov (.t 19), none⟩,
         ⟨(some 21), .mov (.t 0), some (20, false)⟩,
         ⟨(some 22), .mov (.t 1), some (20, false)⟩,
         ⟨(some 23), .bin .eql (.t 21) (.t 22), some (20, false)⟩,
         ⟨(some 24), .pick (.t 20) (.k (.bool true)) (.t 23), none⟩,
         ⟨(some 17), .mov (.t 24), none⟩] [0, 17])
      (.cond (.t 17) (.seq (.reg [⟨(some 25), .mov (.t 0), none⟩,
          ⟨(some 4), .mov (.t 25), none⟩,
          ⟨(some 5), .mov (.k (.bool true)), none⟩] [4, 5])
       (.ret))
      (.skip)))))))) [] b45_0)
def b45 : C := c45 b45_0
def f45 : IFn := { body := b45, params := 2, res := [(4, none), (5, none)], pop := false, keep := false }
theorem ok45 : okFn Try.prog 45 f45 = true := by kernel_rfl

-- resolvent/pos.open
def b46 : C :=
  .seq (.reg [⟨(some 0), .mov (.k .nilptr), none⟩] [])
  (.seq (.reg [⟨(some 1), .makeMap, none⟩,
     ⟨(some 2), .buildT [(.list .full 0 []), .nilmap] 0 3 [(1, 1, (.t 1))], none⟩,
     ⟨(some 3), .box (.t 2), none⟩,
     ⟨(some 0), .mov (.t 3), none⟩] [0])
  (.ret))
def f46 : IFn := { body := b46, params := 0, res := [(0, none)], pop := false, keep := false }
theorem ok46 : okFn Try.prog 46 f46 = true := by kernel_rfl

-- (*resolvent/pos.table).both
def b47 : C :=
  .seq (.reg [⟨(some 4), .box (.t 0), none⟩,
     ⟨(some 7), .box (.t 3), none⟩,
     ⟨(some 8), .mov (.k (.int .i64 0)), none⟩] [1, 2, 4, 7])
  (.seq (.reg [⟨(some 11), .makeMap, none⟩,
     ⟨(some 9), .new [.nilmap], none⟩,
     ⟨none, .store 1 (.t 9) (.t 11), none⟩] [1, 2, 4, 7, 9])
  (.seq (.reg [⟨(some 10), .new [.nilfunc], none⟩] [1, 2, 4, 7, 9, 10])
  (.seq (.reg [⟨(some 12), .makeFunc 75 [] [(.t 7), (.t 9), (.t 4), (.t 10)], none⟩,
     ⟨none, .store 1 (.t 10) (.t 12), none⟩] [1, 2, 10])
  (.seq (.reg [⟨(some 13), .load none (.t 10), none⟩,
     ⟨(some 14), .mov (.t 1), none⟩,
     ⟨(some 15), .mov (.t 2), none⟩,
     ⟨(some 16), .call (.t 13) [(.t 14), (.t 15)] false, none⟩,
     ⟨(some 8), .mov (.t 16), none⟩] [8])
  (.ret)))))
def f47 : IFn := { body := b47, params := 4, res := [(8, none)], pop := false, keep := false }
theorem ok47 : okFn Try.prog 47 f47 = true := by kernel_rfl

-- (*resolvent/pos.table).put
def d48_0 : List (IOper × Nat × Nat) :=
  [(⟨(some 16), .mov (.t 5), none⟩, 0, 0),
    (⟨(some 17), .mov (.t 0), none⟩, 0, 0),
    (⟨(some 18), .fieldAddr 0 1 (.t 7), none⟩, 0, 0),
    (⟨(some 19), .load none (.t 18), none⟩, 0, 1),
    (⟨(some 20), .mov (.t 5), none⟩, 0, 0),
    (⟨(some 21), .fieldAddr 1 1 (.t 7), none⟩, 0, 0),
    (⟨(some 22), .load none (.t 21), none⟩, 0, 1),
    (⟨(some 23), .indexAddr 1 (.t 20) (.t 22), none⟩, 0, 0),
    (⟨(some 24), .load none (.t 23), none⟩, 0, 1),
    (⟨(some 25), .mov (.t 5), none⟩, 0, 0),
    (⟨(some 26), .fieldAddr 2 1 (.t 7), none⟩, 0, 0),
    (⟨(some 27), .load none (.t 26), none⟩, 0, 1),
    (⟨(some 28), .indexAddr 1 (.t 25) (.t 27), none⟩, 0, 0),
    (⟨(some 29), .load none (.t 28), none⟩, 0, 1),
    (⟨(some 30), .build [(.int .i64 0), (.int .i64 0), (.int .i64 0)] [(0, 1, (.t 19)), (1, 1, (.t 24)), (2, 1, (.t 29))], none⟩, 0, 0),
    (⟨(some 31), .call (.f 50) [(.t 17), (.t 30)] false, none⟩, 0, 0),
    (⟨(some 32), .buildSlice 1 [(.int .i64 0)] 1 [(0, (.t 31))] false, none⟩, 0, 0),
    (⟨(some 33), .append 1 8 (.t 16) (.t 32) 0, none⟩, 0, 0),
    (⟨(some 5), .mov (.t 33), none⟩, 0, 0)]
def b48_1 : C :=
  .seq (.block 1 (.seq (.reg [⟨(some 14), .indexAddr 3 (.t 10) (.t 12), none⟩,
       ⟨(some 15), .load (some 3) (.t 14), none⟩,
       ⟨(some 7), .new [(.int .i64 0), (.int .i64 0), (.int .i64 0)], none⟩,
       ⟨none, .store 3 (.t 7) (.t 15), none⟩] [0, 3, 5, 7, 10, 11, 12])
    (.regD d48_0 [0, 3, 5, 10, 11, 12])))
  (.reg [⟨(some 34), .bin .add (.t 12) (.k (.int .i64 1)), none⟩,
    ⟨(some 12), .mov (.t 34), none⟩] [0, 3, 5, 10, 11, 12])
def c48_2 (b48_1 : C) : C :=
  .seq (.reg [⟨(some 13), .bin .lss (.t 12) (.t 11), none⟩] [0, 3, 5, 10, 11, 12, 13])
  (.seqT (.cond (.t 13) (.skip)
   (.exit 0)) [0, 3, 5, 10, 11, 12] b48_1)
def b48_2 : C := c48_2 b48_1
def b48_3 : C :=
  .seq (.reg [⟨(some 42), .mov (.t 5), none⟩,
     ⟨(some 43), .mov (.t 5), none⟩,
     ⟨(some 44), .len 1 (.t 43), none⟩,
     ⟨(some 45), .bin .sub (.t 44) (.k (.int .i64 1)), none⟩,
     ⟨(some 46), .indexAddr 1 (.t 42) (.t 45), none⟩,
     ⟨(some 47), .load none (.t 46), none⟩,
     ⟨(some 4), .mov (.t 47), none⟩] [4])
  (.ret)
def c48_4 (b48_3 : C) : C :=
  .seqT (.seq (.reg [⟨(some 35), .fieldAddr 0 1 (.t 3), none⟩,
      ⟨(some 36), .load none (.t 35), none⟩,
      ⟨(some 37), .len 1 (.t 36), none⟩,
      ⟨(some 38), .bin .eql (.t 37) (.k (.int .i64 0)), none⟩] [3, 5, 38])
   (.cond (.t 38) (.seq (.reg [⟨(some 39), .fieldAddr 1 1 (.t 3), none⟩,
       ⟨(some 40), .load none (.t 39), none⟩,
       ⟨(some 41), .call (.f 78) [(.t 40)] false, none⟩,
       ⟨(some 4), .mov (.t 41), none⟩] [4])
    (.ret))
   (.skip))) [5] b48_3
def b48_4 : C := c48_4 b48_3
def c48 (b48_2 b48_4 : C) : C :=
  .seq (.reg [⟨(some 3), .box (.t 1), none⟩,
     ⟨(some 4), .mov (.k (.int .i64 0)), none⟩] [0, 3])
  (.seq (.reg [⟨(some 8), .buildSlice 1 [(.int .i64 0)] 2 [(0, (.k (.int .i64 0))), (1, (.k (.int .i64 1)))] false, none⟩,
     ⟨(some 5), .mov (.t 8), none⟩] [0, 3, 5])
  (.seqT (.seq (.reg [⟨(some 9), .fieldAddr 0 1 (.t 3), none⟩,
      ⟨(some 10), .load none (.t 9), none⟩,
      ⟨(some 11), .len 1 (.t 10), none⟩,
      ⟨(some 12), .mov (.k (.int .i64 0)), none⟩] [0, 3, 5, 10, 11, 12])
   (.block 0 (.loop [0, 3, 5, 10, 11, 12] false b48_2))) [3, 5] b48_4))
def b48 : C := c48 b48_2 b48_4
def f48 : IFn := { body := b48, params := 2, res := [(4, none)], pop := false, keep := false }
theorem ok48 : okFn Try.prog 48 f48 = true := by kernel_rfl

-- slices.Contains[[]int,int]
def b49 : C :=
  .seq (.reg [⟨(some 4), .mov (.k (.bool false)), none⟩] [0, 1])
  (.seq (.reg [⟨(some 5), .mov (.t 0), none⟩,
     ⟨(some 6), .mov (.t 1), none⟩,
     ⟨(some 7), .call (.f 79) [(.t 5), (.t 6)] false, none⟩,
     ⟨(some 8), .bin .geq (.t 7) (.k (.int .i64 0)), none⟩,
     ⟨(some 4), .mov (.t 8), none⟩] [4])
  (.ret))
def f49 : IFn := { body := b49, params := 2, res := [(4, none)], pop := false, keep := false }
theorem ok49 : okFn Try.prog 49 f49 = true := by kernel_rfl

-- (*resolvent/pos.table).make
def d50_0 : List (IOper × Nat × Nat) :=
  [(⟨(some 15), .mov (.t 0), none⟩, 0, 0),
    (⟨(some 16), .nilCheck (.t 15), none⟩, 0, 0),
    (⟨(some 17), .fieldAddr 1 1 (.t 16), none⟩, 0, 0),
    (⟨(some 18), .load none (.t 17), none⟩, 0, 1),
    (⟨(some 19), .load (some 3) (.t 3), none⟩, 0, 1),
    (⟨(some 20), .lookup ⟨[.i, .i, .i], true⟩ (.int .i64 0) true (.t 18) (.t 19), none⟩, 0, 1),
    (⟨(some 14), .mov (.t 20), none⟩, 0, 0),
    (⟨(some 21), .extract (.t 14) 0, none⟩, 0, 0),
    (⟨(some 22), .extract (.t 14) 1, none⟩, 0, 0),
    (⟨(some 5), .mov (.t 21), none⟩, 0, 0),
    (⟨(some 6), .mov (.t 22), none⟩, 0, 0)]
def d50_1 : List (IOper × Nat × Nat) :=
  [(⟨(some 25), .mov (.t 0), none⟩, 0, 0),
    (⟨(some 26), .mov (.t 0), none⟩, 0, 0),
    (⟨(some 27), .nilCheck (.t 26), none⟩, 0, 0),
    (⟨(some 28), .fieldAddr 0 1 (.t 27), none⟩, 0, 0),
    (⟨(some 29), .load none (.t 28), none⟩, 0, 1),
    (⟨(some 30), .load (some 3) (.t 3), none⟩, 0, 1),
    (⟨(some 31), .buildSlice 3 [(.int .i64 0), (.int .i64 0), (.int .i64 0)] 1 [(0, (.t 30))] false, none⟩, 0, 0),
    (⟨(some 32), .append 3 24 (.t 29) (.t 31) 0, none⟩, 0, 0),
    (⟨(some 33), .nilCheck (.t 25), none⟩, 0, 0),
    (⟨(some 34), .fieldAddr 0 1 (.t 33), none⟩, 0, 0),
    (⟨none, .store 1 (.t 34) (.t 32), none⟩, 0, 0)]
def d50_2 : List (IOper × Nat × Nat) :=
  [(⟨(some 35), .mov (.t 0), none⟩, 0, 0),
    (⟨(some 36), .nilCheck (.t 35), none⟩, 0, 0),
    (⟨(some 37), .fieldAddr 1 1 (.t 36), none⟩, 0, 0),
    (⟨(some 38), .load none (.t 37), none⟩, 0, 1),
    (⟨(some 39), .load (some 3) (.t 3), none⟩, 0, 1),
    (⟨(some 40), .mov (.t 0), none⟩, 0, 0),
    (⟨(some 41), .nilCheck (.t 40), none⟩, 0, 0),
    (⟨(some 42), .fieldAddr 0 1 (.t 41), none⟩, 0, 0),
    (⟨(some 43), .load none (.t 42), none⟩, 0, 1),
    (⟨(some 44), .len 1 (.t 43), none⟩, 0, 1),
    (⟨(some 45), .bin .add (.t 44) (.k (.int .i64 1)), none⟩, 0, 0),
    (⟨none, .mapUpdate ⟨[.i, .i, .i], true⟩ (.t 38) (.t 39) (.t 45), none⟩, 0, 0)]
def d50_3 : List (IOper × Nat × Nat) :=
  [(⟨(some 46), .mov (.t 0), none⟩, 0, 0),
    (⟨(some 47), .nilCheck (.t 46), none⟩, 0, 0),
    (⟨(some 48), .fieldAddr 1 1 (.t 47), none⟩, 0, 0),
    (⟨(some 49), .load none (.t 48), none⟩, 0, 1),
    (⟨(some 50), .load (some 3) (.t 3), none⟩, 0, 1),
    (⟨(some 51), .lookup ⟨[.i, .i, .i], true⟩ (.int .i64 0) false (.t 49) (.t 50), none⟩, 0, 1),
    (⟨(some 4), .mov (.t 51), none⟩, 0, 0)]
def b50_4 : C :=
  .seq (.regD d50_3 [4])
  (.ret)
def c50_5 (b50_4 : C) : C :=
  .seqT (.seq (.regD d50_0 [0, 3, 6])
   (.seq (.reg [⟨(some 23), .mov (.t 6), none⟩,
      ⟨(some 24), .un .not (.t 23), none⟩] [0, 3, 24])
   (.cond (.t 24) (.seq (.regD d50_1 [0, 3])
    (.regD d50_2 [0, 3]))
   (.skip)))) [0, 3] b50_4
def b50_5 : C := c50_5 b50_4
def c50 (b50_5 : C) : C :=
  .seq (.reg [⟨(some 3), .box (.t 1), none⟩,
     ⟨(some 4), .mov (.k (.int .i64 0)), none⟩] [0, 3])
  (.seqT (.seq (.reg [⟨(some 7), .fieldAddr 1 1 (.t 3), none⟩,
      ⟨(some 8), .load none (.t 7), none⟩,
      ⟨(some 9), .fieldAddr 2 1 (.t 3), none⟩,
      ⟨(some 10), .load none (.t 9), none⟩,
      ⟨(some 11), .bin .eql (.t 8) (.t 10), none⟩] [0, 3, 11])
   (.cond (.t 11) (.seq (.reg [⟨(some 12), .fieldAddr 1 1 (.t 3), none⟩,
       ⟨(some 13), .load none (.t 12), none⟩,
       ⟨(some 4), .mov (.t 13), none⟩] [4])
    (.ret))
   (.skip))) [0, 3] b50_5)
def b50 : C := c50 b50_5
def f50 : IFn := { body := b50, params := 2, res := [(4, none)], pop := false, keep := false }
theorem ok50 : okFn Try.prog 50 f50 = true := by kernel_rfl

-- (*resolvent/pos.table).take
def b51_0 : C :=
  .seq (.reg [⟨(some 24), .load (some 2) (.t 5), none⟩,
     ⟨none, .store 2 (.t 4) (.t 24), none⟩] [4])
  (.ret)
def c51_1 (b51_0 : C) : C :=
  .seq (.reg [⟨(some 5), .new [(.list .full 0 []), (.bool false)], none⟩] [1, 2, 4, 5])
  (.seq (.reg [⟨(some 13), .makeMap, none⟩,
     ⟨none, .mapUpdate ⟨[.i], false⟩ (.t 13) (.k (.int .i64 0)) (.k (.int .i64 0)), none⟩,
     ⟨none, .mapUpdate ⟨[.i], false⟩ (.t 13) (.k (.int .i64 1)) (.k (.int .i64 1)), none⟩,
     ⟨(some 14), .mov (.t 13), none⟩,
     ⟨(some 6), .new [.nilmap], none⟩,
     ⟨none, .store 1 (.t 6) (.t 14), none⟩] [1, 2, 4, 5, 6])
  (.seq (.reg [⟨(some 7), .new [.nilfunc], none⟩] [1, 2, 4, 5, 6, 7])
  (.seq (.reg [⟨(some 15), .makeFunc 80 [] [(.t 6), (.t 2), (.t 7), (.t 5)], none⟩,
     ⟨none, .store 1 (.t 7) (.t 15), none⟩] [1, 4, 5, 7])
  (.seq (.reg [⟨(some 16), .load none (.t 7), none⟩,
     ⟨(some 17), .mov (.t 1), none⟩,
     ⟨(some 18), .call (.t 16) [(.t 17)] false, none⟩] [4, 5])
  (.seqT (.seq (.reg [⟨(some 19), .fieldAddr 0 1 (.t 5), none⟩,
      ⟨(some 20), .load none (.t 19), none⟩,
      ⟨(some 21), .len 1 (.t 20), none⟩,
      ⟨(some 22), .bin .gtr (.t 21) (.k (.int .i64 256)), none⟩] [4, 5, 22])
   (.cond (.t 22) (.seq (.reg [⟨(some 23), .call (.f 10) [(.k (.bool true))] false, none⟩,
       ⟨none, .store 2 (.t 4) (.t 23), none⟩] [4])
    (.ret))
   (.skip))) [4, 5] b51_0)))))
def b51_1 : C := c51_1 b51_0
def c51 (b51_1 : C) : C :=
  .seq (.reg [⟨(some 2), .box (.t 0), none⟩,
     ⟨(some 4), .new [(.list .full 0 []), (.bool false)], none⟩] [1, 2, 4])
  (.seqT (.seq (.reg [⟨(some 8), .mov (.t 1), none⟩,
      ⟨(some 9), .bin .lss (.t 8) (.k (.int .i64 2)), none⟩] [1, 2, 4, 9])
   (.cond (.t 9) (.seq (.reg [⟨(some 10), .mov (.t 1), none⟩,
       ⟨(some 11), .bin .eql (.t 10) (.k (.int .i64 1)), none⟩,
       ⟨(some 12), .build [(.list .full 0 []), (.bool false)] [(1, 1, (.t 11))], none⟩,
       ⟨none, .store 2 (.t 4) (.t 12), none⟩] [4])
    (.ret))
   (.skip))) [1, 2, 4] b51_1)
def b51 : C := c51 b51_1
def f51 : IFn := { body := b51, params := 2, res := [(4, some (some 2))], pop := false, keep := false }
theorem ok51 : okFn Try.prog 51 f51 = true := by kernel_rfl

-- resolvent/pos.or
def b52_0 : C :=
  .seq (.reg [⟨(some 4), .mov (.k (.int .i64 0)), none⟩,
     ⟨(some 5), .mov (.k (.bool false)), none⟩] [4, 5])
  (.ret)
def c52 (b52_0 : C) : C :=
  .seq (.reg [⟨(some 4), .mov (.k (.int .i64 0)), none⟩,
     ⟨(some 5), .mov (.k (.bool false)), none⟩] [0, 1])
  (.seqT (.block 0 (.seq (.reg [⟨(some 7), .mov (.t 0), none⟩,
       ⟨(some 8), .bin .eql (.t 7) (.k (.int .i64 1)), none⟩,
       ⟨(some 9), .mov (.t 8), none⟩,
       ⟨(some 10), .mov (.t 1), some (9, false)⟩,
       ⟨(some 11), .bin .eql (.t 10) (.k (.int .i64 1)), some (9, false)⟩,
       ⟨(some 12), .pick (.t 9) (.k (.bool true)) (.t 11), none⟩,
       ⟨(some 6), .mov (.t 12), none⟩] [0, 1, 6])
    (.cond (.t 6) (.seq (.reg [⟨(some 4), .mov (.k (.int .i64 1)), none⟩,
        ⟨(some 5), .mov (.k (.bool true)), none⟩] [4, 5])
     (.ret))
    (.seq (.reg [⟨(some 14), .mov (.t 0), none⟩,
        ⟨(some 15), .bin .eql (.t 14) (.k (.int .i64 0)), none⟩,
        ⟨(some 13), .mov (.t 15), none⟩] [0, 1, 13])
     (.cond (.t 13) (.seq (.reg [⟨(some 16), .mov (.t 1), none⟩,
         ⟨(some 4), .mov (.t 16), none⟩,
         ⟨(some 5), .mov (.k (.bool true)), none⟩] [4, 5])
      (.ret))
     (.seq (.reg [⟨(some 18), .mov (.t 1), none⟩,
         ⟨(some 19), .bin .eql (.t 18) (.k (.int .i64 0)), none⟩,
         ⟨(some 20), .mov (.t 19), none⟩,
         ⟨(some 21), .mov (.t 0), some (20, false)⟩,
         ⟨(some 22), .mov (.t 1), some (20, false)⟩,
         ⟨(some 23), .bin .eql (.t 21) (.t 22), some (20, false)⟩,
         ⟨(some 24), .pick (.t 20) (.k (.bool true)) (.t 23), none⟩,
         ⟨(some 17), .mov (.t 24), none⟩] [0, 17])
      (.cond (.t 17) (.seq (.reg [⟨(some 25), .mov (.t 0), none⟩,
          ⟨(some 4), .mov (.t 25), none⟩,
          ⟨(some 5), .mov (.k (.bool true)), none⟩] [4, 5])
       (.ret))
      (.skip)))))))) [] b52_0)
def b52 : C := c52 b52_0
def f52 : IFn := { body := b52, params := 2, res := [(4, none), (5, none)], pop := false, keep := false }
theorem ok52 : okFn Try.prog 52 f52 = true := by kernel_rfl

-- (*resolvent/pos.table).opposite
def d53_0 : List (IOper × Nat × Nat) :=
  [(⟨(some 23), .mov (.t 0), none⟩, 0, 0),
    (⟨(some 24), .fieldAddr 0 1 (.t 5), none⟩, 0, 0),
    (⟨(some 25), .load none (.t 24), none⟩, 0, 2),
    (⟨(some 26), .mov (.t 6), none⟩, 0, 0),
    (⟨(some 27), .mov (.t 0), none⟩, 0, 0),
    (⟨(some 28), .fieldAddr 2 1 (.t 5), none⟩, 0, 0),
    (⟨(some 29), .load none (.t 28), none⟩, 0, 1),
    (⟨(some 30), .call (.f 53) [(.t 27), (.t 29)] false, none⟩, 0, 0),
    (⟨(some 31), .build [(.int .i64 0), (.int .i64 0), (.int .i64 0)] [(0, 1, (.t 25)), (1, 1, (.t 26)), (2, 1, (.t 30))], none⟩, 0, 0),
    (⟨(some 32), .call (.f 50) [(.t 23), (.t 31)] false, none⟩, 0, 0),
    (⟨(some 4), .mov (.t 32), none⟩, 0, 0)]
def b53_1 : C :=
  .seq (.reg [⟨(some 11), .mov (.t 0), none⟩,
     ⟨(some 12), .nilCheck (.t 11), none⟩,
     ⟨(some 13), .fieldAddr 0 1 (.t 12), none⟩,
     ⟨(some 14), .load none (.t 13), none⟩,
     ⟨(some 15), .mov (.t 1), none⟩,
     ⟨(some 16), .bin .sub (.t 15) (.k (.int .i64 2)), none⟩,
     ⟨(some 17), .indexAddr 3 (.t 14) (.t 16), none⟩,
     ⟨(some 18), .load (some 3) (.t 17), none⟩,
     ⟨(some 5), .new [(.int .i64 0), (.int .i64 0), (.int .i64 0)], none⟩,
     ⟨none, .store 3 (.t 5) (.t 18), none⟩] [0, 5])
  (.seq (.reg [⟨(some 19), .mov (.t 0), none⟩,
     ⟨(some 20), .fieldAddr 1 1 (.t 5), none⟩,
     ⟨(some 21), .load none (.t 20), none⟩,
     ⟨(some 22), .call (.f 53) [(.t 19), (.t 21)] false, none⟩,
     ⟨(some 6), .mov (.t 22), none⟩] [0, 5, 6])
  (.seq (.regD d53_0 [4])
  (.ret)))
def c53 (b53_1 : C) : C :=
  .seq (.reg [⟨(some 4), .mov (.k (.int .i64 0)), none⟩] [0, 1])
  (.seqT (.seq (.reg [⟨(some 7), .mov (.t 1), none⟩,
      ⟨(some 8), .bin .lss (.t 7) (.k (.int .i64 2)), none⟩] [0, 1, 8])
   (.cond (.t 8) (.seq (.reg [⟨(some 9), .mov (.t 1), none⟩,
       ⟨(some 10), .bin .sub (.k (.int .i64 1)) (.t 9), none⟩,
       ⟨(some 4), .mov (.t 10), none⟩] [4])
    (.ret))
   (.skip))) [0, 1] b53_1)
def b53 : C := c53 b53_1
def f53 : IFn := { body := b53, params := 2, res := [(4, none)], pop := false, keep := false }
theorem ok53 : okFn Try.prog 53 f53 = true := by kernel_rfl

-- resolvent/resolventlaw16.place
def b54 : C :=
  .seq (.reg [⟨(some 4), .mov (.k (.int .i64 0)), none⟩] [0, 1])
  (.seq (.reg [⟨(some 5), .mov (.t 0), none⟩,
     ⟨(some 6), .mov (.t 1), none⟩,
     ⟨(some 7), .bin .rem (.t 5) (.t 6), none⟩,
     ⟨(some 8), .mov (.t 1), none⟩,
     ⟨(some 9), .bin .add (.t 7) (.t 8), none⟩,
     ⟨(some 10), .mov (.t 1), none⟩,
     ⟨(some 11), .bin .rem (.t 9) (.t 10), none⟩,
     ⟨(some 4), .mov (.t 11), none⟩] [4])
  (.ret))
def f54 : IFn := { body := b54, params := 2, res := [(4, none)], pop := false, keep := false }
theorem ok54 : okFn Try.prog 54 f54 = true := by kernel_rfl

-- resolvent/resolventlaw16.holds
def b55_0 : C :=
  .seq (.block 2 (.reg [⟨(some 35), .mov (.t 8), none⟩,
      ⟨(some 36), .mov (.t 35), none⟩,
      ⟨(some 37), .fieldAddr 4 1 (.t 3), some (36, true)⟩,
      ⟨(some 38), .load none (.t 37), some (36, true)⟩,
      ⟨(some 39), .mov (.t 9), some (36, true)⟩,
      ⟨(some 40), .indexAddr 1 (.t 38) (.t 39), some (36, true)⟩,
      ⟨(some 41), .load none (.t 40), some (36, true)⟩,
      ⟨(some 42), .bin .lss (.t 41) (.k (.int .i64 0)), some (36, true)⟩,
      ⟨(some 43), .mov (.t 42), some (36, true)⟩,
      ⟨(some 44), .mov (.t 2), some (43, false)⟩,
      ⟨(some 45), .fieldAddr 4 1 (.t 3), some (43, false)⟩,
      ⟨(some 46), .load none (.t 45), some (43, false)⟩,
      ⟨(some 47), .mov (.t 9), some (43, false)⟩,
      ⟨(some 48), .indexAddr 1 (.t 46) (.t 47), some (43, false)⟩,
      ⟨(some 49), .load none (.t 48), some (43, false)⟩,
      ⟨(some 50), .call (.f 58) [(.t 44), (.t 49)] false, some (43, false)⟩,
      ⟨(some 51), .pick (.t 43) (.k (.bool true)) (.t 50), some (36, true)⟩,
      ⟨(some 52), .pick (.t 36) (.t 51) (.k (.bool false)), none⟩,
      ⟨(some 8), .mov (.t 52), none⟩] [2, 3, 8, 9]))
  (.reg [⟨(some 33), .mov (.t 9), none⟩,
    ⟨(some 34), .bin .add (.t 33) (.k (.int .i64 1)), none⟩,
    ⟨(some 9), .mov (.t 34), none⟩] [2, 3, 8, 9])
def c55_1 (b55_0 : C) : C :=
  .seqT (.seq (.reg [⟨(some 28), .mov (.t 9), none⟩,
      ⟨(some 29), .fieldAddr 4 1 (.t 3), none⟩,
      ⟨(some 30), .load none (.t 29), none⟩,
      ⟨(some 31), .len 1 (.t 30), none⟩,
      ⟨(some 32), .bin .lss (.t 28) (.t 31), none⟩] [2, 3, 8, 9, 32])
   (.cond (.t 32) (.skip)
   (.exit 1))) [2, 3, 8, 9] b55_0
def b55_1 : C := c55_1 b55_0
def b55_2 : C :=
  .seq (.reg [⟨(some 53), .fieldAddr 1 1 (.t 3), none⟩,
     ⟨(some 54), .load none (.t 53), none⟩,
     ⟨(some 55), .bin .lss (.t 54) (.k (.int .i64 0)), none⟩,
     ⟨(some 56), .mov (.t 55), none⟩,
     ⟨(some 57), .mov (.t 2), some (56, false)⟩,
     ⟨(some 58), .fieldAddr 1 1 (.t 3), some (56, false)⟩,
     ⟨(some 59), .load none (.t 58), some (56, false)⟩,
     ⟨(some 60), .call (.f 58) [(.t 57), (.t 59)] false, some (56, false)⟩,
     ⟨(some 61), .mov (.t 8), some (56, false)⟩,
     ⟨(some 62), .eqv ⟨[.b], false⟩ false (.t 60) (.t 61), some (56, false)⟩,
     ⟨(some 63), .pick (.t 56) (.k (.bool true)) (.t 62), none⟩,
     ⟨(some 6), .mov (.t 63), none⟩] [6])
  (.ret)
def d55_3 : List (IOper × Nat × Nat) :=
  [(⟨(some 112), .indexAddrA 2 1 (.t 7) (.k (.int .i64 0)), none⟩, 0, 0),
    (⟨(some 113), .load none (.t 112), none⟩, 0, 1),
    (⟨(some 114), .mov (.t 2), none⟩, 0, 0),
    (⟨(some 115), .fieldAddr 1 1 (.t 3), none⟩, 0, 0),
    (⟨(some 116), .load none (.t 115), none⟩, 0, 1),
    (⟨(some 117), .bin .shl (.k (.int .i64 1)) (.t 116), none⟩, 0, 0),
    (⟨(some 118), .bin .or (.t 114) (.t 117), none⟩, 0, 0),
    (⟨(some 119), .bin .shr (.t 113) (.t 118), none⟩, 0, 0),
    (⟨(some 120), .bin .and (.t 119) (.k (.int .u64 1)), none⟩, 0, 0),
    (⟨(some 121), .bin .eql (.t 120) (.k (.int .u64 1)), none⟩, 0, 0),
    (⟨(some 122), .mov (.t 121), none⟩, 0, 0),
    (⟨(some 123), .indexAddrA 2 1 (.t 7) (.k (.int .i64 0)), some (122, false)⟩, 0, 0),
    (⟨(some 124), .load none (.t 123), some (122, false)⟩, 0, 1),
    (⟨(some 125), .mov (.t 2), some (122, false)⟩, 0, 0),
    (⟨(some 126), .fieldAddr 1 1 (.t 3), some (122, false)⟩, 0, 0),
    (⟨(some 127), .load none (.t 126), some (122, false)⟩, 0, 1),
    (⟨(some 128), .bin .shl (.k (.int .i64 1)) (.t 127), some (122, false)⟩, 0, 0),
    (⟨(some 129), .bin .andNot (.t 125) (.t 128), some (122, false)⟩, 0, 0),
    (⟨(some 130), .bin .shr (.t 124) (.t 129), some (122, false)⟩, 0, 0),
    (⟨(some 131), .bin .and (.t 130) (.k (.int .u64 1)), some (122, false)⟩, 0, 0),
    (⟨(some 132), .bin .eql (.t 131) (.k (.int .u64 1)), some (122, false)⟩, 0, 0),
    (⟨(some 133), .pick (.t 122) (.k (.bool true)) (.t 132), none⟩, 0, 0),
    (⟨(some 6), .mov (.t 133), none⟩, 0, 0)]
def b55_4 : C :=
  .seq (.regD d55_3 [6])
  (.ret)
def b55_5 : C :=
  .seq (.reg [⟨(some 141), .fieldAddr 1 1 (.t 3), none⟩,
     ⟨(some 142), .load none (.t 141), none⟩,
     ⟨(some 143), .bin .gtr (.t 142) (.k (.int .i64 0)), none⟩,
     ⟨(some 6), .mov (.t 143), none⟩] [6])
  (.ret)
def c55 (b55_1 b55_2 b55_4 b55_5 : C) : C :=
  .seq (.reg [⟨(some 3), .box (.t 0), none⟩,
     ⟨(some 6), .mov (.k (.bool false)), none⟩] [1, 2, 3])
  (.seq (.reg [⟨(some 10), .load (some 5) (.t 3), none⟩,
     ⟨(some 11), .mov (.t 1), none⟩,
     ⟨(some 12), .call (.f 81) [(.t 10), (.t 11)] false, none⟩,
     ⟨(some 7), .new [(.int .u64 0), (.int .u64 0)], none⟩,
     ⟨none, .store 2 (.t 7) (.t 12), none⟩] [2, 3, 7])
  (.seqT (.seq (.reg [⟨(some 13), .fieldAddr 0 1 (.t 3), none⟩,
      ⟨(some 14), .load none (.t 13), none⟩] [2, 3, 7, 14])
   (.block 0 (.seq (.reg [⟨(some 16), .bin .eql (.t 14) (.k (.int .i64 0)), none⟩,
       ⟨(some 15), .mov (.t 16), none⟩] [2, 3, 7, 14, 15])
    (.cond (.t 15) (.seq (.reg [⟨(some 17), .fieldAddr 1 1 (.t 3), none⟩,
        ⟨(some 18), .load none (.t 17), none⟩,
        ⟨(some 19), .bin .lss (.t 18) (.k (.int .i64 0)), none⟩,
        ⟨(some 20), .mov (.t 19), none⟩,
        ⟨(some 21), .mov (.t 2), some (20, false)⟩,
        ⟨(some 22), .fieldAddr 1 1 (.t 3), some (20, false)⟩,
        ⟨(some 23), .load none (.t 22), some (20, false)⟩,
        ⟨(some 24), .call (.f 58) [(.t 21), (.t 23)] false, some (20, false)⟩,
        ⟨(some 25), .pick (.t 20) (.k (.bool true)) (.t 24), none⟩,
        ⟨(some 6), .mov (.t 25), none⟩] [6])
     (.ret))
    (.seq (.reg [⟨(some 27), .bin .eql (.t 14) (.k (.int .i64 1)), none⟩,
        ⟨(some 26), .mov (.t 27), none⟩] [2, 3, 7, 14, 26])
     (.cond (.t 26) (.seq (.reg [⟨(some 8), .mov (.k (.bool true)), none⟩] [2, 3, 8])
      (.seqT (.seq (.reg [⟨(some 9), .mov (.k (.int .i64 0)), none⟩] [2, 3, 8, 9])
       (.block 1 (.loop [2, 3, 8, 9] false b55_1))) [2, 3, 8] b55_2))
     (.seq (.reg [⟨(some 65), .bin .eql (.t 14) (.k (.int .i64 2)), none⟩,
         ⟨(some 64), .mov (.t 65), none⟩] [2, 3, 7, 14, 64])
      (.cond (.t 64) (.seq (.reg [⟨(some 66), .indexAddrA 2 1 (.t 7) (.k (.int .i64 0)), none⟩,
          ⟨(some 67), .load none (.t 66), none⟩,
          ⟨(some 68), .mov (.t 2), none⟩,
          ⟨(some 69), .bin .shr (.t 67) (.t 68), none⟩,
          ⟨(some 70), .bin .and (.t 69) (.k (.int .u64 1)), none⟩,
          ⟨(some 71), .bin .eql (.t 70) (.k (.int .u64 1)), none⟩,
          ⟨(some 72), .mov (.t 71), none⟩,
          ⟨(some 73), .indexAddrA 2 1 (.t 7) (.k (.int .i64 1)), some (72, true)⟩,
          ⟨(some 74), .load none (.t 73), some (72, true)⟩,
          ⟨(some 75), .mov (.t 2), some (72, true)⟩,
          ⟨(some 76), .bin .shr (.t 74) (.t 75), some (72, true)⟩,
          ⟨(some 77), .bin .and (.t 76) (.k (.int .u64 1)), some (72, true)⟩,
          ⟨(some 78), .bin .eql (.t 77) (.k (.int .u64 1)), some (72, true)⟩,
          ⟨(some 79), .pick (.t 72) (.t 78) (.k (.bool false)), none⟩,
          ⟨(some 6), .mov (.t 79), none⟩] [6])
       (.ret))
      (.seq (.reg [⟨(some 81), .bin .eql (.t 14) (.k (.int .i64 3)), none⟩,
          ⟨(some 80), .mov (.t 81), none⟩] [2, 3, 7, 14, 80])
       (.cond (.t 80) (.seq (.reg [⟨(some 82), .indexAddrA 2 1 (.t 7) (.k (.int .i64 0)), none⟩,
           ⟨(some 83), .load none (.t 82), none⟩,
           ⟨(some 84), .mov (.t 2), none⟩,
           ⟨(some 85), .bin .shr (.t 83) (.t 84), none⟩,
           ⟨(some 86), .bin .and (.t 85) (.k (.int .u64 1)), none⟩,
           ⟨(some 87), .bin .eql (.t 86) (.k (.int .u64 1)), none⟩,
           ⟨(some 88), .mov (.t 87), none⟩,
           ⟨(some 89), .indexAddrA 2 1 (.t 7) (.k (.int .i64 1)), some (88, false)⟩,
           ⟨(some 90), .load none (.t 89), some (88, false)⟩,
           ⟨(some 91), .mov (.t 2), some (88, false)⟩,
           ⟨(some 92), .bin .shr (.t 90) (.t 91), some (88, false)⟩,
           ⟨(some 93), .bin .and (.t 92) (.k (.int .u64 1)), some (88, false)⟩,
           ⟨(some 94), .bin .eql (.t 93) (.k (.int .u64 1)), some (88, false)⟩,
           ⟨(some 95), .pick (.t 88) (.k (.bool true)) (.t 94), none⟩,
           ⟨(some 6), .mov (.t 95), none⟩] [6])
        (.ret))
       (.seq (.reg [⟨(some 97), .bin .eql (.t 14) (.k (.int .i64 4)), none⟩,
           ⟨(some 96), .mov (.t 97), none⟩] [2, 3, 7, 14, 96])
        (.cond (.t 96) (.seqT (.seq (.reg [⟨(some 98), .fieldAddr 1 1 (.t 3), none⟩,
             ⟨(some 99), .load none (.t 98), none⟩,
             ⟨(some 100), .bin .lss (.t 99) (.k (.int .i64 0)), none⟩,
             ⟨(some 101), .mov (.t 100), none⟩,
             ⟨(some 102), .fieldAddr 1 1 (.t 3), some (101, false)⟩,
             ⟨(some 103), .load none (.t 102), some (101, false)⟩,
             ⟨(some 104), .bin .gtr (.t 103) (.k (.int .i64 5)), some (101, false)⟩,
             ⟨(some 105), .pick (.t 101) (.k (.bool true)) (.t 104), none⟩] [2, 3, 7, 105])
          (.cond (.t 105) (.seq (.reg [⟨(some 106), .indexAddrA 2 1 (.t 7) (.k (.int .i64 0)), none⟩,
              ⟨(some 107), .load none (.t 106), none⟩,
              ⟨(some 108), .mov (.t 2), none⟩,
              ⟨(some 109), .bin .shr (.t 107) (.t 108), none⟩,
              ⟨(some 110), .bin .and (.t 109) (.k (.int .u64 1)), none⟩,
              ⟨(some 111), .bin .eql (.t 110) (.k (.int .u64 1)), none⟩,
              ⟨(some 6), .mov (.t 111), none⟩] [6])
           (.ret))
          (.skip))) [2, 3, 7] b55_4)
        (.seq (.reg [⟨(some 135), .bin .eql (.t 14) (.k (.int .i64 5)), none⟩,
            ⟨(some 134), .mov (.t 135), none⟩] [2, 3, 7, 134])
         (.cond (.t 134) (.seq (.reg [⟨(some 136), .load (some 5) (.t 3), none⟩,
             ⟨(some 137), .indexAddrA 2 1 (.t 7) (.k (.int .i64 0)), none⟩,
             ⟨(some 138), .load none (.t 137), none⟩,
             ⟨(some 139), .mov (.t 2), none⟩,
             ⟨(some 140), .call (.f 82) [(.t 136), (.t 138), (.t 139)] false, none⟩,
             ⟨(some 6), .mov (.t 140), none⟩] [6])
          (.ret))
         (.skip))))))))))))))) [3] b55_5))
def b55 : C := c55 b55_1 b55_2 b55_4 b55_5
def f55 : IFn := { body := b55, params := 3, res := [(6, none)], pop := false, keep := false }
theorem ok55 : okFn Try.prog 55 f55 = true := by kernel_rfl

-- slices.Sort[[]int,int]
def b56 : C :=
  .seq (.reg [⟨(some 3), .mov (.t 0), none⟩,
     ⟨(some 4), .len 1 (.t 3), none⟩,
     ⟨(some 2), .mov (.t 4), none⟩] [0, 2])
  (.reg [⟨(some 5), .mov (.t 0), none⟩,
    ⟨(some 6), .mov (.t 2), none⟩,
    ⟨(some 7), .mov (.t 2), none⟩,
    ⟨(some 8), .conv .u64 (.t 7), none⟩,
    ⟨(some 9), .call (.f 84) [(.t 8)] false, none⟩,
    ⟨(some 10), .call (.f 83) [(.t 5), (.k (.int .i64 0)), (.t 6), (.t 9)] false, none⟩] [])
def f56 : IFn := { body := b56, params := 1, res := [], pop := false, keep := false }
theorem ok56o : okFn Try.prog 56 { f56 with orc := sortO } = true := by kernel_rfl
-- slices.Compact[[]int,int]
def d57_0 : List (IOper × Nat × Nat) :=
  [(⟨(some 16), .mov (.t 0), none⟩, 0, 0),
    (⟨(some 17), .mov (.t 3), none⟩, 0, 0),
    (⟨(some 18), .indexAddr 1 (.t 16) (.t 17), none⟩, 0, 0),
    (⟨(some 19), .load none (.t 18), none⟩, 0, 1),
    (⟨(some 20), .mov (.t 0), none⟩, 0, 0),
    (⟨(some 21), .mov (.t 3), none⟩, 0, 0),
    (⟨(some 22), .bin .sub (.t 21) (.k (.int .i64 1)), none⟩, 0, 0),
    (⟨(some 23), .indexAddr 1 (.t 20) (.t 22), none⟩, 0, 0),
    (⟨(some 24), .load none (.t 23), none⟩, 0, 1),
    (⟨(some 25), .bin .eql (.t 19) (.t 24), none⟩, 0, 0)]
def d57_1 : List (IOper × Nat × Nat) :=
  [(⟨(some 35), .mov (.t 4), none⟩, 0, 0),
    (⟨(some 36), .mov (.t 5), none⟩, 0, 0),
    (⟨(some 37), .indexAddr 1 (.t 35) (.t 36), none⟩, 0, 0),
    (⟨(some 38), .load none (.t 37), none⟩, 0, 1),
    (⟨(some 39), .mov (.t 4), none⟩, 0, 0),
    (⟨(some 40), .mov (.t 5), none⟩, 0, 0),
    (⟨(some 41), .bin .sub (.t 40) (.k (.int .i64 1)), none⟩, 0, 0),
    (⟨(some 42), .indexAddr 1 (.t 39) (.t 41), none⟩, 0, 0),
    (⟨(some 43), .load none (.t 42), none⟩, 0, 1),
    (⟨(some 44), .bin .neq (.t 38) (.t 43), none⟩, 0, 0)]
def b57_2 : C :=
  .reg [⟨(some 33), .mov (.t 5), none⟩,
    ⟨(some 34), .bin .add (.t 33) (.k (.int .i64 1)), none⟩,
    ⟨(some 5), .mov (.t 34), none⟩] [0, 3, 4, 5]
def c57_3 (b57_2 : C) : C :=
  .seqT (.block 3 (.seq (.regD d57_1 [0, 3, 4, 5, 44])
    (.cond (.t 44) (.seq (.reg [⟨(some 45), .mov (.t 0), none⟩,
        ⟨(some 46), .mov (.t 3), none⟩,
        ⟨(some 47), .mov (.t 4), none⟩,
        ⟨(some 48), .mov (.t 5), none⟩,
        ⟨(some 49), .indexAddr 1 (.t 47) (.t 48), none⟩,
        ⟨(some 50), .load none (.t 49), none⟩,
        ⟨(some 51), .indexAddr 1 (.t 45) (.t 46), none⟩,
        ⟨none, .store 1 (.t 51) (.t 50), none⟩] [0, 3, 4, 5])
     (.reg [⟨(some 52), .mov (.t 3), none⟩,
       ⟨(some 53), .bin .add (.t 52) (.k (.int .i64 1)), none⟩,
       ⟨(some 3), .mov (.t 53), none⟩] [0, 3, 4, 5]))
    (.skip)))) [0, 3, 4, 5] b57_2
def b57_3 : C := c57_3 b57_2
def c57_4 (b57_3 : C) : C :=
  .seqT (.seq (.reg [⟨(some 29), .mov (.t 5), none⟩,
      ⟨(some 30), .mov (.t 4), none⟩,
      ⟨(some 31), .len 1 (.t 30), none⟩,
      ⟨(some 32), .bin .lss (.t 29) (.t 31), none⟩] [0, 3, 4, 5, 32])
   (.cond (.t 32) (.skip)
   (.exit 2))) [0, 3, 4, 5] b57_3
def b57_4 : C := c57_4 b57_3
def b57_5 : C :=
  .seq (.reg [⟨(some 54), .mov (.t 0), none⟩,
     ⟨(some 55), .mov (.t 3), none⟩,
     ⟨(some 56), .slice 1 (.t 54) (some (.t 55)) none, none⟩,
     ⟨none, .clear 1 [(.int .i64 0)] (.t 56), none⟩] [0, 3])
  (.seq (.reg [⟨(some 57), .mov (.t 0), none⟩,
     ⟨(some 58), .mov (.t 3), none⟩,
     ⟨(some 59), .slice 1 (.t 57) none (some (.t 58)), none⟩,
     ⟨(some 2), .mov (.t 59), none⟩] [2])
  (.ret))
def b57_6 : C :=
  .reg [⟨(some 14), .mov (.t 3), none⟩,
    ⟨(some 15), .bin .add (.t 14) (.k (.int .i64 1)), none⟩,
    ⟨(some 3), .mov (.t 15), none⟩] [0, 3]
def c57_7 (b57_4 b57_5 b57_6 : C) : C :=
  .seqT (.block 1 (.seq (.regD d57_0 [0, 3, 25])
    (.cond (.t 25) (.seq (.reg [⟨(some 26), .mov (.t 0), none⟩,
        ⟨(some 27), .mov (.t 3), none⟩,
        ⟨(some 28), .slice 1 (.t 26) (some (.t 27)) none, none⟩,
        ⟨(some 4), .mov (.t 28), none⟩] [0, 3, 4])
     (.seqT (.seq (.reg [⟨(some 5), .mov (.k (.int .i64 1)), none⟩] [0, 3, 4, 5])
      (.block 2 (.loop [0, 3, 4, 5] false b57_4))) [0, 3] b57_5))
    (.skip)))) [0, 3] b57_6
def b57_7 : C := c57_7 b57_4 b57_5 b57_6
def c57_8 (b57_7 : C) : C :=
  .seqT (.seq (.reg [⟨(some 10), .mov (.t 3), none⟩,
      ⟨(some 11), .mov (.t 0), none⟩,
      ⟨(some 12), .len 1 (.t 11), none⟩,
      ⟨(some 13), .bin .lss (.t 10) (.t 12), none⟩] [0, 3, 13])
   (.cond (.t 13) (.skip)
   (.exit 0))) [0, 3] b57_7
def b57_8 : C := c57_8 b57_7
def b57_9 : C :=
  .seq (.reg [⟨(some 60), .mov (.t 0), none⟩,
     ⟨(some 2), .mov (.t 60), none⟩] [2])
  (.ret)
def c57_10 (b57_8 b57_9 : C) : C :=
  .seqT (.seq (.reg [⟨(some 3), .mov (.k (.int .i64 1)), none⟩] [0, 3])
   (.block 0 (.loop [0, 3] false b57_8))) [0] b57_9
def b57_10 : C := c57_10 b57_8 b57_9
def c57 (b57_10 : C) : C :=
  .seq (.reg [⟨(some 2), .mov (.k (.list .full 1 [])), none⟩] [0])
  (.seqT (.seq (.reg [⟨(some 6), .mov (.t 0), none⟩,
      ⟨(some 7), .len 1 (.t 6), none⟩,
      ⟨(some 8), .bin .lss (.t 7) (.k (.int .i64 2)), none⟩] [0, 8])
   (.cond (.t 8) (.seq (.reg [⟨(some 9), .mov (.t 0), none⟩,
       ⟨(some 2), .mov (.t 9), none⟩] [2])
    (.ret))
   (.skip))) [0] b57_10)
def b57 : C := c57 b57_10
def f57 : IFn := { body := b57, params := 1, res := [(2, none)], pop := false, keep := false }
theorem ok57o : okFn Try.prog 57 { f57 with orc := compO } = true := by kernel_rfl
-- resolvent/resolventlaw16.bit
def b58 : C :=
  .seq (.reg [⟨(some 4), .mov (.k (.bool false)), none⟩] [0, 1])
  (.seq (.reg [⟨(some 5), .mov (.t 1), none⟩,
     ⟨(some 6), .bin .geq (.t 5) (.k (.int .i64 0)), none⟩,
     ⟨(some 7), .mov (.t 6), none⟩,
     ⟨(some 8), .mov (.t 1), some (7, true)⟩,
     ⟨(some 9), .bin .lss (.t 8) (.k (.int .i64 6)), some (7, true)⟩,
     ⟨(some 10), .pick (.t 7) (.t 9) (.k (.bool false)), none⟩,
     ⟨(some 11), .mov (.t 10), none⟩,
     ⟨(some 12), .mov (.t 0), some (11, true)⟩,
     ⟨(some 13), .mov (.t 1), some (11, true)⟩,
     ⟨(some 14), .bin .shr (.t 12) (.t 13), some (11, true)⟩,
     ⟨(some 15), .bin .and (.t 14) (.k (.int .i64 1)), some (11, true)⟩,
     ⟨(some 16), .bin .eql (.t 15) (.k (.int .i64 1)), some (11, true)⟩,
     ⟨(some 17), .pick (.t 11) (.t 16) (.k (.bool false)), none⟩,
     ⟨(some 4), .mov (.t 17), none⟩] [4])
  (.ret))
def f58 : IFn := { body := b58, params := 2, res := [(4, none)], pop := false, keep := false }
theorem ok58 : okFn Try.prog 58 f58 = true := by kernel_rfl

-- slices.Equal[[]resolvent/pos.node,resolvent/pos.node]
def d59_0 : List (IOper × Nat × Nat) :=
  [(⟨(some 16), .mov (.t 0), none⟩, 0, 0),
    (⟨(some 17), .mov (.t 5), none⟩, 0, 0),
    (⟨(some 18), .indexAddr 3 (.t 16) (.t 17), none⟩, 0, 0),
    (⟨(some 19), .load (some 3) (.t 18), none⟩, 0, 1),
    (⟨(some 20), .mov (.t 1), none⟩, 0, 0),
    (⟨(some 21), .mov (.t 5), none⟩, 0, 0),
    (⟨(some 22), .indexAddr 3 (.t 20) (.t 21), none⟩, 0, 0),
    (⟨(some 23), .load (some 3) (.t 22), none⟩, 0, 1),
    (⟨(some 24), .eqv ⟨[.i, .i, .i], true⟩ true (.t 19) (.t 23), none⟩, 0, 0)]
def b59_1 : C :=
  .reg [⟨(some 25), .bin .add (.t 13) (.k (.int .i64 1)), none⟩,
    ⟨(some 13), .mov (.t 25), none⟩] [0, 1, 12, 13]
def c59_2 (b59_1 : C) : C :=
  .seqT (.block 1 (.seq (.reg [⟨(some 15), .mov (.t 13), none⟩,
       ⟨(some 5), .mov (.t 15), none⟩] [0, 1, 5, 12, 13])
    (.seq (.regD d59_0 [0, 1, 12, 13, 24])
    (.cond (.t 24) (.seq (.reg [⟨(some 4), .mov (.k (.bool false)), none⟩] [4])
     (.ret))
    (.skip))))) [0, 1, 12, 13] b59_1
def b59_2 : C := c59_2 b59_1
def c59_3 (b59_2 : C) : C :=
  .seq (.reg [⟨(some 14), .bin .lss (.t 13) (.t 12), none⟩] [0, 1, 12, 13, 14])
  (.seqT (.cond (.t 14) (.skip)
   (.exit 0)) [0, 1, 12, 13] b59_2)
def b59_3 : C := c59_3 b59_2
def b59_4 : C :=
  .seq (.reg [⟨(some 4), .mov (.k (.bool true)), none⟩] [4])
  (.ret)
def c59_5 (b59_3 b59_4 : C) : C :=
  .seqT (.seq (.reg [⟨(some 11), .mov (.t 0), none⟩,
      ⟨(some 12), .len 1 (.t 11), none⟩,
      ⟨(some 13), .mov (.k (.int .i64 0)), none⟩] [0, 1, 12, 13])
   (.block 0 (.loop [0, 1, 12, 13] false b59_3))) [] b59_4
def b59_5 : C := c59_5 b59_3 b59_4
def c59 (b59_5 : C) : C :=
  .seq (.reg [⟨(some 4), .mov (.k (.bool false)), none⟩] [0, 1])
  (.seqT (.seq (.reg [⟨(some 6), .mov (.t 0), none⟩,
      ⟨(some 7), .len 1 (.t 6), none⟩,
      ⟨(some 8), .mov (.t 1), none⟩,
      ⟨(some 9), .len 1 (.t 8), none⟩,
      ⟨(some 10), .bin .neq (.t 7) (.t 9), none⟩] [0, 1, 10])
   (.cond (.t 10) (.seq (.reg [⟨(some 4), .mov (.k (.bool false)), none⟩] [4])
    (.ret))
   (.skip))) [0, 1] b59_5)
def b59 : C := c59 b59_5
def f59 : IFn := { body := b59, params := 2, res := [(4, none)], pop := false, keep := false }
theorem ok59 : okFn Try.prog 59 f59 = true := by kernel_rfl

-- (*resolvent/pos.table).with
def b60_0 : C :=
  .seq (.reg [⟨(some 32), .fieldAddr 1 1 (.t 9), none⟩,
     ⟨(some 33), .load none (.t 32), none⟩,
     ⟨(some 8), .mov (.t 33), none⟩] [8])
  (.ret)
def d60_1 : List (IOper × Nat × Nat) :=
  [(⟨(some 40), .mov (.t 0), none⟩, 0, 0),
    (⟨(some 41), .fieldAddr 0 1 (.t 9), none⟩, 0, 0),
    (⟨(some 42), .load none (.t 41), none⟩, 0, 2),
    (⟨(some 43), .mov (.t 10), none⟩, 0, 0),
    (⟨(some 44), .mov (.t 0), none⟩, 0, 0),
    (⟨(some 45), .fieldAddr 2 1 (.t 9), none⟩, 0, 0),
    (⟨(some 46), .load none (.t 45), none⟩, 0, 1),
    (⟨(some 47), .mov (.t 2), none⟩, 0, 0),
    (⟨(some 48), .mov (.t 3), none⟩, 0, 0),
    (⟨(some 49), .call (.f 60) [(.t 44), (.t 46), (.t 47), (.t 48)] false, none⟩, 0, 0),
    (⟨(some 50), .build [(.int .i64 0), (.int .i64 0), (.int .i64 0)] [(0, 1, (.t 42)), (1, 1, (.t 43)), (2, 1, (.t 49))], none⟩, 0, 0),
    (⟨(some 51), .call (.f 50) [(.t 40), (.t 50)] false, none⟩, 0, 0),
    (⟨(some 8), .mov (.t 51), none⟩, 0, 0)]
def b60_2 : C :=
  .seq (.reg [⟨(some 34), .mov (.t 0), none⟩,
     ⟨(some 35), .fieldAddr 1 1 (.t 9), none⟩,
     ⟨(some 36), .load none (.t 35), none⟩,
     ⟨(some 37), .mov (.t 2), none⟩,
     ⟨(some 38), .mov (.t 3), none⟩,
     ⟨(some 39), .call (.f 60) [(.t 34), (.t 36), (.t 37), (.t 38)] false, none⟩,
     ⟨(some 10), .mov (.t 39), none⟩] [0, 2, 3, 9, 10])
  (.seq (.regD d60_1 [8])
  (.ret))
def c60_3 (b60_0 b60_2 : C) : C :=
  .seq (.reg [⟨(some 17), .mov (.t 0), none⟩,
     ⟨(some 18), .nilCheck (.t 17), none⟩,
     ⟨(some 19), .fieldAddr 0 1 (.t 18), none⟩,
     ⟨(some 20), .load none (.t 19), none⟩,
     ⟨(some 21), .mov (.t 1), none⟩,
     ⟨(some 22), .bin .sub (.t 21) (.k (.int .i64 2)), none⟩,
     ⟨(some 23), .indexAddr 3 (.t 20) (.t 22), none⟩,
     ⟨(some 24), .load (some 3) (.t 23), none⟩,
     ⟨(some 9), .new [(.int .i64 0), (.int .i64 0), (.int .i64 0)], none⟩,
     ⟨none, .store 3 (.t 9) (.t 24), none⟩] [0, 2, 3, 9])
  (.seqT (.seq (.reg [⟨(some 25), .fieldAddr 0 1 (.t 9), none⟩,
      ⟨(some 26), .load none (.t 25), none⟩,
      ⟨(some 27), .mov (.t 2), none⟩,
      ⟨(some 28), .bin .eql (.t 26) (.t 27), none⟩] [0, 2, 3, 9, 28])
   (.cond (.t 28) (.seqT (.seq (.reg [⟨(some 29), .mov (.t 3), none⟩] [9, 29])
     (.cond (.t 29) (.seq (.reg [⟨(some 30), .fieldAddr 2 1 (.t 9), none⟩,
         ⟨(some 31), .load none (.t 30), none⟩,
         ⟨(some 8), .mov (.t 31), none⟩] [8])
      (.ret))
     (.skip))) [9] b60_0)
   (.skip))) [0, 2, 3, 9] b60_2)
def b60_3 : C := c60_3 b60_0 b60_2
def c60 (b60_3 : C) : C :=
  .seq (.reg [⟨(some 8), .mov (.k (.int .i64 0)), none⟩] [0, 1, 2, 3])
  (.seqT (.seq (.reg [⟨(some 11), .mov (.t 0), none⟩,
      ⟨(some 12), .mov (.t 1), none⟩,
      ⟨(some 13), .call (.f 76) [(.t 11), (.t 12)] false, none⟩,
      ⟨(some 14), .mov (.t 2), none⟩,
      ⟨(some 15), .bin .gtr (.t 13) (.t 14), none⟩] [0, 1, 2, 3, 15])
   (.cond (.t 15) (.seq (.reg [⟨(some 16), .mov (.t 1), none⟩,
       ⟨(some 8), .mov (.t 16), none⟩] [8])
    (.ret))
   (.skip))) [0, 1, 2, 3] b60_3)
def b60 : C := c60 b60_3
def f60 : IFn := { body := b60, params := 4, res := [(8, none)], pop := false, keep := false }
theorem ok60 : okFn Try.prog 60 f60 = true := by kernel_rfl

-- (*resolvent/pos.table).both$1
def d75_0 : List (IOper × Nat × Nat) :=
  [(⟨(some 40), .load none (.t 4), none⟩, 0, 1),
    (⟨(some 41), .mov (.t 0), none⟩, 0, 0),
    (⟨(some 42), .call (.f 76) [(.t 40), (.t 41)] false, none⟩, 0, 0),
    (⟨(some 43), .load none (.t 4), none⟩, 0, 2),
    (⟨(some 44), .mov (.t 1), none⟩, 0, 0),
    (⟨(some 45), .call (.f 76) [(.t 43), (.t 44)] false, none⟩, 0, 0),
    (⟨(some 46), .min2 (.t 42) (.t 45), none⟩, 0, 0),
    (⟨(some 14), .mov (.t 46), none⟩, 0, 0)]
def d75_1 : List (IOper × Nat × Nat) :=
  [(⟨(some 65), .load none (.t 3), none⟩, 0, 3),
    (⟨(some 66), .load (some 2) (.t 11), none⟩, 0, 3),
    (⟨(some 67), .load none (.t 4), none⟩, 0, 2),
    (⟨(some 68), .mov (.t 14), none⟩, 0, 0),
    (⟨(some 69), .mov (.t 19), none⟩, 0, 0),
    (⟨(some 70), .load none (.t 5), none⟩, 0, 1),
    (⟨(some 71), .mov (.t 16), none⟩, 0, 0),
    (⟨(some 72), .mov (.t 18), none⟩, 0, 0),
    (⟨(some 73), .call (.t 70) [(.t 71), (.t 72)] false, none⟩, 0, 0),
    (⟨(some 74), .build [(.int .i64 0), (.int .i64 0), (.int .i64 0)] [(0, 1, (.t 68)), (1, 1, (.t 69)), (2, 1, (.t 73))], none⟩, 0, 0),
    (⟨(some 75), .call (.f 50) [(.t 67), (.t 74)] false, none⟩, 0, 0),
    (⟨none, .mapUpdate ⟨[.i, .i], true⟩ (.t 65) (.t 66) (.t 75), none⟩, 0, 0)]
def b75_2 : C :=
  .seq (.regD d75_0 [0, 1, 3, 4, 5, 11, 14])
  (.seq (.reg [⟨(some 48), .load none (.t 4), none⟩,
     ⟨(some 49), .mov (.t 0), none⟩,
     ⟨(some 50), .mov (.t 14), none⟩,
     ⟨(some 51), .call (.f 77) [(.t 48), (.t 49), (.t 50)] false, none⟩,
     ⟨(some 47), .mov (.t 51), none⟩,
     ⟨(some 52), .extract (.t 47) 0, none⟩,
     ⟨(some 53), .extract (.t 47) 1, none⟩,
     ⟨(some 15), .mov (.t 52), none⟩,
     ⟨(some 16), .mov (.t 53), none⟩] [1, 3, 4, 5, 11, 14, 15, 16])
  (.seq (.reg [⟨(some 55), .load none (.t 4), none⟩,
     ⟨(some 56), .mov (.t 1), none⟩,
     ⟨(some 57), .mov (.t 14), none⟩,
     ⟨(some 58), .call (.f 77) [(.t 55), (.t 56), (.t 57)] false, none⟩,
     ⟨(some 54), .mov (.t 58), none⟩,
     ⟨(some 59), .extract (.t 54) 0, none⟩,
     ⟨(some 60), .extract (.t 54) 1, none⟩,
     ⟨(some 17), .mov (.t 59), none⟩,
     ⟨(some 18), .mov (.t 60), none⟩] [3, 4, 5, 11, 14, 15, 16, 17, 18])
  (.seq (.reg [⟨(some 61), .load none (.t 5), none⟩,
     ⟨(some 62), .mov (.t 15), none⟩,
     ⟨(some 63), .mov (.t 17), none⟩,
     ⟨(some 64), .call (.t 61) [(.t 62), (.t 63)] false, none⟩,
     ⟨(some 19), .mov (.t 64), none⟩] [3, 4, 5, 11, 14, 16, 18, 19])
  (.seq (.regD d75_1 [3, 11])
  (.seq (.reg [⟨(some 76), .load none (.t 3), none⟩,
     ⟨(some 77), .load (some 2) (.t 11), none⟩,
     ⟨(some 78), .lookup ⟨[.i, .i], true⟩ (.int .i64 0) false (.t 76) (.t 77), none⟩,
     ⟨(some 8), .mov (.t 78), none⟩] [8])
  (.ret))))))
def c75_3 (b75_2 : C) : C :=
  .seq (.reg [⟨(some 29), .mov (.t 0), none⟩,
     ⟨(some 30), .mov (.t 1), none⟩,
     ⟨(some 31), .build [(.int .i64 0), (.int .i64 0)] [(0, 1, (.t 29)), (1, 1, (.t 30))], none⟩,
     ⟨(some 11), .new [(.int .i64 0), (.int .i64 0)], none⟩,
     ⟨none, .store 2 (.t 11) (.t 31), none⟩] [0, 1, 3, 4, 5, 11])
  (.seqT (.seq (.reg [⟨(some 33), .load none (.t 3), none⟩,
      ⟨(some 34), .load (some 2) (.t 11), none⟩,
      ⟨(some 35), .lookup ⟨[.i, .i], true⟩ (.int .i64 0) true (.t 33) (.t 34), none⟩,
      ⟨(some 32), .mov (.t 35), none⟩,
      ⟨(some 36), .extract (.t 32) 0, none⟩,
      ⟨(some 37), .extract (.t 32) 1, none⟩,
      ⟨(some 12), .mov (.t 36), none⟩,
      ⟨(some 13), .mov (.t 37), none⟩] [0, 1, 3, 4, 5, 11, 12, 13])
   (.seq (.reg [⟨(some 38), .mov (.t 13), none⟩] [0, 1, 3, 4, 5, 11, 12, 38])
   (.cond (.t 38) (.seq (.reg [⟨(some 39), .mov (.t 12), none⟩,
       ⟨(some 8), .mov (.t 39), none⟩] [8])
    (.ret))
   (.skip)))) [0, 1, 3, 4, 5, 11] b75_2)
def b75_3 : C := c75_3 b75_2
def c75 (b75_3 : C) : C :=
  .seq (.reg [⟨(some 8), .mov (.k (.int .i64 0)), none⟩] [0, 1, 2, 3, 4, 5])
  (.seqT (.seq (.reg [⟨(some 21), .load none (.t 2), none⟩,
      ⟨(some 22), .mov (.t 0), none⟩,
      ⟨(some 23), .mov (.t 1), none⟩,
      ⟨(some 24), .call (.t 21) [(.t 22), (.t 23)] false, none⟩,
      ⟨(some 20), .mov (.t 24), none⟩,
      ⟨(some 25), .extract (.t 20) 0, none⟩,
      ⟨(some 26), .extract (.t 20) 1, none⟩,
      ⟨(some 9), .mov (.t 25), none⟩,
      ⟨(some 10), .mov (.t 26), none⟩] [0, 1, 3, 4, 5, 9, 10])
   (.seq (.reg [⟨(some 27), .mov (.t 10), none⟩] [0, 1, 3, 4, 5, 9, 27])
   (.cond (.t 27) (.seq (.reg [⟨(some 28), .mov (.t 9), none⟩,
       ⟨(some 8), .mov (.t 28), none⟩] [8])
    (.ret))
   (.skip)))) [0, 1, 3, 4, 5] b75_3)
def b75 : C := c75 b75_3
def f75 : IFn := { body := b75, params := 6, res := [(8, none)], pop := false, keep := false }
theorem ok75 : okFn Try.prog 75 f75 = true := by kernel_rfl

-- (*resolvent/pos.table).top
def b76_0 : C :=
  .seq (.reg [⟨(some 7), .mov (.t 0), none⟩,
     ⟨(some 8), .nilCheck (.t 7), none⟩,
     ⟨(some 9), .fieldAddr 0 1 (.t 8), none⟩,
     ⟨(some 10), .load none (.t 9), none⟩,
     ⟨(some 11), .mov (.t 1), none⟩,
     ⟨(some 12), .bin .sub (.t 11) (.k (.int .i64 2)), none⟩,
     ⟨(some 13), .indexAddr 3 (.t 10) (.t 12), none⟩,
     ⟨(some 14), .fieldAddr 0 1 (.t 13), none⟩,
     ⟨(some 15), .load none (.t 14), none⟩,
     ⟨(some 4), .mov (.t 15), none⟩] [4])
  (.ret)
def c76 (b76_0 : C) : C :=
  .seq (.reg [⟨(some 4), .mov (.k (.int .i64 0)), none⟩] [0, 1])
  (.seqT (.seq (.reg [⟨(some 5), .mov (.t 1), none⟩,
      ⟨(some 6), .bin .lss (.t 5) (.k (.int .i64 2)), none⟩] [0, 1, 6])
   (.cond (.t 6) (.seq (.reg [⟨(some 4), .mov (.k (.int .i64 9223372036854775807)), none⟩] [4])
    (.ret))
   (.skip))) [0, 1] b76_0)
def b76 : C := c76 b76_0
def f76 : IFn := { body := b76, params := 2, res := [(4, none)], pop := false, keep := false }
theorem ok76 : okFn Try.prog 76 f76 = true := by kernel_rfl

-- (*resolvent/pos.table).ways
def d77_0 : List (IOper × Nat × Nat) :=
  [(⟨(some 15), .mov (.t 0), none⟩, 0, 0),
    (⟨(some 16), .nilCheck (.t 15), none⟩, 0, 0),
    (⟨(some 17), .fieldAddr 0 1 (.t 16), none⟩, 0, 0),
    (⟨(some 18), .load none (.t 17), none⟩, 0, 1),
    (⟨(some 19), .mov (.t 1), none⟩, 0, 0),
    (⟨(some 20), .bin .sub (.t 19) (.k (.int .i64 2)), none⟩, 0, 0),
    (⟨(some 21), .indexAddr 3 (.t 18) (.t 20), none⟩, 0, 0),
    (⟨(some 22), .fieldAddr 1 1 (.t 21), none⟩, 0, 0),
    (⟨(some 23), .load none (.t 22), none⟩, 0, 1),
    (⟨(some 24), .mov (.t 0), none⟩, 0, 0),
    (⟨(some 25), .nilCheck (.t 24), none⟩, 0, 0),
    (⟨(some 26), .fieldAddr 0 1 (.t 25), none⟩, 0, 0),
    (⟨(some 27), .load none (.t 26), none⟩, 0, 1),
    (⟨(some 28), .mov (.t 1), none⟩, 0, 0),
    (⟨(some 29), .bin .sub (.t 28) (.k (.int .i64 2)), none⟩, 0, 0),
    (⟨(some 30), .indexAddr 3 (.t 27) (.t 29), none⟩, 0, 0),
    (⟨(some 31), .fieldAddr 2 1 (.t 30), none⟩, 0, 0),
    (⟨(some 32), .load none (.t 31), none⟩, 0, 1),
    (⟨(some 6), .mov (.t 23), none⟩, 0, 0),
    (⟨(some 7), .mov (.t 32), none⟩, 0, 0)]
def b77_1 : C :=
  .seq (.regD d77_0 [6, 7])
  (.ret)
def c77 (b77_1 : C) : C :=
  .seq (.reg [⟨(some 6), .mov (.k (.int .i64 0)), none⟩,
     ⟨(some 7), .mov (.k (.int .i64 0)), none⟩] [0, 1, 2])
  (.seqT (.seq (.reg [⟨(some 8), .mov (.t 0), none⟩,
      ⟨(some 9), .mov (.t 1), none⟩,
      ⟨(some 10), .call (.f 76) [(.t 8), (.t 9)] false, none⟩,
      ⟨(some 11), .mov (.t 2), none⟩,
      ⟨(some 12), .bin .neq (.t 10) (.t 11), none⟩] [0, 1, 12])
   (.cond (.t 12) (.seq (.reg [⟨(some 13), .mov (.t 1), none⟩,
       ⟨(some 14), .mov (.t 1), none⟩,
       ⟨(some 6), .mov (.t 13), none⟩,
       ⟨(some 7), .mov (.t 14), none⟩] [6, 7])
    (.ret))
   (.skip))) [0, 1] b77_1)
def b77 : C := c77 b77_1
def f77 : IFn := { body := b77, params := 3, res := [(6, none), (7, none)], pop := false, keep := false }
theorem ok77 : okFn Try.prog 77 f77 = true := by kernel_rfl

-- resolvent/pos.bit
def b78_0 : C :=
  .seq (.reg [⟨(some 2), .mov (.k (.int .i64 0)), none⟩] [2])
  (.ret)
def c78 (b78_0 : C) : C :=
  .seq (.reg [⟨(some 2), .mov (.k (.int .i64 0)), none⟩] [0])
  (.seqT (.seq (.reg [⟨(some 3), .mov (.t 0), none⟩] [3])
   (.cond (.t 3) (.seq (.reg [⟨(some 2), .mov (.k (.int .i64 1)), none⟩] [2])
    (.ret))
   (.skip))) [] b78_0)
def b78 : C := c78 b78_0
def f78 : IFn := { body := b78, params := 1, res := [(2, none)], pop := false, keep := false }
theorem ok78 : okFn Try.prog 78 f78 = true := by kernel_rfl

-- slices.Index[[]int,int]
def b79_0 : C :=
  .reg [⟨(some 18), .bin .add (.t 8) (.k (.int .i64 1)), none⟩,
    ⟨(some 8), .mov (.t 18), none⟩] [0, 1, 7, 8]
def c79_1 (b79_0 : C) : C :=
  .seqT (.block 1 (.seq (.reg [⟨(some 10), .mov (.t 8), none⟩,
       ⟨(some 5), .mov (.t 10), none⟩] [0, 1, 5, 7, 8])
    (.seq (.reg [⟨(some 11), .mov (.t 1), none⟩,
       ⟨(some 12), .mov (.t 0), none⟩,
       ⟨(some 13), .mov (.t 5), none⟩,
       ⟨(some 14), .indexAddr 1 (.t 12) (.t 13), none⟩,
       ⟨(some 15), .load none (.t 14), none⟩,
       ⟨(some 16), .bin .eql (.t 11) (.t 15), none⟩] [0, 1, 5, 7, 8, 16])
    (.cond (.t 16) (.seq (.reg [⟨(some 17), .mov (.t 5), none⟩,
        ⟨(some 4), .mov (.t 17), none⟩] [4])
     (.ret))
    (.skip))))) [0, 1, 7, 8] b79_0
def b79_1 : C := c79_1 b79_0
def c79_2 (b79_1 : C) : C :=
  .seq (.reg [⟨(some 9), .bin .lss (.t 8) (.t 7), none⟩] [0, 1, 7, 8, 9])
  (.seqT (.cond (.t 9) (.skip)
   (.exit 0)) [0, 1, 7, 8] b79_1)
def b79_2 : C := c79_2 b79_1
def b79_3 : C :=
  .seq (.reg [⟨(some 4), .mov (.k (.int .i64 (-1))), none⟩] [4])
  (.ret)
def c79 (b79_2 b79_3 : C) : C :=
  .seq (.reg [⟨(some 4), .mov (.k (.int .i64 0)), none⟩] [0, 1])
  (.seqT (.seq (.reg [⟨(some 6), .mov (.t 0), none⟩,
      ⟨(some 7), .len 1 (.t 6), none⟩,
      ⟨(some 8), .mov (.k (.int .i64 0)), none⟩] [0, 1, 7, 8])
   (.block 0 (.loop [0, 1, 7, 8] false b79_2))) [] b79_3)
def b79 : C := c79 b79_2 b79_3
def f79 : IFn := { body := b79, params := 2, res := [(4, none)], pop := false, keep := false }
theorem ok79 : okFn Try.prog 79 f79 = true := by kernel_rfl

-- (*resolvent/pos.table).take$1
def b80_0 : C :=
  .seq (.reg [⟨(some 20), .load none (.t 2), none⟩,
     ⟨(some 21), .nilCheck (.t 20), none⟩,
     ⟨(some 22), .fieldAddr 0 1 (.t 21), none⟩,
     ⟨(some 23), .load none (.t 22), none⟩,
     ⟨(some 24), .mov (.t 0), none⟩,
     ⟨(some 25), .bin .sub (.t 24) (.k (.int .i64 2)), none⟩,
     ⟨(some 26), .indexAddr 3 (.t 23) (.t 25), none⟩,
     ⟨(some 27), .load (some 3) (.t 26), none⟩,
     ⟨(some 9), .new [(.int .i64 0), (.int .i64 0), (.int .i64 0)], none⟩,
     ⟨none, .store 3 (.t 9) (.t 27), none⟩] [0, 1, 3, 4, 9])
  (.seq (.reg [⟨(some 28), .load none (.t 3), none⟩,
     ⟨(some 29), .fieldAddr 1 1 (.t 9), none⟩,
     ⟨(some 30), .load none (.t 29), none⟩,
     ⟨(some 31), .call (.t 28) [(.t 30)] false, none⟩,
     ⟨(some 10), .mov (.t 31), none⟩] [0, 1, 3, 4, 9, 10])
  (.seq (.reg [⟨(some 32), .load none (.t 3), none⟩,
     ⟨(some 33), .fieldAddr 2 1 (.t 9), none⟩,
     ⟨(some 34), .load none (.t 33), none⟩,
     ⟨(some 35), .call (.t 32) [(.t 34)] false, none⟩,
     ⟨(some 11), .mov (.t 35), none⟩] [0, 1, 4, 9, 10, 11])
  (.seq (.reg [⟨(some 36), .fieldAddr 0 1 (.t 4), none⟩,
     ⟨(some 37), .load none (.t 36), none⟩,
     ⟨(some 38), .fieldAddr 0 1 (.t 9), none⟩,
     ⟨(some 39), .load none (.t 38), none⟩,
     ⟨(some 40), .mov (.t 10), none⟩,
     ⟨(some 41), .mov (.t 11), none⟩,
     ⟨(some 42), .build [(.int .i64 0), (.int .i64 0), (.int .i64 0)] [(0, 1, (.t 39)), (1, 1, (.t 40)), (2, 1, (.t 41))], none⟩,
     ⟨(some 43), .buildSlice 3 [(.int .i64 0), (.int .i64 0), (.int .i64 0)] 1 [(0, (.t 42))] false, none⟩,
     ⟨(some 44), .append 3 24 (.t 37) (.t 43) 0, none⟩,
     ⟨(some 45), .fieldAddr 0 1 (.t 4), none⟩,
     ⟨none, .store 1 (.t 45) (.t 44), none⟩] [0, 1, 4])
  (.seq (.reg [⟨(some 46), .load none (.t 1), none⟩,
     ⟨(some 47), .mov (.t 0), none⟩,
     ⟨(some 48), .fieldAddr 0 1 (.t 4), none⟩,
     ⟨(some 49), .load none (.t 48), none⟩,
     ⟨(some 50), .len 1 (.t 49), none⟩,
     ⟨(some 51), .bin .add (.t 50) (.k (.int .i64 1)), none⟩,
     ⟨none, .mapUpdate ⟨[.i], false⟩ (.t 46) (.t 47) (.t 51), none⟩] [0, 1])
  (.seq (.reg [⟨(some 52), .load none (.t 1), none⟩,
     ⟨(some 53), .mov (.t 0), none⟩,
     ⟨(some 54), .lookup ⟨[.i], false⟩ (.int .i64 0) false (.t 52) (.t 53), none⟩,
     ⟨(some 6), .mov (.t 54), none⟩] [6])
  (.ret))))))
def c80 (b80_0 : C) : C :=
  .seq (.reg [⟨(some 6), .mov (.k (.int .i64 0)), none⟩] [0, 1, 2, 3, 4])
  (.seqT (.seq (.reg [⟨(some 13), .load none (.t 1), none⟩,
      ⟨(some 14), .mov (.t 0), none⟩,
      ⟨(some 15), .lookup ⟨[.i], false⟩ (.int .i64 0) true (.t 13) (.t 14), none⟩,
      ⟨(some 12), .mov (.t 15), none⟩,
      ⟨(some 16), .extract (.t 12) 0, none⟩,
      ⟨(some 17), .extract (.t 12) 1, none⟩,
      ⟨(some 7), .mov (.t 16), none⟩,
      ⟨(some 8), .mov (.t 17), none⟩] [0, 1, 2, 3, 4, 7, 8])
   (.seq (.reg [⟨(some 18), .mov (.t 8), none⟩] [0, 1, 2, 3, 4, 7, 18])
   (.cond (.t 18) (.seq (.reg [⟨(some 19), .mov (.t 7), none⟩,
       ⟨(some 6), .mov (.t 19), none⟩] [6])
    (.ret))
   (.skip)))) [0, 1, 2, 3, 4] b80_0)
def b80 : C := c80 b80_0
def f80 : IFn := { body := b80, params := 5, res := [(6, none)], pop := false, keep := false }
theorem ok80 : okFn Try.prog 80 f80 = true := by kernel_rfl

-- resolvent/resolventlaw16.tables
def b81_0 : C :=
  .seq (.reg [⟨(some 28), .load (some 2) (.t 5), none⟩,
     ⟨none, .store 2 (.t 4) (.t 28), none⟩] [4])
  (.ret)
def c81 (b81_0 : C) : C :=
  .seq (.reg [⟨(some 2), .box (.t 0), none⟩,
     ⟨(some 4), .new [(.int .u64 0), (.int .u64 0)], none⟩] [1, 2, 4])
  (.seq (.reg [⟨(some 6), .build [(.int .u64 0), (.int .u64 0)] [], none⟩,
     ⟨(some 5), .new [(.int .u64 0), (.int .u64 0)], none⟩,
     ⟨none, .store 2 (.t 5) (.t 6), none⟩] [1, 2, 4, 5])
  (.seqT (.seq (.reg [⟨(some 7), .mov (.t 1), none⟩,
      ⟨(some 8), .len 1 (.t 7), none⟩,
      ⟨(some 9), .bin .gtr (.t 8) (.k (.int .i64 0)), none⟩] [1, 2, 4, 5, 9])
   (.cond (.t 9) (.seq (.reg [⟨(some 10), .mov (.t 1), none⟩,
       ⟨(some 11), .fieldAddr 2 1 (.t 2), none⟩,
       ⟨(some 12), .load none (.t 11), none⟩,
       ⟨(some 13), .mov (.t 1), none⟩,
       ⟨(some 14), .len 1 (.t 13), none⟩,
       ⟨(some 15), .call (.f 54) [(.t 12), (.t 14)] false, none⟩,
       ⟨(some 16), .indexAddr 1 (.t 10) (.t 15), none⟩,
       ⟨(some 17), .load none (.t 16), none⟩,
       ⟨(some 18), .indexAddrA 2 1 (.t 5) (.k (.int .i64 0)), none⟩,
       ⟨none, .store 1 (.t 18) (.t 17), none⟩] [1, 2, 4, 5])
    (.reg [⟨(some 19), .mov (.t 1), none⟩,
      ⟨(some 20), .fieldAddr 3 1 (.t 2), none⟩,
      ⟨(some 21), .load none (.t 20), none⟩,
      ⟨(some 22), .mov (.t 1), none⟩,
      ⟨(some 23), .len 1 (.t 22), none⟩,
      ⟨(some 24), .call (.f 54) [(.t 21), (.t 23)] false, none⟩,
      ⟨(some 25), .indexAddr 1 (.t 19) (.t 24), none⟩,
      ⟨(some 26), .load none (.t 25), none⟩,
      ⟨(some 27), .indexAddrA 2 1 (.t 5) (.k (.int .i64 1)), none⟩,
      ⟨none, .store 1 (.t 27) (.t 26), none⟩] [4, 5]))
   (.skip))) [4, 5] b81_0))
def b81 : C := c81 b81_0
def f81 : IFn := { body := b81, params := 2, res := [(4, some (some 2))], pop := false, keep := false }
theorem ok81 : okFn Try.prog 81 f81 = true := by kernel_rfl

-- resolvent/resolventlaw16.renamed
def d82_0 : List (IOper × Nat × Nat) :=
  [(⟨(some 38), .mov (.t 8), none⟩, 0, 0),
    (⟨(some 39), .mov (.t 10), none⟩, 0, 0),
    (⟨(some 40), .indexAddr 1 (.t 38) (.t 39), none⟩, 0, 0),
    (⟨(some 41), .load none (.t 40), none⟩, 0, 1),
    (⟨(some 42), .fieldAddr 4 1 (.t 3), none⟩, 0, 0),
    (⟨(some 43), .load none (.t 42), none⟩, 0, 1),
    (⟨(some 44), .mov (.t 9), none⟩, 0, 0),
    (⟨(some 45), .indexAddr 1 (.t 43) (.t 44), none⟩, 0, 0),
    (⟨(some 46), .load none (.t 45), none⟩, 0, 1),
    (⟨(some 47), .bin .eql (.t 41) (.t 46), none⟩, 0, 0)]
def b82_1 : C :=
  .reg [⟨(some 36), .mov (.t 10), none⟩,
    ⟨(some 37), .bin .add (.t 36) (.k (.int .i64 1)), none⟩,
    ⟨(some 10), .mov (.t 37), none⟩] [1, 2, 3, 7, 8, 9, 10]
def c82_2 (b82_1 : C) : C :=
  .seqT (.block 3 (.seq (.regD d82_0 [1, 2, 3, 7, 8, 9, 10, 47])
    (.cond (.t 47) (.seq (.reg [⟨(some 6), .mov (.k (.bool true)), none⟩] [6])
     (.ret))
    (.skip)))) [1, 2, 3, 7, 8, 9, 10] b82_1
def b82_2 : C := c82_2 b82_1
def c82_3 (b82_2 : C) : C :=
  .seqT (.seq (.reg [⟨(some 32), .mov (.t 10), none⟩,
      ⟨(some 33), .mov (.t 8), none⟩,
      ⟨(some 34), .len 1 (.t 33), none⟩,
      ⟨(some 35), .bin .lss (.t 32) (.t 34), none⟩] [1, 2, 3, 7, 8, 9, 10, 35])
   (.cond (.t 35) (.skip)
   (.exit 2))) [1, 2, 3, 7, 8, 9, 10] b82_2
def b82_3 : C := c82_3 b82_2
def b82_4 : C :=
  .seq (.reg [⟨(some 48), .mov (.t 8), none⟩,
     ⟨(some 49), .fieldAddr 4 1 (.t 3), none⟩,
     ⟨(some 50), .load none (.t 49), none⟩,
     ⟨(some 51), .mov (.t 9), none⟩,
     ⟨(some 52), .indexAddr 1 (.t 50) (.t 51), none⟩,
     ⟨(some 53), .load none (.t 52), none⟩,
     ⟨(some 54), .buildSlice 1 [(.int .i64 0)] 1 [(0, (.t 53))] false, none⟩,
     ⟨(some 55), .append 1 8 (.t 48) (.t 54) 0, none⟩,
     ⟨(some 8), .mov (.t 55), none⟩] [1, 2, 3, 7, 8, 9])
  (.seq (.reg [⟨(some 56), .mov (.t 2), none⟩,
     ⟨(some 57), .fieldAddr 4 1 (.t 3), none⟩,
     ⟨(some 58), .load none (.t 57), none⟩,
     ⟨(some 59), .mov (.t 9), none⟩,
     ⟨(some 60), .indexAddr 1 (.t 58) (.t 59), none⟩,
     ⟨(some 61), .load none (.t 60), none⟩,
     ⟨(some 62), .call (.f 58) [(.t 56), (.t 61)] false, none⟩] [1, 2, 3, 7, 8, 9, 62])
  (.cond (.t 62) (.reg [⟨(some 63), .mov (.t 7), none⟩,
     ⟨(some 64), .mov (.t 9), none⟩,
     ⟨(some 65), .bin .shl (.k (.int .i64 1)) (.t 64), none⟩,
     ⟨(some 66), .bin .or (.t 63) (.t 65), none⟩,
     ⟨(some 7), .mov (.t 66), none⟩] [1, 2, 3, 7, 8, 9])
  (.skip)))
def c82_5 (b82_3 b82_4 : C) : C :=
  .seqT (.seq (.reg [⟨(some 10), .mov (.k (.int .i64 0)), none⟩] [1, 2, 3, 7, 8, 9, 10])
   (.block 2 (.loop [1, 2, 3, 7, 8, 9, 10] false b82_3))) [1, 2, 3, 7, 8, 9] b82_4
def b82_5 : C := c82_5 b82_3 b82_4
def c82_6 (b82_5 : C) : C :=
  .seqT (.seq (.reg [⟨(some 19), .mov (.t 9), none⟩,
      ⟨(some 20), .fieldAddr 4 1 (.t 3), none⟩,
      ⟨(some 21), .load none (.t 20), none⟩,
      ⟨(some 22), .len 1 (.t 21), none⟩,
      ⟨(some 23), .bin .geq (.t 19) (.t 22), none⟩,
      ⟨(some 24), .mov (.t 23), none⟩,
      ⟨(some 25), .fieldAddr 4 1 (.t 3), some (24, false)⟩,
      ⟨(some 26), .load none (.t 25), some (24, false)⟩,
      ⟨(some 27), .mov (.t 9), some (24, false)⟩,
      ⟨(some 28), .indexAddr 1 (.t 26) (.t 27), some (24, false)⟩,
      ⟨(some 29), .load none (.t 28), some (24, false)⟩,
      ⟨(some 30), .bin .lss (.t 29) (.k (.int .i64 0)), some (24, false)⟩,
      ⟨(some 31), .pick (.t 24) (.k (.bool true)) (.t 30), none⟩] [1, 2, 3, 7, 8, 9, 31])
   (.cond (.t 31) (.seq (.reg [⟨(some 6), .mov (.k (.bool true)), none⟩] [6])
    (.ret))
   (.skip))) [1, 2, 3, 7, 8, 9] b82_5
def b82_6 : C := c82_6 b82_5
def b82_7 : C :=
  .reg [⟨(some 13), .mov (.t 9), none⟩,
    ⟨(some 14), .bin .add (.t 13) (.k (.int .i64 1)), none⟩,
    ⟨(some 9), .mov (.t 14), none⟩] [1, 2, 3, 7, 8, 9]
def c82_8 (b82_6 b82_7 : C) : C :=
  .seqT (.block 1 (.seqT (.seq (.reg [⟨(some 15), .mov (.t 1), none⟩,
        ⟨(some 16), .mov (.t 9), none⟩,
        ⟨(some 17), .call (.f 18) [(.t 15), (.t 16)] false, none⟩,
        ⟨(some 18), .un .not (.t 17), none⟩] [1, 2, 3, 7, 8, 9, 18])
     (.cond (.t 18) (.exit 1)
     (.skip))) [1, 2, 3, 7, 8, 9] b82_6)) [1, 2, 3, 7, 8, 9] b82_7
def b82_8 : C := c82_8 b82_6 b82_7
def c82_9 (b82_8 : C) : C :=
  .seqT (.seq (.reg [⟨(some 11), .mov (.t 9), none⟩,
      ⟨(some 12), .bin .lss (.t 11) (.k (.int .i64 6)), none⟩] [1, 2, 3, 7, 8, 9, 12])
   (.cond (.t 12) (.skip)
   (.exit 0))) [1, 2, 3, 7, 8, 9] b82_8
def b82_9 : C := c82_9 b82_8
def b82_10 : C :=
  .seq (.reg [⟨(some 67), .mov (.t 1), none⟩,
     ⟨(some 68), .mov (.t 7), none⟩,
     ⟨(some 69), .bin .shr (.t 67) (.t 68), none⟩,
     ⟨(some 70), .bin .and (.t 69) (.k (.int .u64 1)), none⟩,
     ⟨(some 71), .bin .eql (.t 70) (.k (.int .u64 1)), none⟩,
     ⟨(some 6), .mov (.t 71), none⟩] [6])
  (.ret)
def c82 (b82_9 b82_10 : C) : C :=
  .seq (.reg [⟨(some 3), .box (.t 0), none⟩,
     ⟨(some 6), .mov (.k (.bool false)), none⟩] [1, 2, 3])
  (.seq (.reg [⟨(some 7), .mov (.k (.int .i64 0)), none⟩] [1, 2, 3, 7])
  (.seq (.reg [⟨(some 8), .tipNew 1, none⟩] [1, 2, 3, 7, 8])
  (.seqT (.seq (.reg [⟨(some 9), .mov (.k (.int .i64 0)), none⟩] [1, 2, 3, 7, 8, 9])
   (.block 0 (.loop [1, 2, 3, 7, 8, 9] false b82_9))) [1, 7] b82_10)))
def b82 : C := c82 b82_9 b82_10
def f82 : IFn := { body := b82, params := 3, res := [(6, none)], pop := false, keep := false }
theorem ok82 : okFn Try.prog 82 f82 = true := by kernel_rfl

theorem mixed : Try.prog.follows .mixedOrders = true := by kernel_rfl
def T : Nat → Option IFn
  | 10 => some f10
  | 11 => some f11
  | 12 => some f12
  | 13 => some f13
  | 14 => some f14
  | 15 => some f15
  | 16 => some f16
  | 17 => some f17
  | 18 => some f18
  | 19 => some f19
  | 22 => some f22
  | 23 => some f23
  | 24 => some f24
  | 25 => some f25
  | 26 => some f26
  | 44 => some f44
  | 45 => some f45
  | 46 => some f46
  | 47 => some f47
  | 48 => some f48
  | 49 => some f49
  | 50 => some f50
  | 51 => some f51
  | 52 => some f52
  | 53 => some f53
  | 54 => some f54
  | 55 => some f55
  | 56 => some { f56 with orc := sortO }
  | 57 => some { f57 with orc := compO }
  | 58 => some f58
  | 59 => some f59
  | 60 => some f60
  | 75 => some f75
  | 76 => some f76
  | 77 => some f77
  | 78 => some f78
  | 79 => some f79
  | 80 => some f80
  | 81 => some f81
  | 82 => some f82
  | _ => none

theorem hT : ∀ f fn, T f = some fn → okFn Try.prog f fn = true := by
  intro f fn h
  unfold T at h
  split at h
  · cases h; exact ok10
  · cases h; exact ok11
  · cases h; exact ok12
  · cases h; exact ok13
  · cases h; exact ok14
  · cases h; exact ok15
  · cases h; exact ok16
  · cases h; exact ok17
  · cases h; exact ok18
  · cases h; exact ok19
  · cases h; exact ok22
  · cases h; exact ok23
  · cases h; exact ok24
  · cases h; exact ok25
  · cases h; exact ok26
  · cases h; exact ok44
  · cases h; exact ok45
  · cases h; exact ok46
  · cases h; exact ok47
  · cases h; exact ok48
  · cases h; exact ok49
  · cases h; exact ok50
  · cases h; exact ok51
  · cases h; exact ok52
  · cases h; exact ok53
  · cases h; exact ok54
  · cases h; exact ok55
  · cases h; exact ok56o
  · cases h; exact ok57o
  · cases h; exact ok58
  · cases h; exact ok59
  · cases h; exact ok60
  · cases h; exact ok75
  · cases h; exact ok76
  · cases h; exact ok77
  · cases h; exact ok78
  · cases h; exact ok79
  · cases h; exact ok80
  · cases h; exact ok81
  · cases h; exact ok82
  · cases h
theorem hO (h56 : OrcSound Try.prog (okc0 Try.prog) 56 { f56 with orc := sortO }) (h57 : OrcSound Try.prog (okc0 Try.prog) 57 { f57 with orc := compO }) : ∀ f fn, T f = some fn → OrcSound Try.prog (okc0 Try.prog) f fn := by
  intro f fn h
  unfold T at h
  split at h
  · cases h; exact orcSound_none fun _ _ => rfl
  · cases h; exact orcSound_none fun _ _ => rfl
  · cases h; exact orcSound_none fun _ _ => rfl
  · cases h; exact orcSound_none fun _ _ => rfl
  · cases h; exact orcSound_none fun _ _ => rfl
  · cases h; exact orcSound_none fun _ _ => rfl
  · cases h; exact orcSound_none fun _ _ => rfl
  · cases h; exact orcSound_none fun _ _ => rfl
  · cases h; exact orcSound_none fun _ _ => rfl
  · cases h; exact orcSound_none fun _ _ => rfl
  · cases h; exact orcSound_none fun _ _ => rfl
  · cases h; exact orcSound_none fun _ _ => rfl
  · cases h; exact orcSound_none fun _ _ => rfl
  · cases h; exact orcSound_none fun _ _ => rfl
  · cases h; exact orcSound_none fun _ _ => rfl
  · cases h; exact orcSound_none fun _ _ => rfl
  · cases h; exact orcSound_none fun _ _ => rfl
  · cases h; exact orcSound_none fun _ _ => rfl
  · cases h; exact orcSound_none fun _ _ => rfl
  · cases h; exact orcSound_none fun _ _ => rfl
  · cases h; exact orcSound_none fun _ _ => rfl
  · cases h; exact orcSound_none fun _ _ => rfl
  · cases h; exact orcSound_none fun _ _ => rfl
  · cases h; exact orcSound_none fun _ _ => rfl
  · cases h; exact orcSound_none fun _ _ => rfl
  · cases h; exact orcSound_none fun _ _ => rfl
  · cases h; exact orcSound_none fun _ _ => rfl
  · cases h; exact h56
  · cases h; exact h57
  · cases h; exact orcSound_none fun _ _ => rfl
  · cases h; exact orcSound_none fun _ _ => rfl
  · cases h; exact orcSound_none fun _ _ => rfl
  · cases h; exact orcSound_none fun _ _ => rfl
  · cases h; exact orcSound_none fun _ _ => rfl
  · cases h; exact orcSound_none fun _ _ => rfl
  · cases h; exact orcSound_none fun _ _ => rfl
  · cases h; exact orcSound_none fun _ _ => rfl
  · cases h; exact orcSound_none fun _ _ => rfl
  · cases h; exact orcSound_none fun _ _ => rfl
  · cases h; exact orcSound_none fun _ _ => rfl
  · cases h
end Go.Proofs.P16
