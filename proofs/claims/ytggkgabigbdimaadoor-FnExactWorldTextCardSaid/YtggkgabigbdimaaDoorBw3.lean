/- The table of the program's types, for the engine. The engine, twenty-sixth text: append of a made row of zeros. Small lemmas for the walks of a seat without the core's. The walks: the law's measures. The walks: the law's copies. The walks: the law's comparisons, at equal arguments. The walks: numbers as text (the specification's); items and worlds as text. The engine, twenty-seventh text: contracts under a table that lies in memory. -/
import Derived.Test.YtggkgabigbdimaaDoorBw2
import Derived.Test.YtggkgabigbdimaaDoorProg
import Derived.Lib.AppendZeros
import Derived.Lib.ItoaNum
namespace Go.Pw
open Go Go.RowKit Go.Proofs
def tyT : List (Nat × TI) := [
  (2, ⟨.int .i64, 1, false, (Go.Value.int Go.IntKind.i64 0), 8⟩),
  (3, ⟨.int .i64, 1, false, (Go.Value.int Go.IntKind.i64 0), 8⟩),
  (4, ⟨.bool, 1, false, (Go.Value.bool false), 1⟩),
  (5, ⟨.int .u8, 1, false, (Go.Value.int Go.IntKind.u8 0), 1⟩),
  (6, ⟨.int .u8, 1, false, (Go.Value.int Go.IntKind.u8 0), 1⟩),
  (7, ⟨.struct [(0, 2), (1, 3), (2, 4), (3, 6)], 4, true, (Go.Value.agg #[Go.Value.int Go.IntKind.i64 0, Go.Value.int Go.IntKind.i64 0, Go.Value.bool false, Go.Value.int Go.IntKind.u8 0]), 24⟩),
  (8, ⟨.struct [(0, 2), (1, 3), (2, 4), (3, 6)], 4, true, (Go.Value.agg #[Go.Value.int Go.IntKind.i64 0, Go.Value.int Go.IntKind.i64 0, Go.Value.bool false, Go.Value.int Go.IntKind.u8 0]), 24⟩),
  (9, ⟨.str, 1, false, (Go.Value.string { data := #[] }), 16⟩),
  (10, ⟨.str, 1, false, (Go.Value.string { data := #[] }), 16⟩),
  (11, ⟨.str, 1, false, (Go.Value.string { data := #[] }), 16⟩),
  (12, ⟨.int .u64, 1, false, (Go.Value.int Go.IntKind.u64 0), 8⟩),
  (13, ⟨.struct [(0, 9), (1, 12)], 2, true, (Go.Value.agg #[Go.Value.string { data := #[] }, Go.Value.int Go.IntKind.u64 0]), 24⟩),
  (14, ⟨.struct [(0, 9), (1, 12)], 2, true, (Go.Value.agg #[Go.Value.string { data := #[] }, Go.Value.int Go.IntKind.u64 0]), 24⟩),
  (15, ⟨.other, 1, false, (Go.Value.pointer none), 8⟩),
  (16, ⟨.other, 1, false, (Go.Value.pointer none), 8⟩),
  (17, ⟨.other, 1, false, (Go.Value.pointer none), 8⟩),
  (18, ⟨.struct [(0, 17)], 1, true, (Go.Value.agg #[Go.Value.pointer none]), 8⟩),
  (19, ⟨.struct [(0, 17)], 1, true, (Go.Value.agg #[Go.Value.pointer none]), 8⟩),
  (20, ⟨.other, 1, false, Go.Value.nilIface, 16⟩),
  (21, ⟨.int .i32, 1, false, (Go.Value.int Go.IntKind.i32 0), 4⟩),
  (22, ⟨.slice 5, 1, false, (Go.Value.slice none 0 0), 24⟩),
  (23, ⟨.slice 68, 1, false, (Go.Value.slice none 0 0), 24⟩),
  (24, ⟨.struct [(0, 23), (1, 3), (2, 22), (3, 3)], 4, true, (Go.Value.agg #[Go.Value.slice none 0 0, Go.Value.int Go.IntKind.i64 0, Go.Value.slice none 0 0, Go.Value.int Go.IntKind.i64 0]), 64⟩),
  (25, ⟨.struct [(0, 23), (1, 3), (2, 22), (3, 3)], 4, true, (Go.Value.agg #[Go.Value.slice none 0 0, Go.Value.int Go.IntKind.i64 0, Go.Value.slice none 0 0, Go.Value.int Go.IntKind.i64 0]), 64⟩),
  (26, ⟨.slice 22, 1, false, (Go.Value.slice none 0 0), 24⟩),
  (27, ⟨.struct [(0, 22), (1, 3), (2, 26), (3, 26)], 4, true, (Go.Value.agg #[Go.Value.slice none 0 0, Go.Value.int Go.IntKind.i64 0, Go.Value.slice none 0 0, Go.Value.slice none 0 0]), 80⟩),
  (28, ⟨.struct [(0, 22), (1, 3), (2, 26), (3, 26)], 4, true, (Go.Value.agg #[Go.Value.slice none 0 0, Go.Value.int Go.IntKind.i64 0, Go.Value.slice none 0 0, Go.Value.slice none 0 0]), 80⟩),
  (29, ⟨.slice 70, 1, false, (Go.Value.slice none 0 0), 24⟩),
  (30, ⟨.slice 73, 1, false, (Go.Value.slice none 0 0), 24⟩),
  (31, ⟨.struct [(0, 22), (1, 3), (2, 3), (3, 25), (7, 28), (11, 29), (12, 30)], 13, true, (Go.Value.agg #[Go.Value.slice none 0 0, Go.Value.int Go.IntKind.i64 0, Go.Value.int Go.IntKind.i64 0, Go.Value.slice none 0 0, Go.Value.int Go.IntKind.i64 0, Go.Value.slice none 0 0, Go.Value.int Go.IntKind.i64 0, Go.Value.slice none 0 0, Go.Value.int Go.IntKind.i64 0, Go.Value.slice none 0 0, Go.Value.slice none 0 0, Go.Value.slice none 0 0, Go.Value.slice none 0 0]), 232⟩),
  (32, ⟨.struct [(0, 22), (1, 3), (2, 3), (3, 25), (7, 28), (11, 29), (12, 30)], 13, true, (Go.Value.agg #[Go.Value.slice none 0 0, Go.Value.int Go.IntKind.i64 0, Go.Value.int Go.IntKind.i64 0, Go.Value.slice none 0 0, Go.Value.int Go.IntKind.i64 0, Go.Value.slice none 0 0, Go.Value.int Go.IntKind.i64 0, Go.Value.slice none 0 0, Go.Value.int Go.IntKind.i64 0, Go.Value.slice none 0 0, Go.Value.slice none 0 0, Go.Value.slice none 0 0, Go.Value.slice none 0 0]), 232⟩),
  (35, ⟨.slice 54, 1, false, (Go.Value.slice none 0 0), 24⟩),
  (36, ⟨.struct [(0, 35), (1, 3), (2, 22), (3, 3)], 4, true, (Go.Value.agg #[Go.Value.slice none 0 0, Go.Value.int Go.IntKind.i64 0, Go.Value.slice none 0 0, Go.Value.int Go.IntKind.i64 0]), 64⟩),
  (37, ⟨.struct [(0, 35), (1, 3), (2, 22), (3, 3)], 4, true, (Go.Value.agg #[Go.Value.slice none 0 0, Go.Value.int Go.IntKind.i64 0, Go.Value.slice none 0 0, Go.Value.int Go.IntKind.i64 0]), 64⟩),
  (38, ⟨.struct [(0, 22), (1, 3), (2, 26), (3, 26)], 4, true, (Go.Value.agg #[Go.Value.slice none 0 0, Go.Value.int Go.IntKind.i64 0, Go.Value.slice none 0 0, Go.Value.slice none 0 0]), 80⟩),
  (39, ⟨.slice 77, 1, false, (Go.Value.slice none 0 0), 24⟩),
  (40, ⟨.slice 79, 1, false, (Go.Value.slice none 0 0), 24⟩),
  (41, ⟨.struct [(0, 22), (1, 3), (2, 3), (3, 37), (7, 38), (11, 39), (12, 40)], 13, true, (Go.Value.agg #[Go.Value.slice none 0 0, Go.Value.int Go.IntKind.i64 0, Go.Value.int Go.IntKind.i64 0, Go.Value.slice none 0 0, Go.Value.int Go.IntKind.i64 0, Go.Value.slice none 0 0, Go.Value.int Go.IntKind.i64 0, Go.Value.slice none 0 0, Go.Value.int Go.IntKind.i64 0, Go.Value.slice none 0 0, Go.Value.slice none 0 0, Go.Value.slice none 0 0, Go.Value.slice none 0 0]), 232⟩),
  (42, ⟨.struct [(0, 22), (1, 3), (2, 3), (3, 37), (7, 38), (11, 39), (12, 40)], 13, true, (Go.Value.agg #[Go.Value.slice none 0 0, Go.Value.int Go.IntKind.i64 0, Go.Value.int Go.IntKind.i64 0, Go.Value.slice none 0 0, Go.Value.int Go.IntKind.i64 0, Go.Value.slice none 0 0, Go.Value.int Go.IntKind.i64 0, Go.Value.slice none 0 0, Go.Value.int Go.IntKind.i64 0, Go.Value.slice none 0 0, Go.Value.slice none 0 0, Go.Value.slice none 0 0, Go.Value.slice none 0 0]), 232⟩),
  (53, ⟨.struct [(0, 9), (1, 3), (2, 3), (3, 22)], 4, true, (Go.Value.agg #[Go.Value.string { data := #[] }, Go.Value.int Go.IntKind.i64 0, Go.Value.int Go.IntKind.i64 0, Go.Value.slice none 0 0]), 56⟩),
  (54, ⟨.struct [(0, 9), (1, 3), (2, 3), (3, 22)], 4, true, (Go.Value.agg #[Go.Value.string { data := #[] }, Go.Value.int Go.IntKind.i64 0, Go.Value.int Go.IntKind.i64 0, Go.Value.slice none 0 0]), 56⟩),
  (68, ⟨.struct [(0, 9), (1, 3), (2, 3), (3, 22)], 4, true, (Go.Value.agg #[Go.Value.string { data := #[] }, Go.Value.int Go.IntKind.i64 0, Go.Value.int Go.IntKind.i64 0, Go.Value.slice none 0 0]), 56⟩),
  (69, ⟨.struct [(0, 4), (1, 68), (5, 22)], 6, true, (Go.Value.agg #[Go.Value.bool false, Go.Value.string { data := #[] }, Go.Value.int Go.IntKind.i64 0, Go.Value.int Go.IntKind.i64 0, Go.Value.slice none 0 0, Go.Value.slice none 0 0]), 88⟩),
  (70, ⟨.struct [(0, 4), (1, 68), (5, 22)], 6, true, (Go.Value.agg #[Go.Value.bool false, Go.Value.string { data := #[] }, Go.Value.int Go.IntKind.i64 0, Go.Value.int Go.IntKind.i64 0, Go.Value.slice none 0 0, Go.Value.slice none 0 0]), 88⟩),
  (72, ⟨.struct [(0, 9), (1, 3), (2, 22), (3, 22)], 4, true, (Go.Value.agg #[Go.Value.string { data := #[] }, Go.Value.int Go.IntKind.i64 0, Go.Value.slice none 0 0, Go.Value.slice none 0 0]), 72⟩),
  (73, ⟨.struct [(0, 9), (1, 3), (2, 22), (3, 22)], 4, true, (Go.Value.agg #[Go.Value.string { data := #[] }, Go.Value.int Go.IntKind.i64 0, Go.Value.slice none 0 0, Go.Value.slice none 0 0]), 72⟩),
  (76, ⟨.struct [(0, 4), (1, 54), (5, 22)], 6, true, (Go.Value.agg #[Go.Value.bool false, Go.Value.string { data := #[] }, Go.Value.int Go.IntKind.i64 0, Go.Value.int Go.IntKind.i64 0, Go.Value.slice none 0 0, Go.Value.slice none 0 0]), 88⟩),
  (77, ⟨.struct [(0, 4), (1, 54), (5, 22)], 6, true, (Go.Value.agg #[Go.Value.bool false, Go.Value.string { data := #[] }, Go.Value.int Go.IntKind.i64 0, Go.Value.int Go.IntKind.i64 0, Go.Value.slice none 0 0, Go.Value.slice none 0 0]), 88⟩),
  (79, ⟨.struct [(0, 9), (1, 3), (2, 22), (3, 22)], 4, true, (Go.Value.agg #[Go.Value.string { data := #[] }, Go.Value.int Go.IntKind.i64 0, Go.Value.slice none 0 0, Go.Value.slice none 0 0]), 72⟩),
  (89, ⟨.array 24 5, 24, true, (Go.Value.agg #[Go.Value.int Go.IntKind.u8 0, Go.Value.int Go.IntKind.u8 0, Go.Value.int Go.IntKind.u8 0, Go.Value.int Go.IntKind.u8 0, Go.Value.int Go.IntKind.u8 0, Go.Value.int Go.IntKind.u8 0, Go.Value.int Go.IntKind.u8 0, Go.Value.int Go.IntKind.u8 0, Go.Value.int Go.IntKind.u8 0, Go.Value.int Go.IntKind.u8 0, Go.Value.int Go.IntKind.u8 0, Go.Value.int Go.IntKind.u8 0, Go.Value.int Go.IntKind.u8 0, Go.Value.int Go.IntKind.u8 0, Go.Value.int Go.IntKind.u8 0, Go.Value.int Go.IntKind.u8 0, Go.Value.int Go.IntKind.u8 0, Go.Value.int Go.IntKind.u8 0, Go.Value.int Go.IntKind.u8 0, Go.Value.int Go.IntKind.u8 0, Go.Value.int Go.IntKind.u8 0, Go.Value.int Go.IntKind.u8 0, Go.Value.int Go.IntKind.u8 0, Go.Value.int Go.IntKind.u8 0]), 24⟩),
  (90, ⟨.int .u64, 1, false, (Go.Value.int Go.IntKind.u64 0), 8⟩),
  (97, ⟨.array 20 90, 20, true, (Go.Value.agg #[Go.Value.int Go.IntKind.u64 0, Go.Value.int Go.IntKind.u64 0, Go.Value.int Go.IntKind.u64 0, Go.Value.int Go.IntKind.u64 0, Go.Value.int Go.IntKind.u64 0, Go.Value.int Go.IntKind.u64 0, Go.Value.int Go.IntKind.u64 0, Go.Value.int Go.IntKind.u64 0, Go.Value.int Go.IntKind.u64 0, Go.Value.int Go.IntKind.u64 0, Go.Value.int Go.IntKind.u64 0, Go.Value.int Go.IntKind.u64 0, Go.Value.int Go.IntKind.u64 0, Go.Value.int Go.IntKind.u64 0, Go.Value.int Go.IntKind.u64 0, Go.Value.int Go.IntKind.u64 0, Go.Value.int Go.IntKind.u64 0, Go.Value.int Go.IntKind.u64 0, Go.Value.int Go.IntKind.u64 0, Go.Value.int Go.IntKind.u64 0]), 160⟩),
  (98, ⟨.int .u32, 1, false, (Go.Value.int Go.IntKind.u32 0), 4⟩),
  (101, ⟨.int .u64, 1, false, (Go.Value.int Go.IntKind.u64 0), 8⟩),
  (104, ⟨.array 32 5, 32, true, (Go.Value.agg #[Go.Value.int Go.IntKind.u8 0, Go.Value.int Go.IntKind.u8 0, Go.Value.int Go.IntKind.u8 0, Go.Value.int Go.IntKind.u8 0, Go.Value.int Go.IntKind.u8 0, Go.Value.int Go.IntKind.u8 0, Go.Value.int Go.IntKind.u8 0, Go.Value.int Go.IntKind.u8 0, Go.Value.int Go.IntKind.u8 0, Go.Value.int Go.IntKind.u8 0, Go.Value.int Go.IntKind.u8 0, Go.Value.int Go.IntKind.u8 0, Go.Value.int Go.IntKind.u8 0, Go.Value.int Go.IntKind.u8 0, Go.Value.int Go.IntKind.u8 0, Go.Value.int Go.IntKind.u8 0, Go.Value.int Go.IntKind.u8 0, Go.Value.int Go.IntKind.u8 0, Go.Value.int Go.IntKind.u8 0, Go.Value.int Go.IntKind.u8 0, Go.Value.int Go.IntKind.u8 0, Go.Value.int Go.IntKind.u8 0, Go.Value.int Go.IntKind.u8 0, Go.Value.int Go.IntKind.u8 0, Go.Value.int Go.IntKind.u8 0, Go.Value.int Go.IntKind.u8 0, Go.Value.int Go.IntKind.u8 0, Go.Value.int Go.IntKind.u8 0, Go.Value.int Go.IntKind.u8 0, Go.Value.int Go.IntKind.u8 0, Go.Value.int Go.IntKind.u8 0, Go.Value.int Go.IntKind.u8 0]), 32⟩),
  (107, ⟨.struct [(0, 17), (1, 17), (2, 17), (3, 9)], 4, true, (Go.Value.agg #[Go.Value.pointer none, Go.Value.pointer none, Go.Value.pointer none, Go.Value.string { data := #[] }]), 40⟩),
  (108, ⟨.struct [(0, 17), (1, 17), (2, 17), (3, 9)], 4, true, (Go.Value.agg #[Go.Value.pointer none, Go.Value.pointer none, Go.Value.pointer none, Go.Value.string { data := #[] }]), 40⟩),
  (109, ⟨.array 0 16, 0, true, (Go.Value.agg #[]), 0⟩),
  (110, ⟨.struct [(0, 109)], 0, true, (Go.Value.agg #[]), 0⟩),
  (111, ⟨.struct [(0, 109)], 0, true, (Go.Value.agg #[]), 0⟩),
  (113, ⟨.int .u8, 1, false, (Go.Value.int Go.IntKind.u8 0), 1⟩),
  (114, ⟨.int .u8, 1, false, (Go.Value.int Go.IntKind.u8 0), 1⟩),
  (116, ⟨.other, 1, false, (Go.Value.pointer none), 8⟩),
  (117, ⟨.int .i32, 1, false, (Go.Value.int Go.IntKind.i32 0), 4⟩),
  (118, ⟨.int .i32, 1, false, (Go.Value.int Go.IntKind.i32 0), 4⟩),
  (119, ⟨.struct [(0, 12), (1, 12), (2, 98), (3, 113), (4, 5), (5, 5), (6, 114), (7, 115), (8, 116), (9, 117), (10, 118)], 11, true, (Go.Value.agg #[Go.Value.int Go.IntKind.u64 0, Go.Value.int Go.IntKind.u64 0, Go.Value.int Go.IntKind.u32 0, Go.Value.int Go.IntKind.u8 0, Go.Value.int Go.IntKind.u8 0, Go.Value.int Go.IntKind.u8 0, Go.Value.int Go.IntKind.u8 0, Go.Value.nilFunc, Go.Value.pointer none, Go.Value.int Go.IntKind.i32 0, Go.Value.int Go.IntKind.i32 0]), 48⟩),
  (120, ⟨.struct [(0, 12), (1, 12), (2, 98), (3, 113), (4, 5), (5, 5), (6, 114), (7, 115), (8, 116), (9, 117), (10, 118)], 11, true, (Go.Value.agg #[Go.Value.int Go.IntKind.u64 0, Go.Value.int Go.IntKind.u64 0, Go.Value.int Go.IntKind.u32 0, Go.Value.int Go.IntKind.u8 0, Go.Value.int Go.IntKind.u8 0, Go.Value.int Go.IntKind.u8 0, Go.Value.int Go.IntKind.u8 0, Go.Value.nilFunc, Go.Value.pointer none, Go.Value.int Go.IntKind.i32 0, Go.Value.int Go.IntKind.i32 0]), 48⟩),
  (121, ⟨.other, 1, false, (Go.Value.pointer none), 8⟩)]
theorem tyok0 : TIok Tryd.prog (tyT[0]'(by decide)).1 (tyT[0]'(by decide)).2 := ⟨Tryd.sizeOf2, Tryd.isAgg2, Tryd.zeroValue2, ⟨Tryd.t2, by kernel_rfl, rfl, rfl, rfl⟩, Tryd.underlying2⟩
theorem tyok1 : TIok Tryd.prog (tyT[1]'(by decide)).1 (tyT[1]'(by decide)).2 := ⟨Tryd.sizeOf3, Tryd.isAgg3, Tryd.zeroValue3, ⟨Tryd.t3, by kernel_rfl, rfl, rfl, rfl⟩, Tryd.underlying3⟩
theorem tyok2 : TIok Tryd.prog (tyT[2]'(by decide)).1 (tyT[2]'(by decide)).2 := ⟨Tryd.sizeOf4, Tryd.isAgg4, Tryd.zeroValue4, ⟨Tryd.t4, by kernel_rfl, rfl, rfl, rfl⟩, Tryd.underlying4⟩
theorem tyok3 : TIok Tryd.prog (tyT[3]'(by decide)).1 (tyT[3]'(by decide)).2 := ⟨Tryd.sizeOf5, Tryd.isAgg5, Tryd.zeroValue5, ⟨Tryd.t5, by kernel_rfl, rfl, rfl, rfl⟩, Tryd.underlying5⟩
theorem tyok4 : TIok Tryd.prog (tyT[4]'(by decide)).1 (tyT[4]'(by decide)).2 := ⟨Tryd.sizeOf6, Tryd.isAgg6, Tryd.zeroValue6, ⟨Tryd.t6, by kernel_rfl, rfl, rfl, rfl⟩, Tryd.underlying6⟩
theorem tyok5 : TIok Tryd.prog (tyT[5]'(by decide)).1 (tyT[5]'(by decide)).2 := ⟨Tryd.sizeOf7, Tryd.isAgg7, Tryd.zeroValue7, ⟨Tryd.t7, by kernel_rfl, rfl, rfl, rfl⟩, ⟨_, Tryd.underlying7, rfl⟩⟩
theorem tyok6 : TIok Tryd.prog (tyT[6]'(by decide)).1 (tyT[6]'(by decide)).2 := ⟨Tryd.sizeOf8, Tryd.isAgg8, Tryd.zeroValue8, ⟨Tryd.t8, by kernel_rfl, rfl, rfl, rfl⟩, ⟨_, Tryd.underlying8, rfl⟩⟩
theorem tyok7 : TIok Tryd.prog (tyT[7]'(by decide)).1 (tyT[7]'(by decide)).2 := ⟨Tryd.sizeOf9, Tryd.isAgg9, Tryd.zeroValue9, ⟨Tryd.t9, by kernel_rfl, rfl, rfl, rfl⟩, Tryd.underlying9⟩
theorem tyok8 : TIok Tryd.prog (tyT[8]'(by decide)).1 (tyT[8]'(by decide)).2 := ⟨Tryd.sizeOf10, Tryd.isAgg10, Tryd.zeroValue10, ⟨Tryd.t10, by kernel_rfl, rfl, rfl, rfl⟩, Tryd.underlying10⟩
theorem tyok9 : TIok Tryd.prog (tyT[9]'(by decide)).1 (tyT[9]'(by decide)).2 := ⟨Tryd.sizeOf11, Tryd.isAgg11, Tryd.zeroValue11, ⟨Tryd.t11, by kernel_rfl, rfl, rfl, rfl⟩, Tryd.underlying11⟩
theorem tyok10 : TIok Tryd.prog (tyT[10]'(by decide)).1 (tyT[10]'(by decide)).2 := ⟨Tryd.sizeOf12, Tryd.isAgg12, Tryd.zeroValue12, ⟨Tryd.t12, by kernel_rfl, rfl, rfl, rfl⟩, Tryd.underlying12⟩
theorem tyok11 : TIok Tryd.prog (tyT[11]'(by decide)).1 (tyT[11]'(by decide)).2 := ⟨Tryd.sizeOf13, Tryd.isAgg13, Tryd.zeroValue13, ⟨Tryd.t13, by kernel_rfl, rfl, rfl, rfl⟩, ⟨_, Tryd.underlying13, rfl⟩⟩
theorem tyok12 : TIok Tryd.prog (tyT[12]'(by decide)).1 (tyT[12]'(by decide)).2 := ⟨Tryd.sizeOf14, Tryd.isAgg14, Tryd.zeroValue14, ⟨Tryd.t14, by kernel_rfl, rfl, rfl, rfl⟩, ⟨_, Tryd.underlying14, rfl⟩⟩
theorem tyok13 : TIok Tryd.prog (tyT[13]'(by decide)).1 (tyT[13]'(by decide)).2 := ⟨Tryd.sizeOf15, Tryd.isAgg15, Tryd.zeroValue15, ⟨Tryd.t15, by kernel_rfl, rfl, rfl, rfl⟩, trivial⟩
theorem tyok14 : TIok Tryd.prog (tyT[14]'(by decide)).1 (tyT[14]'(by decide)).2 := ⟨Tryd.sizeOf16, Tryd.isAgg16, Tryd.zeroValue16, ⟨Tryd.t16, by kernel_rfl, rfl, rfl, rfl⟩, trivial⟩
theorem tyok15 : TIok Tryd.prog (tyT[15]'(by decide)).1 (tyT[15]'(by decide)).2 := ⟨Tryd.sizeOf17, Tryd.isAgg17, Tryd.zeroValue17, ⟨Tryd.t17, by kernel_rfl, rfl, rfl, rfl⟩, trivial⟩
theorem tyok16 : TIok Tryd.prog (tyT[16]'(by decide)).1 (tyT[16]'(by decide)).2 := ⟨Tryd.sizeOf18, Tryd.isAgg18, Tryd.zeroValue18, ⟨Tryd.t18, by kernel_rfl, rfl, rfl, rfl⟩, ⟨_, Tryd.underlying18, rfl⟩⟩
theorem tyok17 : TIok Tryd.prog (tyT[17]'(by decide)).1 (tyT[17]'(by decide)).2 := ⟨Tryd.sizeOf19, Tryd.isAgg19, Tryd.zeroValue19, ⟨Tryd.t19, by kernel_rfl, rfl, rfl, rfl⟩, ⟨_, Tryd.underlying19, rfl⟩⟩
theorem tyok18 : TIok Tryd.prog (tyT[18]'(by decide)).1 (tyT[18]'(by decide)).2 := ⟨Tryd.sizeOf20, Tryd.isAgg20, Tryd.zeroValue20, ⟨Tryd.t20, by kernel_rfl, rfl, rfl, rfl⟩, trivial⟩
theorem tyok19 : TIok Tryd.prog (tyT[19]'(by decide)).1 (tyT[19]'(by decide)).2 := ⟨Tryd.sizeOf21, Tryd.isAgg21, Tryd.zeroValue21, ⟨Tryd.t21, by kernel_rfl, rfl, rfl, rfl⟩, Tryd.underlying21⟩
theorem tyok20 : TIok Tryd.prog (tyT[20]'(by decide)).1 (tyT[20]'(by decide)).2 := ⟨Tryd.sizeOf22, Tryd.isAgg22, Tryd.zeroValue22, ⟨Tryd.t22, by kernel_rfl, rfl, rfl, rfl⟩, Tryd.underlying22⟩
theorem tyok21 : TIok Tryd.prog (tyT[21]'(by decide)).1 (tyT[21]'(by decide)).2 := ⟨Tryd.sizeOf23, Tryd.isAgg23, Tryd.zeroValue23, ⟨Tryd.t23, by kernel_rfl, rfl, rfl, rfl⟩, Tryd.underlying23⟩
theorem tyok22 : TIok Tryd.prog (tyT[22]'(by decide)).1 (tyT[22]'(by decide)).2 := ⟨Tryd.sizeOf24, Tryd.isAgg24, Tryd.zeroValue24, ⟨Tryd.t24, by kernel_rfl, rfl, rfl, rfl⟩, ⟨_, Tryd.underlying24, rfl⟩⟩
theorem tyok23 : TIok Tryd.prog (tyT[23]'(by decide)).1 (tyT[23]'(by decide)).2 := ⟨Tryd.sizeOf25, Tryd.isAgg25, Tryd.zeroValue25, ⟨Tryd.t25, by kernel_rfl, rfl, rfl, rfl⟩, ⟨_, Tryd.underlying25, rfl⟩⟩
theorem tyok24 : TIok Tryd.prog (tyT[24]'(by decide)).1 (tyT[24]'(by decide)).2 := ⟨Tryd.sizeOf26, Tryd.isAgg26, Tryd.zeroValue26, ⟨Tryd.t26, by kernel_rfl, rfl, rfl, rfl⟩, Tryd.underlying26⟩
theorem tyok25 : TIok Tryd.prog (tyT[25]'(by decide)).1 (tyT[25]'(by decide)).2 := ⟨Tryd.sizeOf27, Tryd.isAgg27, Tryd.zeroValue27, ⟨Tryd.t27, by kernel_rfl, rfl, rfl, rfl⟩, ⟨_, Tryd.underlying27, rfl⟩⟩
theorem tyok26 : TIok Tryd.prog (tyT[26]'(by decide)).1 (tyT[26]'(by decide)).2 := ⟨Tryd.sizeOf28, Tryd.isAgg28, Tryd.zeroValue28, ⟨Tryd.t28, by kernel_rfl, rfl, rfl, rfl⟩, ⟨_, Tryd.underlying28, rfl⟩⟩
theorem tyok27 : TIok Tryd.prog (tyT[27]'(by decide)).1 (tyT[27]'(by decide)).2 := ⟨Tryd.sizeOf29, Tryd.isAgg29, Tryd.zeroValue29, ⟨Tryd.t29, by kernel_rfl, rfl, rfl, rfl⟩, Tryd.underlying29⟩
theorem tyok28 : TIok Tryd.prog (tyT[28]'(by decide)).1 (tyT[28]'(by decide)).2 := ⟨Tryd.sizeOf30, Tryd.isAgg30, Tryd.zeroValue30, ⟨Tryd.t30, by kernel_rfl, rfl, rfl, rfl⟩, Tryd.underlying30⟩
theorem tyok29 : TIok Tryd.prog (tyT[29]'(by decide)).1 (tyT[29]'(by decide)).2 := ⟨Tryd.sizeOf31, Tryd.isAgg31, Tryd.zeroValue31, ⟨Tryd.t31, by kernel_rfl, rfl, rfl, rfl⟩, ⟨_, Tryd.underlying31, rfl⟩⟩
theorem tyok30 : TIok Tryd.prog (tyT[30]'(by decide)).1 (tyT[30]'(by decide)).2 := ⟨Tryd.sizeOf32, Tryd.isAgg32, Tryd.zeroValue32, ⟨Tryd.t32, by kernel_rfl, rfl, rfl, rfl⟩, ⟨_, Tryd.underlying32, rfl⟩⟩
theorem tyok31 : TIok Tryd.prog (tyT[31]'(by decide)).1 (tyT[31]'(by decide)).2 := ⟨Tryd.sizeOf35, Tryd.isAgg35, Tryd.zeroValue35, ⟨Tryd.t35, by kernel_rfl, rfl, rfl, rfl⟩, Tryd.underlying35⟩
theorem tyok32 : TIok Tryd.prog (tyT[32]'(by decide)).1 (tyT[32]'(by decide)).2 := ⟨Tryd.sizeOf36, Tryd.isAgg36, Tryd.zeroValue36, ⟨Tryd.t36, by kernel_rfl, rfl, rfl, rfl⟩, ⟨_, Tryd.underlying36, rfl⟩⟩
theorem tyok33 : TIok Tryd.prog (tyT[33]'(by decide)).1 (tyT[33]'(by decide)).2 := ⟨Tryd.sizeOf37, Tryd.isAgg37, Tryd.zeroValue37, ⟨Tryd.t37, by kernel_rfl, rfl, rfl, rfl⟩, ⟨_, Tryd.underlying37, rfl⟩⟩
theorem tyok34 : TIok Tryd.prog (tyT[34]'(by decide)).1 (tyT[34]'(by decide)).2 := ⟨Tryd.sizeOf38, Tryd.isAgg38, Tryd.zeroValue38, ⟨Tryd.t38, by kernel_rfl, rfl, rfl, rfl⟩, ⟨_, Tryd.underlying38, rfl⟩⟩
theorem tyok35 : TIok Tryd.prog (tyT[35]'(by decide)).1 (tyT[35]'(by decide)).2 := ⟨Tryd.sizeOf39, Tryd.isAgg39, Tryd.zeroValue39, ⟨Tryd.t39, by kernel_rfl, rfl, rfl, rfl⟩, Tryd.underlying39⟩
theorem tyok36 : TIok Tryd.prog (tyT[36]'(by decide)).1 (tyT[36]'(by decide)).2 := ⟨Tryd.sizeOf40, Tryd.isAgg40, Tryd.zeroValue40, ⟨Tryd.t40, by kernel_rfl, rfl, rfl, rfl⟩, Tryd.underlying40⟩
theorem tyok37 : TIok Tryd.prog (tyT[37]'(by decide)).1 (tyT[37]'(by decide)).2 := ⟨Tryd.sizeOf41, Tryd.isAgg41, Tryd.zeroValue41, ⟨Tryd.t41, by kernel_rfl, rfl, rfl, rfl⟩, ⟨_, Tryd.underlying41, rfl⟩⟩
theorem tyok38 : TIok Tryd.prog (tyT[38]'(by decide)).1 (tyT[38]'(by decide)).2 := ⟨Tryd.sizeOf42, Tryd.isAgg42, Tryd.zeroValue42, ⟨Tryd.t42, by kernel_rfl, rfl, rfl, rfl⟩, ⟨_, Tryd.underlying42, rfl⟩⟩
theorem tyok39 : TIok Tryd.prog (tyT[39]'(by decide)).1 (tyT[39]'(by decide)).2 := ⟨Tryd.sizeOf53, Tryd.isAgg53, Tryd.zeroValue53, ⟨Tryd.t53, by kernel_rfl, rfl, rfl, rfl⟩, ⟨_, Tryd.underlying53, rfl⟩⟩
theorem tyok40 : TIok Tryd.prog (tyT[40]'(by decide)).1 (tyT[40]'(by decide)).2 := ⟨Tryd.sizeOf54, Tryd.isAgg54, Tryd.zeroValue54, ⟨Tryd.t54, by kernel_rfl, rfl, rfl, rfl⟩, ⟨_, Tryd.underlying54, rfl⟩⟩
theorem tyok41 : TIok Tryd.prog (tyT[41]'(by decide)).1 (tyT[41]'(by decide)).2 := ⟨Tryd.sizeOf68, Tryd.isAgg68, Tryd.zeroValue68, ⟨Tryd.t68, by kernel_rfl, rfl, rfl, rfl⟩, ⟨_, Tryd.underlying68, rfl⟩⟩
theorem tyok42 : TIok Tryd.prog (tyT[42]'(by decide)).1 (tyT[42]'(by decide)).2 := ⟨Tryd.sizeOf69, Tryd.isAgg69, Tryd.zeroValue69, ⟨Tryd.t69, by kernel_rfl, rfl, rfl, rfl⟩, ⟨_, Tryd.underlying69, rfl⟩⟩
theorem tyok43 : TIok Tryd.prog (tyT[43]'(by decide)).1 (tyT[43]'(by decide)).2 := ⟨Tryd.sizeOf70, Tryd.isAgg70, Tryd.zeroValue70, ⟨Tryd.t70, by kernel_rfl, rfl, rfl, rfl⟩, ⟨_, Tryd.underlying70, rfl⟩⟩
theorem tyok44 : TIok Tryd.prog (tyT[44]'(by decide)).1 (tyT[44]'(by decide)).2 := ⟨Tryd.sizeOf72, Tryd.isAgg72, Tryd.zeroValue72, ⟨Tryd.t72, by kernel_rfl, rfl, rfl, rfl⟩, ⟨_, Tryd.underlying72, rfl⟩⟩
theorem tyok45 : TIok Tryd.prog (tyT[45]'(by decide)).1 (tyT[45]'(by decide)).2 := ⟨Tryd.sizeOf73, Tryd.isAgg73, Tryd.zeroValue73, ⟨Tryd.t73, by kernel_rfl, rfl, rfl, rfl⟩, ⟨_, Tryd.underlying73, rfl⟩⟩
theorem tyok46 : TIok Tryd.prog (tyT[46]'(by decide)).1 (tyT[46]'(by decide)).2 := ⟨Tryd.sizeOf76, Tryd.isAgg76, Tryd.zeroValue76, ⟨Tryd.t76, by kernel_rfl, rfl, rfl, rfl⟩, ⟨_, Tryd.underlying76, rfl⟩⟩
theorem tyok47 : TIok Tryd.prog (tyT[47]'(by decide)).1 (tyT[47]'(by decide)).2 := ⟨Tryd.sizeOf77, Tryd.isAgg77, Tryd.zeroValue77, ⟨Tryd.t77, by kernel_rfl, rfl, rfl, rfl⟩, ⟨_, Tryd.underlying77, rfl⟩⟩
theorem tyok48 : TIok Tryd.prog (tyT[48]'(by decide)).1 (tyT[48]'(by decide)).2 := ⟨Tryd.sizeOf79, Tryd.isAgg79, Tryd.zeroValue79, ⟨Tryd.t79, by kernel_rfl, rfl, rfl, rfl⟩, ⟨_, Tryd.underlying79, rfl⟩⟩
theorem tyok49 : TIok Tryd.prog (tyT[49]'(by decide)).1 (tyT[49]'(by decide)).2 := ⟨Tryd.sizeOf89, Tryd.isAgg89, Tryd.zeroValue89, ⟨Tryd.t89, by kernel_rfl, rfl, rfl, rfl⟩, Tryd.underlying89⟩
theorem tyok50 : TIok Tryd.prog (tyT[50]'(by decide)).1 (tyT[50]'(by decide)).2 := ⟨Tryd.sizeOf90, Tryd.isAgg90, Tryd.zeroValue90, ⟨Tryd.t90, by kernel_rfl, rfl, rfl, rfl⟩, Tryd.underlying90⟩
theorem tyok51 : TIok Tryd.prog (tyT[51]'(by decide)).1 (tyT[51]'(by decide)).2 := ⟨Tryd.sizeOf97, Tryd.isAgg97, Tryd.zeroValue97, ⟨Tryd.t97, by kernel_rfl, rfl, rfl, rfl⟩, Tryd.underlying97⟩
theorem tyok52 : TIok Tryd.prog (tyT[52]'(by decide)).1 (tyT[52]'(by decide)).2 := ⟨Tryd.sizeOf98, Tryd.isAgg98, Tryd.zeroValue98, ⟨Tryd.t98, by kernel_rfl, rfl, rfl, rfl⟩, Tryd.underlying98⟩
theorem tyok53 : TIok Tryd.prog (tyT[53]'(by decide)).1 (tyT[53]'(by decide)).2 := ⟨Tryd.sizeOf101, Tryd.isAgg101, Tryd.zeroValue101, ⟨Tryd.t101, by kernel_rfl, rfl, rfl, rfl⟩, Tryd.underlying101⟩
theorem tyok54 : TIok Tryd.prog (tyT[54]'(by decide)).1 (tyT[54]'(by decide)).2 := ⟨Tryd.sizeOf104, Tryd.isAgg104, Tryd.zeroValue104, ⟨Tryd.t104, by kernel_rfl, rfl, rfl, rfl⟩, Tryd.underlying104⟩
theorem tyok55 : TIok Tryd.prog (tyT[55]'(by decide)).1 (tyT[55]'(by decide)).2 := ⟨Tryd.sizeOf107, Tryd.isAgg107, Tryd.zeroValue107, ⟨Tryd.t107, by kernel_rfl, rfl, rfl, rfl⟩, ⟨_, Tryd.underlying107, rfl⟩⟩
theorem tyok56 : TIok Tryd.prog (tyT[56]'(by decide)).1 (tyT[56]'(by decide)).2 := ⟨Tryd.sizeOf108, Tryd.isAgg108, Tryd.zeroValue108, ⟨Tryd.t108, by kernel_rfl, rfl, rfl, rfl⟩, ⟨_, Tryd.underlying108, rfl⟩⟩
theorem tyok57 : TIok Tryd.prog (tyT[57]'(by decide)).1 (tyT[57]'(by decide)).2 := ⟨Tryd.sizeOf109, Tryd.isAgg109, Tryd.zeroValue109, ⟨Tryd.t109, by kernel_rfl, rfl, rfl, rfl⟩, Tryd.underlying109⟩
theorem tyok58 : TIok Tryd.prog (tyT[58]'(by decide)).1 (tyT[58]'(by decide)).2 := ⟨Tryd.sizeOf110, Tryd.isAgg110, Tryd.zeroValue110, ⟨Tryd.t110, by kernel_rfl, rfl, rfl, rfl⟩, ⟨_, Tryd.underlying110, rfl⟩⟩
theorem tyok59 : TIok Tryd.prog (tyT[59]'(by decide)).1 (tyT[59]'(by decide)).2 := ⟨Tryd.sizeOf111, Tryd.isAgg111, Tryd.zeroValue111, ⟨Tryd.t111, by kernel_rfl, rfl, rfl, rfl⟩, ⟨_, Tryd.underlying111, rfl⟩⟩
theorem tyok60 : TIok Tryd.prog (tyT[60]'(by decide)).1 (tyT[60]'(by decide)).2 := ⟨Tryd.sizeOf113, Tryd.isAgg113, Tryd.zeroValue113, ⟨Tryd.t113, by kernel_rfl, rfl, rfl, rfl⟩, Tryd.underlying113⟩
theorem tyok61 : TIok Tryd.prog (tyT[61]'(by decide)).1 (tyT[61]'(by decide)).2 := ⟨Tryd.sizeOf114, Tryd.isAgg114, Tryd.zeroValue114, ⟨Tryd.t114, by kernel_rfl, rfl, rfl, rfl⟩, Tryd.underlying114⟩
theorem tyok62 : TIok Tryd.prog (tyT[62]'(by decide)).1 (tyT[62]'(by decide)).2 := ⟨Tryd.sizeOf116, Tryd.isAgg116, Tryd.zeroValue116, ⟨Tryd.t116, by kernel_rfl, rfl, rfl, rfl⟩, trivial⟩
theorem tyok63 : TIok Tryd.prog (tyT[63]'(by decide)).1 (tyT[63]'(by decide)).2 := ⟨Tryd.sizeOf117, Tryd.isAgg117, Tryd.zeroValue117, ⟨Tryd.t117, by kernel_rfl, rfl, rfl, rfl⟩, Tryd.underlying117⟩
theorem tyok64 : TIok Tryd.prog (tyT[64]'(by decide)).1 (tyT[64]'(by decide)).2 := ⟨Tryd.sizeOf118, Tryd.isAgg118, Tryd.zeroValue118, ⟨Tryd.t118, by kernel_rfl, rfl, rfl, rfl⟩, Tryd.underlying118⟩
theorem tyok65 : TIok Tryd.prog (tyT[65]'(by decide)).1 (tyT[65]'(by decide)).2 := ⟨Tryd.sizeOf119, Tryd.isAgg119, Tryd.zeroValue119, ⟨Tryd.t119, by kernel_rfl, rfl, rfl, rfl⟩, ⟨_, Tryd.underlying119, rfl⟩⟩
theorem tyok66 : TIok Tryd.prog (tyT[66]'(by decide)).1 (tyT[66]'(by decide)).2 := ⟨Tryd.sizeOf120, Tryd.isAgg120, Tryd.zeroValue120, ⟨Tryd.t120, by kernel_rfl, rfl, rfl, rfl⟩, ⟨_, Tryd.underlying120, rfl⟩⟩
theorem tyok67 : TIok Tryd.prog (tyT[67]'(by decide)).1 (tyT[67]'(by decide)).2 := ⟨Tryd.sizeOf121, Tryd.isAgg121, Tryd.zeroValue121, ⟨Tryd.t121, by kernel_rfl, rfl, rfl, rfl⟩, trivial⟩
theorem tyAll : ∀ x ∈ tyT, TIok Tryd.prog x.1 x.2 :=
  List.forall_mem_cons.2 ⟨tyok0, List.forall_mem_cons.2 ⟨tyok1, List.forall_mem_cons.2 ⟨tyok2, List.forall_mem_cons.2 ⟨tyok3, List.forall_mem_cons.2 ⟨tyok4, List.forall_mem_cons.2 ⟨tyok5, List.forall_mem_cons.2 ⟨tyok6, List.forall_mem_cons.2 ⟨tyok7, List.forall_mem_cons.2 ⟨tyok8, List.forall_mem_cons.2 ⟨tyok9, List.forall_mem_cons.2 ⟨tyok10, List.forall_mem_cons.2 ⟨tyok11, List.forall_mem_cons.2 ⟨tyok12, List.forall_mem_cons.2 ⟨tyok13, List.forall_mem_cons.2 ⟨tyok14, List.forall_mem_cons.2 ⟨tyok15, List.forall_mem_cons.2 ⟨tyok16, List.forall_mem_cons.2 ⟨tyok17, List.forall_mem_cons.2 ⟨tyok18, List.forall_mem_cons.2 ⟨tyok19, List.forall_mem_cons.2 ⟨tyok20, List.forall_mem_cons.2 ⟨tyok21, List.forall_mem_cons.2 ⟨tyok22, List.forall_mem_cons.2 ⟨tyok23, List.forall_mem_cons.2 ⟨tyok24, List.forall_mem_cons.2 ⟨tyok25, List.forall_mem_cons.2 ⟨tyok26, List.forall_mem_cons.2 ⟨tyok27, List.forall_mem_cons.2 ⟨tyok28, List.forall_mem_cons.2 ⟨tyok29, List.forall_mem_cons.2 ⟨tyok30, List.forall_mem_cons.2 ⟨tyok31, List.forall_mem_cons.2 ⟨tyok32, List.forall_mem_cons.2 ⟨tyok33, List.forall_mem_cons.2 ⟨tyok34, List.forall_mem_cons.2 ⟨tyok35, List.forall_mem_cons.2 ⟨tyok36, List.forall_mem_cons.2 ⟨tyok37, List.forall_mem_cons.2 ⟨tyok38, List.forall_mem_cons.2 ⟨tyok39, List.forall_mem_cons.2 ⟨tyok40, List.forall_mem_cons.2 ⟨tyok41, List.forall_mem_cons.2 ⟨tyok42, List.forall_mem_cons.2 ⟨tyok43, List.forall_mem_cons.2 ⟨tyok44, List.forall_mem_cons.2 ⟨tyok45, List.forall_mem_cons.2 ⟨tyok46, List.forall_mem_cons.2 ⟨tyok47, List.forall_mem_cons.2 ⟨tyok48, List.forall_mem_cons.2 ⟨tyok49, List.forall_mem_cons.2 ⟨tyok50, List.forall_mem_cons.2 ⟨tyok51, List.forall_mem_cons.2 ⟨tyok52, List.forall_mem_cons.2 ⟨tyok53, List.forall_mem_cons.2 ⟨tyok54, List.forall_mem_cons.2 ⟨tyok55, List.forall_mem_cons.2 ⟨tyok56, List.forall_mem_cons.2 ⟨tyok57, List.forall_mem_cons.2 ⟨tyok58, List.forall_mem_cons.2 ⟨tyok59, List.forall_mem_cons.2 ⟨tyok60, List.forall_mem_cons.2 ⟨tyok61, List.forall_mem_cons.2 ⟨tyok62, List.forall_mem_cons.2 ⟨tyok63, List.forall_mem_cons.2 ⟨tyok64, List.forall_mem_cons.2 ⟨tyok65, List.forall_mem_cons.2 ⟨tyok66, List.forall_mem_cons.2 ⟨tyok67, List.forall_mem_nil _⟩⟩⟩⟩⟩⟩⟩⟩⟩⟩⟩⟩⟩⟩⟩⟩⟩⟩⟩⟩⟩⟩⟩⟩⟩⟩⟩⟩⟩⟩⟩⟩⟩⟩⟩⟩⟩⟩⟩⟩⟩⟩⟩⟩⟩⟩⟩⟩⟩⟩⟩⟩⟩⟩⟩⟩⟩⟩⟩⟩⟩⟩⟩⟩⟩⟩⟩⟩
instance tcProg : TC Tryd.prog := ⟨tyT, tyAll⟩
end Go.Pw
set_option linter.unusedVariables false
set_option linter.unusedSimpArgs false
namespace Go.Pw
open Go Go.RowKit
theorem run_grow_zeros {P : Program} (w : World) (t tn ty e : TypeId) (i : TypeInfo) (z : Value) {kn : IntKind} (ht : P.underlying t = some (.slice e)) (htn : P.underlying tn = some (.int kn)) (hi : P.info? e = some i) (hz : i.zero = some z)
    (b : Addr) (sLen sCap : Nat) (olds : List Value) (hlo : olds.length = sLen * i.size) (holds : ∀ j v, olds[j]? = some v → w.cell? (b.add j) = some v)
    (n : Nat) (h0 : 0 < n) (hs0 : 0 < i.size) (hg : sCap < sLen + n) (h63 : ((sLen + n : Nat) : Int) ≤ 9223372036854775807) (h48i : ¬ (281474976710656 < (n : Int) * (i.bytes : Int))) (hfit : Builtin.nextslicecap (sLen + n) sCap * i.bytes ≤ 281474976710656) :
    (Builtin.append_ #[t, tn] ty #[.slice (some b) sLen sCap, .int .i64 (n : Int)]).run P w =
      .ok (.slice (some ⟨w.heap.size, 0, none⟩) (sLen + n) (grownCap w (sLen + n) sCap e))
        (w.drew.alloc (.cells (olds.toArray ++ (Builtin.zeroCells z.cells n).toList.toArray ++ Builtin.zeroCells z.cells (grownCap w (sLen + n) sCap e - (sLen + n))) e)) := by
  have hw : IntKind.i64.wrap (n : Int) = n := by rw [IntKind.wrap_i64]; omega
  have hneg : ¬ ((n : Int) < 0) := by omega
  have hns : ¬ (n * i.size = 0) := Nat.mul_ne_zero (by omega) (by omega)
  have hn : ¬ (sLen + n ≤ sCap) := by omega
  have h63' : ¬ (9223372036854775807 < ((sLen : Int) + (n : Int))) := by omega
  have h48' : ¬ (281474976710656 < Builtin.nextslicecap (sLen + n) sCap * i.bytes) := by omega
  have hfo := run_firstCells_some (P := P) w.drew i.size sLen b sLen sCap olds hlo (by simpa using holds)
  simp [Builtin.append_, run_underlying ht, run_underlying htn, sizeOf, typeInfo, zeroValue, hi, hz, asInt, asIntOf, hw, hneg, hns, h48i, hn, h63', h48', Question.forced, hfo, newRow, grownCap]
theorem run_appZ {P : Program} [TC P] {W : World} {base : Nat} {Z : Cells} {sz n m : Nat} {v : Value} {t tn ty e : Nat} {kn : IntKind} {i j : TI} (htn : P.underlying tn = some (.int kn)) (ht : lk (TC.T P) t = some i) (hd : i.d = .slice e) (he : lk (TC.T P) e = some j) (hj : j.sz = sz) (hzs : j.zero.cells.size = sz) (hbase : base ≤ W.heap.size)
    (hok : TkOk base Z W sz n v) {xs news : List Value} (hx : xs.length = n * sz) (hxs : ∀ g cap, v = .slice (some ⟨g, 0, none⟩) n cap → ∀ (j : Nat) (u : Value), xs[j]? = some u → W.cell? ⟨g, j, none⟩ = some u)
    (hl : news.length = m * sz) (h1 : ∀ u ∈ news, u.oneCell' = true) (hN : news = (Builtin.zeroCells j.zero.cells m).toList) (hs0 : 0 < sz)
    (hb : (n + m) * j.bytes ≤ 140737488355328) (h63 : n + m ≤ 9223372036854775807) :
    ∃ v' W', (Builtin.append_ #[t, tn] ty #[v, .int .i64 (m : Int)]).run P W = .ok v' W' ∧ Grew base W sz v n xs news m v' W' := by
  have hu := (TC.at_ ht).und
  rw [hd] at hu
  have hu : P.underlying t = some (.slice e) := hu
  have hw : IntKind.i64.wrap (m : Int) = m := by rw [IntKind.wrap_i64]; omega
  have hneg : ¬ ((m : Int) < 0) := by omega
  obtain ⟨ti, hi, hi1, hi2, hi3⟩ := (TC.at_ he).info
  rw [hj] at hi1
  by_cases hm : m = 0
  · subst hm
    have hn0 : news = [] := List.eq_nil_of_length_eq_zero (by simpa using hl)
    subst hn0
    refine ⟨v, W, ?_, ⟨rfl, rfl, rfl, Nat.le_refl _, .inl ⟨rfl, rfl, rfl⟩⟩⟩
    rcases hok with ⟨rfl, rfl⟩ | ⟨g, cap, cur, e', rfl, hh, h2, h3, h4, h5, h6⟩
    · have hw0 : IntKind.i64.wrap 0 = 0 := by decide
      simp [Builtin.append_, run_underlying hu, run_underlying htn, sizeOf, typeInfo, hi, asInt, asIntOf, hw0]
    · have hw0 : IntKind.i64.wrap 0 = 0 := by decide
      simp [Builtin.append_, run_underlying hu, run_underlying htn, sizeOf, typeInfo, hi, asInt, asIntOf, hw0, h2, storeCells]
  · have h48i : ¬ (281474976710656 < (m : Int) * (ti.bytes : Int)) := by
      rw [← Int.natCast_mul]
      have : m * j.bytes ≤ (n + m) * j.bytes := Nat.mul_le_mul_right _ (by omega)
      rw [← hi2] at hb this
      omega
    have hns : ¬ (m * ti.size = 0) := by rw [hi1]; exact Nat.mul_ne_zero hm (by omega)
    have hbytes : (n + m) * ti.bytes ≤ 140737488355328 := by rw [hi2]; exact hb
    have hcapm : n + m ≤ maxLen := by simp only [maxLen]; omega
    rcases hok with ⟨rfl, rfl⟩ | ⟨g, cap, cur, e', rfl, hh, h2, h3, h4, h5, h6⟩
    · have hx0 : xs = [] := List.eq_nil_of_length_eq_zero (by simpa using hx)
      subst hx0
      have hr := Lib.run_append_nil_zeros (P := P) W t tn ty e ti j.zero .i64 kn hu htn hi hi3 m (by omega) (by omega) (by omega) (by have := hbytes; simp only [Nat.zero_add] at this; omega)
      refine ⟨_, _, hr, ⟨rfl, rfl, rfl, by simp, .inr ⟨by omega, W.heap.size, _, _, e, by rw [Nat.zero_add], heap_alloc_new W.drew _, by rw [Nat.zero_add]; exact grownCap_ge W m 0 e, grownCap_le_maxLen W m 0 e (by omega), ?_, hbase, fun k u hu => ?_, fun k hk hlt => Below.heap_alloc W.drew _ k hlt, .inr rfl⟩⟩⟩
      · refine Nat.le_of_eq ?_
        simp only [Array.size_append, size_zeroCells, hzs, ← Nat.add_mul]
        congr 1
        have := grownCap_ge W m 0 e
        omega
      · rw [List.nil_append] at hu
        rw [hN] at hu
        have hu2 : (Builtin.zeroCells j.zero.cells m)[k]? = some u := by rw [← Array.getElem?_toList]; exact hu
        rw [Array.getElem?_append_left (Array.getElem?_eq_some_iff.1 hu2).1]
        exact hu2
    · by_cases hroom : n + m ≤ cap
      · have hfit : n * ti.size + news.length ≤ cur.size := by rw [hl, hi1, ← Nat.add_mul]; exact Nat.le_trans (Nat.mul_le_mul_right _ hroom) h4
        have hee : e' = e' := rfl
        have hr : (Builtin.append_ #[t, tn] ty #[.slice (some ⟨g, 0, none⟩) n cap, .int .i64 (m : Int)]).run P W = .ok (.slice (some ⟨g, 0, none⟩) (n + m) cap) (W.setRow g (cur.toList.take (n * ti.size) ++ news ++ cur.toList.drop (n * ti.size + news.length)).toArray) := by
          have hst := run_storeCells_at P g (n * ti.size) e' news 0 cur W hh (by simpa using hfit) h1
          simp only [Nat.add_zero] at hst
          simp [Builtin.append_, run_underlying hu, run_underlying htn, sizeOf, typeInfo, zeroValue, hi, hi3, asInt, asIntOf, hw, hneg, h48i, hns, hroom, ← hN, Addr.add_lit, hst]
        have hcur : ∀ (k : Nat) (u : Value), xs[k]? = some u → cur[k]? = some u := fun k u hk => by
          have := hxs g cap rfl k u hk
          rw [cell_of_row W g k cur e' (0, 0) hh] at this
          exact this
        refine ⟨_, _, hr, ⟨rfl, rfl, rfl, by simp, .inr ⟨by omega, g, cap, _, e', rfl, setRow_heap W g cur _ e' _ hh, hroom, h3, ?_, h5, fun k u hk => ?_, fun k hk _ => setRow_other W g k _ hk, .inl rfl⟩⟩⟩
        · simp only [List.size_toArray, List.length_append, List.length_take, List.length_drop, Array.length_toList]
          omega
        · rw [hi1]
          by_cases hkn : k < n * sz
          · rw [List.getElem?_append_left (by omega)] at hk
            have := hcur k u hk
            simp only [List.append_assoc, List.getElem?_toArray]
            rw [List.getElem?_append_left (by rw [List.length_take, Array.length_toList]; have := (Array.getElem?_eq_some_iff.1 this).1; omega), List.getElem?_take_of_lt hkn]
            simpa using this
          · rw [List.getElem?_append_right (by omega), hx] at hk
            have hk2 := (List.getElem?_eq_some_iff.1 hk).1
            simp only [List.append_assoc, List.getElem?_toArray]
            have ht2 : (cur.toList.take (n * sz)).length = n * sz := by rw [List.length_take, Array.length_toList]; rw [hi1] at hfit; omega
            rw [List.getElem?_append_right (by omega), ht2, List.getElem?_append_left (by omega)]
            exact hk
      · have holds : ∀ (j : Nat) (u : Value), xs[j]? = some u → W.cell? ((⟨g, 0, none⟩ : Addr).add j) = some u := fun j u hj => by rw [Addr.add_lit, Nat.zero_add]; exact hxs g cap rfl j u hj
        have hr := run_grow_zeros (P := P) W t tn ty e ti j.zero hu htn hi hi3 ⟨g, 0, none⟩ n cap xs (by rw [hi1]; exact hx) holds m (by omega) (by omega) (by omega) (by omega) h48i (growslice_fits (by omega) hbytes)
        rw [← hN] at hr
        refine ⟨_, _, hr, ⟨rfl, rfl, rfl, by simp, .inr ⟨by omega, W.heap.size, _, _, e, rfl, heap_alloc_new W.drew _, grownCap_ge W (n + m) cap e, grownCap_le_maxLen W (n + m) cap e hcapm, ?_, hbase, fun k u hu => ?_, fun k hk hlt => Below.heap_alloc W.drew _ k hlt, .inr rfl⟩⟩⟩
        · refine Nat.le_of_eq ?_
          simp only [Array.size_append, List.size_toArray, size_zeroCells, hzs, hl, hx, ← Nat.add_mul]
          congr 1
          have := grownCap_ge W (n + m) cap e
          omega
        · have hk2 := (List.getElem?_eq_some_iff.1 hu).1
          rw [Array.getElem?_append_left (by simpa using hk2)]
          simpa using hu
theorem rep_at {α : Type} (L : List α) {sz : Nat} (hL : L.length = sz) : ∀ (m i j : Nat), i < m → j < sz → (List.replicate m L).flatten[i * sz + j]? = L[j]?
  | 0, i, j, h, _ => by omega
  | m + 1, 0, j, _, hj => by
    rw [List.replicate_succ, List.flatten_cons, Nat.zero_mul, Nat.zero_add, List.getElem?_append_left (by omega)]
  | m + 1, i + 1, j, h, hj => by
    have e : (i + 1) * sz + j - sz = i * sz + j := by rw [Nat.succ_mul]; omega
    rw [List.replicate_succ, List.flatten_cons, List.getElem?_append_right (by rw [Nat.succ_mul]; omega), hL, e]
    exact rep_at L hL m i j (by omega) hj
theorem zero_cells {Z : Cells} {sz m : Nat} {j : TI} (hzs : j.zero.cells.size = sz) (h1z : j.zero.cells.toList.all Value.oneCell' = true) : CellsOf Z sz (List.replicate m (j.zero.cells.toList.map PV.lit)) (Builtin.zeroCells j.zero.cells m).toList := by
  rw [zeroCells_flat]
  have hL : j.zero.cells.toList.length = sz := by rw [Array.length_toList, hzs]
  refine ⟨?_, fun e he => ?_, fun u hu => ?_, fun i e k p hi hk => ?_⟩
  · rw [List.length_replicate]
    induction m with
    | zero => simp
    | succ m ih => rw [List.replicate_succ, List.flatten_cons, List.length_append, ih, hL, Nat.succ_mul]; omega
  · rw [List.eq_of_mem_replicate he, List.length_map, hL]
  · obtain ⟨l, hl, hu⟩ := List.mem_flatten.1 hu
    rw [List.eq_of_mem_replicate hl] at hu
    exact List.all_eq_true.1 h1z u hu
  · have him : i < m := by simpa using (List.getElem?_eq_some_iff.1 hi).1
    have he : e = j.zero.cells.toList.map PV.lit := List.eq_of_mem_replicate (List.mem_of_getElem? hi)
    subst he
    rw [List.getElem?_map] at hk
    have hks : k < sz := by
      rcases Nat.lt_or_ge k sz with h | h
      · exact h
      · rw [List.getElem?_eq_none (by omega)] at hk; simp at hk
    obtain ⟨u, hu⟩ : ∃ u, j.zero.cells.toList[k]? = some u := ⟨_, List.getElem?_eq_getElem (by omega)⟩
    rw [hu] at hk
    simp only [Option.map_some, Option.some.injEq] at hk
    subst hk
    exact ⟨u, by rw [rep_at _ hL m i k him hks]; exact hu, .lit _ _⟩
theorem appZ_step {cx : Cx} [TC cx.P] {S : PS} {a : Act} {W : World} {Z : Cells} {μ : Mu} (hz : RZ cx S a W Z μ) {tok sz m : Nat} {es : List (List PV)} {v : Value} {t tn ty e : Nat} {kn : IntKind} {i j : TI} (htn : cx.P.underlying tn = some (.int kn)) (hv : Rep Z μ (.sl sz es (some tok)) v)
    (htk : lk S.h.tk tok = some (sz, es.length)) (ht : lk (TC.T cx.P) t = some i) (hd : i.d = .slice e) (he : lk (TC.T cx.P) e = some j) (hj : j.sz = sz) (hzs : j.zero.cells.size = sz) (h1z : j.zero.cells.toList.all Value.oneCell' = true) (hs0 : 0 < sz) (hb : (es.length + m) * j.bytes ≤ 140737488355328) (h63 : es.length + m ≤ 9223372036854775807) :
    ∃ v' W' Z' μ', (Builtin.append_ #[t, tn] ty #[v, .int .i64 (m : Int)]).run cx.P W = .ok v' W' ∧ RZ cx ⟨S.env, ⟨S.h.bx, (tok, (sz, (es ++ (List.replicate m (j.zero.cells.toList.map PV.lit))).length)) :: S.h.tk⟩⟩ a W' Z' μ' ∧ Rep Z' μ' (.sl sz (es ++ (List.replicate m (j.zero.cells.toList.map PV.lit))) (some tok)) v' := by
  obtain ⟨A0, c0, xs, rfl, hc0, hxs, hZx⟩ := hv.news
  generalize hnew : (List.replicate m (j.zero.cells.toList.map PV.lit)) = new
  have hnl : new.length = m := by rw [← hnew]; simp
  generalize hN : (Builtin.zeroCells j.zero.cells m).toList = news
  have hns : CellsOf Z sz new news := by rw [← hnew, ← hN]; exact zero_cells hzs h1z
  have hvtk : μ.tk tok es.length = some (.slice A0 es.length c0) := by cases hv with | own _ _ _ _ _ _ ht => exact ht
  obtain ⟨v0, hv0, hok⟩ := hz.h.tk tok sz es.length htk
  rw [hvtk] at hv0
  cases hv0
  have hxcell : ∀ g cap, Value.slice A0 es.length c0 = .slice (some ⟨g, 0, none⟩) es.length cap → ∀ (j : Nat) (u : Value), xs[j]? = some u → W.cell? ⟨g, j, none⟩ = some u := fun g cap e k u hu => by
    cases e
    have hpos : 0 < es.length := by
      rcases Nat.eq_zero_or_pos es.length with h0 | h0
      · have := hxs.len; rw [h0, Nat.zero_mul] at this
        rw [List.eq_nil_of_length_eq_zero this] at hu; simp at hu
      · exact h0
    obtain ⟨ad, e2, hc⟩ := hZx hpos
    cases e2
    have := hz.sub _ _ (hc k u hu)
    rwa [Addr.add_lit, Nat.zero_add] at this
  obtain ⟨v', W', hr, hg⟩ := run_appZ (ty := ty) htn ht hd he hj hzs hz.below.size hok hxs.len hxcell (by rw [hns.len, hnl]) hns.one hN.symm hs0 hb h63
  rw [← hnl] at hg
  have hlen : (es ++ new).length = es.length + new.length := List.length_append
  rcases hg.out with ⟨rfl, rfl, hm⟩ | ⟨hpos, g, cap, cur, e', rfl, hh, hcap, hcm, hcs, hbg, hcur, hoth, hwhere⟩
  · have hn : new = [] := List.eq_nil_of_length_eq_zero hm
    subst hn
    refine ⟨_, _, Z, μ, hr, ?_, by rw [List.append_nil]; exact hv⟩
    rw [List.append_nil]
    refine ⟨hz.env, ?_, hz.sub, hz.le, hz.below⟩
    have hsame : ∀ u, lk ((tok, (sz, es.length)) :: S.h.tk) u = lk S.h.tk u := fun u => by
      rw [lk_cons]; by_cases h : tok = u
      · subst h; rw [if_pos rfl, htk]
      · rw [if_neg h]
    exact ⟨hz.h.bx, fun u s n h => hz.h.tk u s n (by rwa [hsame] at h), hz.h.bb, fun p q s n s' n' a b g h1 h2 => hz.h.tt p q s n s' n' a b g (by rwa [hsame] at h1) (by rwa [hsame] at h2), hz.h.bd, fun u n x h => by show lk ((tok, (sz, es.length)) :: S.h.tk) u ≠ none; rw [hsame]; exact hz.h.td u n x h, fun u n x s m h h2 => hz.h.tm u n x s m h (by rwa [hsame] at h2), fun p q x s n b g h1 h2 => hz.h.bt p q x s n b g h1 (by rwa [hsame] at h2)⟩
  · have hcell : ∀ (k : Nat) (u : Value), (xs ++ news)[k]? = some u → W'.cell? ⟨g, k, none⟩ = some u := fun k u hu => by
      rw [cell_of_row W' g k cur e' (0, 0) hh]; exact hcur k u hu
    have hZg : ∀ off, es.length * sz ≤ off → Z ⟨g, off, none⟩ = none := fun off ho => by
      rcases hwhere with h1 | h1
      · rcases hok with ⟨h2, _⟩ | ⟨g2, c2, cur2, e2, h2, _, _, _, _, _, h3⟩
        · rw [h2] at h1; simp [Value.ownBlock] at h1
        · rw [h2] at h1; simp [Value.ownBlock] at h1; subst h1; exact h3 off ho
      · exact hz.sub.free (by omega) off
    have hsub1 : Sub Z W' := fun ad u e => by
      have hlt := hz.sub.lt e
      by_cases hg2 : ad.block = g
      · have hsp := hz.sub.spot e
        have had : ad = ⟨g, ad.off, none⟩ := by cases ad; simp at hg2 hsp ⊢; exact ⟨hg2, hsp⟩
        have hoff : ad.off < es.length * sz := by
          rcases Nat.lt_or_ge ad.off (es.length * sz) with h | h
          · exact h
          · rw [had, hZg _ h] at e; cases e
        rw [had] at e ⊢
        have hin : ad.off < xs.length := by rw [hxs.len]; exact hoff
        have hA0 : A0 = some ⟨g, 0, none⟩ := by
          rcases hwhere with h1 | h1
          · rcases hok with ⟨h2, _⟩ | ⟨g2, c2, cur2, e2, h2, _⟩
            · rw [h2] at h1; simp [Value.ownBlock] at h1
            · rw [h2] at h1; simp [Value.ownBlock] at h1; subst h1; cases h2; rfl
          · omega
        have hx1 := hxcell g c0 (by rw [hA0]) ad.off _ (List.getElem?_eq_getElem hin)
        rw [hz.sub _ _ e] at hx1
        have hx2 := hcell ad.off _ (by rw [List.getElem?_append_left hin]; exact List.getElem?_eq_getElem hin)
        rw [hx2]; exact hx1.symm
      · exact (World.cell?_of_block (hoth ad.block hg2 hlt)).trans (hz.sub ad u e)
    have hsub2 : Sub (Z.add g (xs ++ news)) W' := hsub1.add hcell
    have hle2 : μ.le (μ.setTk tok (es ++ new).length (.slice (some ⟨g, 0, none⟩) (es.length + new.length) cap)) := Mu.setTk_le fun u hu => by
      have hmx := hz.h.tm _ _ _ _ _ hu htk
      omega
    have hR := hz.h.setTk (W' := W') (Z' := Z.add g (xs ++ news)) htk hvtk (by omega : es.length ≤ (es ++ new).length) hle2 (Cells.le_add _ _ _) (.inr ⟨g, cap, cur, e', by rw [hlen], hh, by omega, hcm, hcs, hbg, fun off ho => Cells.add_none (hZg off (Nat.le_trans (Nat.mul_le_mul_right _ (by omega)) ho)) (fun _ => by rw [List.length_append, hxs.len, hns.len, ← Nat.add_mul, ← hlen]; exact ho)⟩) (g := g) rfl hwhere (fun k hk hlt => hoth k hk hlt) (fun k off hk h0 => Cells.add_none h0 (fun e => absurd e hk))
    refine ⟨_, _, _, _, hr, ⟨hz.env.mono (Cells.le_add _ _ _) hle2, hR, hsub2, hz.le.trans ⟨Cells.le_add _ _ _, fun ad u e => (Cells.add_inv e).imp id (fun x => by omega)⟩ (Nat.le_refl _), hz.below.trans ⟨hg.os, hg.tape, hg.output, hg.size, fun k hk => hoth k (by omega) (Nat.lt_of_lt_of_le hk hz.below.size)⟩⟩, ?_⟩
    have hrep := ((hxs.append hns).mono (Cells.le_add Z g (xs ++ news))).rep (A := some ⟨g, 0, none⟩) (c := cap) (by omega) (fun _ => ⟨_, rfl, fun k u hu => by rw [Addr.add_lit, Nat.zero_add]; exact Cells.add_at hsub1 hcell k u hu⟩) (μ.setTk tok (es ++ new).length (.slice (some ⟨g, 0, none⟩) (es.length + new.length) cap))
    rw [hlen] at hrep
    refine .own _ _ _ _ _ (by rw [hlen]; exact hrep) (by simp [Mu.setTk])
section
variable {cx : Cx} [TC cx.P] {S : PS} {o : Oper} {ops : Array Oper} {rest : List Oper} {Q : Post}
theorem PL.appZ {x y : Operand} {t tn e tok sz m : Nat} {kn : IntKind} {es : List (List PV)} {i j k : TI} (htn : lk (TC.T cx.P) tn = some k) (hkn : k.d = .int kn) (ho : o.op = .call { callee := .builtin .append, args := #[x, y], argTypes := #[t, tn] }) (hx : S.ev x = some (.sl sz es (some tok))) (hy : S.ev y = some (.lit (.int .i64 (m : Int))))
    (htk : lk S.h.tk tok = some (sz, es.length)) (ht : lk (TC.T cx.P) t = some i) (hd : i.d = .slice e) (he : lk (TC.T cx.P) e = some j) (hj : j.sz = sz) (hzs : j.zero.cells.size = sz) (h1z : j.zero.cells.toList.all Value.oneCell' = true) (hs0 : 0 < sz) (hb : (es.length + m) * j.bytes ≤ 140737488355328) (h63 : es.length + m ≤ 9223372036854775807)
    (hw : Wants cx ops o S true) (hn : dstOk cx.n o.dst = true)
    (kk : PL cx ops Q rest (PS.put ⟨S.env, ⟨S.h.bx, (tok, (sz, (es ++ (List.replicate m (j.zero.cells.toList.map PV.lit))).length)) :: S.h.tk⟩⟩ o.dst (.sl sz (es ++ (List.replicate m (j.zero.cells.toList.map PV.lit))) (some tok)))) : PL cx ops Q (o :: rest) S :=
  PL.cons hw (K := fun S' => S' = PS.put ⟨S.env, ⟨S.h.bx, (tok, (sz, (es ++ (List.replicate m (j.zero.cells.toList.map PV.lit))).length)) :: S.h.tk⟩⟩ o.dst (.sl sz (es ++ (List.replicate m (j.zero.cells.toList.map PV.lit))) (some tok))) (fun a W hR K' Q hK => by
    obtain ⟨Z, μ, hz⟩ := hR
    obtain ⟨v', W', Z', μ', hr, h1, h2⟩ := appZ_step (ty := o.type) hz (by have := (TC.at_ htn).und; rw [hkn] at this; exact this) (hz.ev hx) htk ht hd he hj hzs h1z hs0 hb h63
    have ey := (hz.ev hy).lit_inv
    show o.upon cx.P a K' Q _
    have hrun : (execOp a.eval o).run cx.P W = .ok (.value v') W' := by
      simp only [execOp, ho]
      simp [resolve, invoke, builtin, ey, hr]
    rw [hrun, Oper.upon_value]
    exact hK _ _ _ rfl ⟨Z', μ', h1.put hn h2⟩) fun S' e => by subst e; exact kk
end
end Go.Pw
set_option linter.unusedVariables false
set_option linter.unusedSimpArgs false
set_option maxRecDepth 100000
namespace Go.Wl
open Go Go.RowKit Go.Pw Go.Proofs
theorem mixed : Tryd.prog.follows .mixedOrders = true := by kernel_rfl
theorem putb {c c' : Bool} (h : c = c') {t : Nat} {e : List (Nat × PV)} {hh : PH} : (⟨(t, .lit (.bool c)) :: e, hh⟩ : PS) = PS.put ⟨e, hh⟩ (some t) (.lit (.bool c')) := by rw [h]; rfl
theorem take_step {α : Type} {l : List α} {i : Nat} {x : α} (h : l[i]? = some x) : l.take (i + 1) = l.take i ++ [x] := by
  rw [List.take_add_one, h]; rfl
end Go.Wl
set_option linter.unusedVariables false
set_option linter.unusedSimpArgs false
set_option maxRecDepth 100000
set_option maxHeartbeats 4000000
namespace Go.Wl
open Go Go.RowKit Go.Pw Go.Proofs
/-- What is left of a measure: -1 when it is spent. -/
def szf (m : Nat) (left : Int) : Int := if left - m < 0 then -1 else left - m
theorem szf_or (m : Nat) (left : Int) : (szf m left = -1 ∧ left - m < 0) ∨ (szf m left = left - m ∧ 0 ≤ left - m) := by
  unfold szf
  split
  · exact .inl ⟨rfl, by assumption⟩
  · exact .inr ⟨rfl, by omega⟩
theorem szf_le {m : Nat} {left : Int} (h : left ≤ 1048576) : szf m left ≤ 1048576 := by
  rcases szf_or m left with h1 | h1 <;> omega
def mL {α : Type} (f : α → Nat) (l : List α) : Nat := l.length + (l.map f).sum
def mItem (x : Item) : Nat := x.route.size + x.bytes.length
def mPost (p : Post) : Nat := mL mItem p.queue + p.book.length
def mReader (r : Reader) : Nat := r.seed.length + mL List.length r.seen + mL List.length r.got
def mWire (w : Wire) : Nat := mItem w.item + w.bytes.length
def mSent (s : Sent) : Nat := s.route.size + s.note.length + s.bytes.length
def mEarth (w : Earth) : Nat := w.seed.length + mPost w.post + mReader w.reader + mL mWire w.net + mL mSent w.sent
def sumT {α : Type} (f : α → Nat) (l : List α) (i : Nat) : Nat := ((l.take i).map f).sum
theorem sumT_step {α : Type} {f : α → Nat} {l : List α} {i : Nat} {y : α} (h : l[i]? = some y) : sumT f l (i + 1) = sumT f l i + f y := by
  rw [sumT, take_step h, List.map_append, List.sum_append]; simp [sumT]
theorem sumT_le {α : Type} {f : α → Nat} {l : List α} (i : Nat) : sumT f l i ≤ (l.map f).sum := by
  conv => rhs; rw [← List.take_append_drop i l, List.map_append, List.sum_append]
  exact Nat.le_add_right _ _
theorem sumT_end {α : Type} {f : α → Nat} {l : List α} : sumT f l l.length = (l.map f).sum := by rw [sumT, List.take_length]
/-- Sizes that a slice or a text of the machine may have. -/
abbrev big : Nat := 9223372036854775807
def InI (n : Int) : Prop := -9223372036854775808 ≤ n ∧ n ≤ 9223372036854775807
structure BgI (x : Item) : Prop where
  r : x.route.size ≤ big
  b : x.bytes.length ≤ big
  it : InI x.topic
  id : InI x.due
structure BgL {α : Type} (P : α → Prop) (l : List α) : Prop where
  len : l.length ≤ big
  all : ∀ (i : Nat) (x : α), l[i]? = some x → P x
structure BgP (p : Post) : Prop where
  q : BgL BgI p.queue
  b : p.book.length ≤ big
  it : InI p.time
  is : InI p.sure
abbrev BgB (b : List UInt8) : Prop := b.length ≤ big
structure BgR (r : Reader) : Prop where
  s : BgB r.seed
  seen : BgL BgB r.seen
  got : BgL BgB r.got
  ie : InI r.epoch
structure BgW (w : Wire) : Prop where
  i : BgI w.item
  b : BgB w.bytes
structure BgS (s : Sent) : Prop where
  r : s.route.size ≤ big
  n : BgB s.note
  b : BgB s.bytes
  ie : InI s.epoch
structure BgE (w : Earth) : Prop where
  seed : BgB w.seed
  p : BgP w.post
  r : BgR w.reader
  n : BgL BgW w.net
  s : BgL BgS w.sent
  ic : InI w.count
  ik : InI w.known
theorem szw {left : Int} {m : Nat} (g0 : 0 ≤ left) (g1 : left ≤ 1048576) (hb : m ≤ big) : IntKind.i64.wrap (left - (m : Int)) = left - (m : Int) := by
  have hb : m ≤ 9223372036854775807 := hb
  exact wrap_id (by omega) (by omega)
/- laws.szByteS -/
theorem laws_szByteS_spec (b : List UInt8) (left : Int) (g0 : 0 ≤ left) (g1 : left ≤ 1048576) (hb : BgB b) : Pw.Spec Tryd.prog 9 [eBs b, eI left] (fun res_ => res_ = eI (szf b.length left)) := by
  refine spec_of (n := 12) Tryd.call9 Tryd.func9 rfl rfl (by simp) rfl rfl fun W Z => ?_
  have e : IntKind.i64.wrap (left - ((b.map eb).length : Nat)) = left - (b.length : Nat) := by rw [List.length_map]; exact szw g0 g1 hb
  have k := szf_or b.length left
  refine PW.seq ?_
  refine PW.region ?_
  refine PL.run 1 rfl ?_
  refine PL.nil ?_
  refine PW.seq ?_
  refine PW.region ?_
  refine PL.run 5 rfl ?_
  refine PL.nil ?_
  refine PW.seq ?_
  refine PW.seq ?_
  refine PW.region ?_
  refine PL.run 2 rfl ?_
  refine PL.nil ?_
  refine PW.cond rfl (fun h1 => ?_) (fun h1 => ?_)
  ·
    refine PW.seq ?_
    refine PW.region ?_
    refine PL.run 1 rfl ?_
    refine PL.nil ?_
    refine PW.ret ?_
    refine RetOk.free rfl rfl (congrArg eI ?_)
    rw [e] at h1; simp only [decide_eq_true_eq] at h1; omega
  ·
    refine PW.skip ?_
    refine PW.seq ?_
    refine PW.region ?_
    refine PL.run 2 rfl ?_
    refine PL.nil ?_
    refine PW.ret ?_
    refine RetOk.free rfl rfl (congrArg eI ?_)
    rw [e] at h1 ⊢; simp only [decide_eq_false_iff_not] at h1; omega
/- laws.szItem -/
theorem laws_szItem_spec (x : Item) (left : Int) (g0 : 0 ≤ left) (g1 : left ≤ 1048576) (hb : BgI x) : Pw.Spec Tryd.prog 41 [.agg (eItem x), eI left] (fun res_ => res_ = eI (szf (mItem x) left)) := by
  refine spec_of (n := 19) Tryd.call41 Tryd.func41 rfl rfl (by simp) rfl rfl fun W Z => ?_
  have e : IntKind.i64.wrap (left - (x.route.size : Nat)) = left - (x.route.size : Nat) := szw g0 g1 hb.r
  have k := szf_or (mItem x) left
  have km : mItem x = x.route.size + x.bytes.length := rfl
  have k2 := szf_or x.bytes.length (left - (x.route.size : Nat))
  refine PW.seq ?_
  refine PW.region ?_
  refine PL.run 2 rfl ?_
  refine PL.nil ?_
  refine PW.seq ?_
  refine PW.region ?_
  refine PL.run 6 rfl ?_
  refine PL.nil ?_
  refine PW.seq ?_
  refine PW.seq ?_
  refine PW.region ?_
  refine PL.run 2 rfl ?_
  refine PL.nil ?_
  refine PW.cond rfl (fun h1 => ?_) (fun h1 => ?_)
  ·
    refine PW.seq ?_
    refine PW.region ?_
    refine PL.run 1 rfl ?_
    refine PL.nil ?_
    refine PW.ret ?_
    refine RetOk.free rfl rfl (congrArg eI ?_)
    rw [e] at h1; simp only [decide_eq_true_eq] at h1; omega
  ·
    refine PW.skip ?_
    refine PW.seq ?_
    refine PW.region ?_
    refine PL.run 3 rfl ?_
    refine PL.call rfl rfl rfl (laws_szByteS_spec x.bytes _ (by rw [e] at h1 ⊢; simp only [decide_eq_false_iff_not] at h1; omega) (by rw [e]; omega) hb.b) (.cons (.refl _) <| .cons (.refl _) <| .nil) (fun p hp => by subst hp; rfl) (wantV_ok rfl) rfl (fun p hp => ?_)
    subst hp
    refine PL.run 1 rfl ?_
    refine PL.nil ?_
    refine PW.seq ?_
    refine PW.seq ?_
    refine PW.region ?_
    refine PL.run 2 rfl ?_
    refine PL.nil ?_
    refine PW.cond rfl (fun h2 => ?_) (fun h2 => ?_)
    ·
      refine PW.seq ?_
      refine PW.region ?_
      refine PL.run 1 rfl ?_
      refine PL.nil ?_
      refine PW.ret ?_
      refine RetOk.free rfl rfl (congrArg eI ?_)
      rw [e] at h1 h2; simp only [decide_eq_true_eq, decide_eq_false_iff_not] at h1 h2; omega
    ·
      refine PW.skip ?_
      refine PW.seq ?_
      refine PW.region ?_
      refine PL.run 2 rfl ?_
      refine PL.nil ?_
      refine PW.ret ?_
      refine RetOk.free rfl rfl (congrArg eI ?_)
      rw [e] at h1 h2 ⊢; simp only [decide_eq_false_iff_not] at h1 h2; omega
/- laws.szItemS -/
theorem laws_szItemS_spec (q : List Item) (left : Int) (g0 : 0 ≤ left) (g1 : left ≤ 1048576) (hb : BgL BgI q) : Pw.Spec Tryd.prog 28 [eItems q, eI left] (fun res_ => res_ = eI (szf (mL mItem q) left)) := by
  refine spec_of (n := 27) Tryd.call28 Tryd.func28 rfl rfl (by simp) rfl rfl fun W Z => ?_
  have e : IntKind.i64.wrap (left - ((q.map eItem).length : Nat)) = left - (q.length : Nat) := by rw [List.length_map]; exact szw g0 g1 hb.len
  have k := szf_or (mL mItem q) left
  have km : mL mItem q = q.length + (q.map mItem).sum := rfl
  refine PW.seq ?_
  refine PW.region ?_
  refine PL.run 1 rfl ?_
  refine PL.nil ?_
  refine PW.seq ?_
  refine PW.region ?_
  refine PL.run 5 rfl ?_
  refine PL.nil ?_
  refine PW.seq ?_
  refine PW.seq ?_
  refine PW.region ?_
  refine PL.run 2 rfl ?_
  refine PL.nil ?_
  refine PW.cond rfl (fun h1 => ?_) (fun h1 => ?_)
  ·
    refine PW.seq ?_
    refine PW.region ?_
    refine PL.run 1 rfl ?_
    refine PL.nil ?_
    refine PW.ret ?_
    refine RetOk.free rfl rfl (congrArg eI ?_)
    rw [e] at h1; simp only [decide_eq_true_eq] at h1; omega
  ·
    refine PW.skip ?_
    refine PW.seq ?_
    refine PW.seq ?_
    refine PW.region ?_
    refine PL.run 1 rfl ?_
    refine PL.nil ?_
    refine PW.block ?_
    have g2 : 0 ≤ left - (q.length : Nat) := by rw [e] at h1; simp only [decide_eq_false_iff_not] at h1; omega
    clear h1
    refine PW.loopAt (α := Nat) (fun i => ⟨[(0, eItems q), (1, eI (left - (q.length : Nat) - (sumT mItem q i : Nat))), (5, eI (i : Int))], PH.none⟩) (fun i => i ≤ q.length ∧ 0 ≤ left - (q.length : Nat) - (sumT mItem q i : Nat)) (fun i => q.length - i) 0 (Le.free ⟨⟨rfl, rfl⟩, ⟨congrArg (fun n => some (eI n)) (by rw [e]; simp [sumT]), rfl⟩, ⟨rfl, rfl⟩, trivial⟩) ⟨Nat.zero_le _, by simp [sumT]; omega⟩ (fun i hi => ?_)
    obtain ⟨hi, hs⟩ := hi
    refine PW.seq ?_
    refine PW.seq ?_
    refine PW.region ?_
    refine PL.run 4 rfl ?_
    refine PL.nil ?_
    refine PW.cond rfl (fun h2 => ?_) (fun h2 => ?_)
    ·
      have hlt : i < q.length := by simpa using h2
      clear h2
      obtain ⟨y, hy⟩ : ∃ y, q[i]? = some y := ⟨_, List.getElem?_eq_getElem hlt⟩
      have hup : some (PV.lit (.int .i64 (IntKind.i64.wrap ((i : Int) + 1)))) = some (PV.lit (.int .i64 ((i + 1 : Nat) : Int))) := inc_ok (by omega)
      have hst := sumT_step (f := mItem) hy
      have hle := sumT_le (f := mItem) (l := q) (i + 1)
      have k2 := szf_or (mItem y) (left - (q.length : Nat) - (sumT mItem q i : Nat))
      refine PW.skip ?_
      refine PW.seq ?_
      refine PW.block ?_
      refine PW.seq ?_
      refine PW.region ?_
      refine PL.run 2 rfl ?_
      refine PL.val (OpV.idx rfl rfl rfl (nat_nonneg i) (map_at' hy) rfl rfl rfl rfl) (wantV_ok rfl) rfl ?_
      refine PL.run 2 rfl ?_
      refine PL.call rfl rfl rfl (laws_szItem_spec y _ hs (by omega) (hb.all i y hy)) (.cons (.refl _) <| .cons (.refl _) <| .nil) (fun p hp => by subst hp; rfl) (wantV_ok rfl) rfl (fun p hp => ?_)
      subst hp
      refine PL.run 1 rfl ?_
      refine PL.nil ?_
      refine PW.seq ?_
      refine PW.region ?_
      refine PL.run 2 rfl ?_
      refine PL.nil ?_
      refine PW.cond rfl (fun h3 => ?_) (fun h3 => ?_)
      ·
        refine PW.seq ?_
        refine PW.region ?_
        refine PL.run 1 rfl ?_
        refine PL.nil ?_
        refine PW.ret ?_
        refine RetOk.free rfl rfl (congrArg eI ?_)
        simp only [decide_eq_true_eq] at h3; omega
      ·
        refine PW.skip ?_
        refine PW.region ?_
        refine PL.run 3 rfl ?_
        refine PL.nil ?_
        have h4 : szf (mItem y) (left - (q.length : Nat) - (sumT mItem q i : Nat)) = left - (q.length : Nat) - (sumT mItem q (i + 1) : Nat) := by simp only [decide_eq_false_iff_not] at h3; omega
        refine ⟨i + 1, Le.free ⟨⟨rfl, rfl⟩, ⟨congrArg (fun n => some (eI n)) h4, rfl⟩, ⟨hup, rfl⟩, trivial⟩, ⟨hlt, by simp only [decide_eq_false_iff_not] at h3; omega⟩, by omega⟩
    ·
      have hge : i = q.length := Nat.le_antisymm hi (by simpa using h2)
      refine PW.exit ?_
      refine PW.seq ?_
      refine PW.region ?_
      refine PL.run 2 rfl ?_
      refine PL.nil ?_
      refine PW.ret ?_
      refine RetOk.free rfl rfl (congrArg eI ?_)
      have := sumT_end (f := mItem) (l := q)
      subst hge; omega
/- laws.szPost -/
theorem laws_szPost_spec (p : Post) (left : Int) (g0 : 0 ≤ left) (g1 : left ≤ 1048576) (hb : BgP p) : Pw.Spec Tryd.prog 10 [.agg (ePost p), eI left] (fun res_ => res_ = eI (szf (mPost p) left)) := by
  refine spec_of (n := 18) Tryd.call10 Tryd.func10 rfl rfl (by simp) rfl rfl fun W Z => ?_
  have k := szf_or (mPost p) left
  have km : mPost p = mL mItem p.queue + p.book.length := rfl
  have k1 := szf_or (mL mItem p.queue) (left)
  have k2 := szf_or (p.book.length) (szf (mL mItem p.queue) (left))
  refine PW.seq ?_
  refine PW.region ?_
  refine PL.run 2 rfl ?_
  refine PL.nil ?_
  refine PW.seq ?_
  refine PW.region ?_
  refine PL.run 3 rfl ?_
  refine PL.call rfl rfl rfl (laws_szItemS_spec p.queue _ (by omega) (by omega) hb.q) (.cons (.refl _) <| .cons (.refl _) <| .nil) (fun p hp => by subst hp; rfl) (wantV_ok rfl) rfl (fun p hp => ?_)
  subst hp
  refine PL.run 1 rfl ?_
  refine PL.nil ?_
  refine PW.seq ?_
  refine PW.seq ?_
  refine PW.region ?_
  refine PL.run 2 rfl ?_
  refine PL.nil ?_
  refine PW.cond rfl (fun h1 => ?_) (fun h1 => ?_)
  ·
    refine PW.seq ?_
    refine PW.region ?_
    refine PL.run 1 rfl ?_
    refine PL.nil ?_
    refine PW.ret ?_
    refine RetOk.free rfl rfl (congrArg eI ?_)
    simp only [decide_eq_true_eq, decide_eq_false_iff_not] at h1; omega
  ·
    refine PW.skip ?_
    refine PW.seq ?_
    refine PW.region ?_
    refine PL.run 3 rfl ?_
    refine PL.call rfl rfl rfl (laws_szByteS_spec p.book _ (by simp only [decide_eq_false_iff_not] at h1; omega) (by simp only [decide_eq_false_iff_not] at h1; omega) hb.b) (.cons (.refl _) <| .cons (.refl _) <| .nil) (fun p hp => by subst hp; rfl) (wantV_ok rfl) rfl (fun p hp => ?_)
    subst hp
    refine PL.run 1 rfl ?_
    refine PL.nil ?_
    refine PW.seq ?_
    refine PW.seq ?_
    refine PW.region ?_
    refine PL.run 2 rfl ?_
    refine PL.nil ?_
    refine PW.cond rfl (fun h2 => ?_) (fun h2 => ?_)
    ·
      refine PW.seq ?_
      refine PW.region ?_
      refine PL.run 1 rfl ?_
      refine PL.nil ?_
      refine PW.ret ?_
      refine RetOk.free rfl rfl (congrArg eI ?_)
      simp only [decide_eq_true_eq, decide_eq_false_iff_not] at h1 h2; omega
    ·
      refine PW.skip ?_
      refine PW.seq ?_
      refine PW.region ?_
      refine PL.run 2 rfl ?_
      refine PL.nil ?_
      refine PW.ret ?_
      refine RetOk.free rfl rfl (congrArg eI ?_)
      simp only [decide_eq_true_eq, decide_eq_false_iff_not] at h1 h2; omega
/- laws.szByteSS -/
theorem laws_szByteSS_spec (q : List (List UInt8)) (left : Int) (g0 : 0 ≤ left) (g1 : left ≤ 1048576) (hb : BgL BgB q) : Pw.Spec Tryd.prog 29 [eBss q, eI left] (fun res_ => res_ = eI (szf (mL List.length q) left)) := by
  refine spec_of (n := 27) Tryd.call29 Tryd.func29 rfl rfl (by simp) rfl rfl fun W Z => ?_
  have e : IntKind.i64.wrap (left - ((q.map eBss1).length : Nat)) = left - (q.length : Nat) := by rw [List.length_map]; exact szw g0 g1 hb.len
  have k := szf_or (mL List.length q) left
  have km : mL List.length q = q.length + (q.map List.length).sum := rfl
  refine PW.seq ?_
  refine PW.region ?_
  refine PL.run 1 rfl ?_
  refine PL.nil ?_
  refine PW.seq ?_
  refine PW.region ?_
  refine PL.run 5 rfl ?_
  refine PL.nil ?_
  refine PW.seq ?_
  refine PW.seq ?_
  refine PW.region ?_
  refine PL.run 2 rfl ?_
  refine PL.nil ?_
  refine PW.cond rfl (fun h1 => ?_) (fun h1 => ?_)
  ·
    refine PW.seq ?_
    refine PW.region ?_
    refine PL.run 1 rfl ?_
    refine PL.nil ?_
    refine PW.ret ?_
    refine RetOk.free rfl rfl (congrArg eI ?_)
    rw [e] at h1; simp only [decide_eq_true_eq] at h1; omega
  ·
    refine PW.skip ?_
    refine PW.seq ?_
    refine PW.seq ?_
    refine PW.region ?_
    refine PL.run 1 rfl ?_
    refine PL.nil ?_
    refine PW.block ?_
    have g2 : 0 ≤ left - (q.length : Nat) := by rw [e] at h1; simp only [decide_eq_false_iff_not] at h1; omega
    clear h1
    refine PW.loopAt (α := Nat) (fun i => ⟨[(0, eBss q), (1, eI (left - (q.length : Nat) - (sumT List.length q i : Nat))), (5, eI (i : Int))], PH.none⟩) (fun i => i ≤ q.length ∧ 0 ≤ left - (q.length : Nat) - (sumT List.length q i : Nat)) (fun i => q.length - i) 0 (Le.free ⟨⟨rfl, rfl⟩, ⟨congrArg (fun n => some (eI n)) (by rw [e]; simp [sumT]), rfl⟩, ⟨rfl, rfl⟩, trivial⟩) ⟨Nat.zero_le _, by simp [sumT]; omega⟩ (fun i hi => ?_)
    obtain ⟨hi, hs⟩ := hi
    refine PW.seq ?_
    refine PW.seq ?_
    refine PW.region ?_
    refine PL.run 4 rfl ?_
    refine PL.nil ?_
    refine PW.cond rfl (fun h2 => ?_) (fun h2 => ?_)
    ·
      have hlt : i < q.length := by simpa using h2
      clear h2
      obtain ⟨y, hy⟩ : ∃ y, q[i]? = some y := ⟨_, List.getElem?_eq_getElem hlt⟩
      have hup : some (PV.lit (.int .i64 (IntKind.i64.wrap ((i : Int) + 1)))) = some (PV.lit (.int .i64 ((i + 1 : Nat) : Int))) := inc_ok (by omega)
      have hst := sumT_step (f := List.length) hy
      have hle := sumT_le (f := List.length) (l := q) (i + 1)
      have k2 := szf_or (y.length) (left - (q.length : Nat) - (sumT List.length q i : Nat))
      refine PW.skip ?_
      refine PW.seq ?_
      refine PW.block ?_
      refine PW.seq ?_
      refine PW.region ?_
      refine PL.run 2 rfl ?_
      refine PL.val (OpV.idx rfl rfl rfl (nat_nonneg i) (map_at' hy) rfl rfl rfl rfl) (wantV_ok rfl) rfl ?_
      refine PL.run 2 rfl ?_
      refine PL.call rfl rfl rfl (laws_szByteS_spec y _ hs (by omega) (hb.all i y hy)) (.cons (.refl _) <| .cons (.refl _) <| .nil) (fun p hp => by subst hp; rfl) (wantV_ok rfl) rfl (fun p hp => ?_)
      subst hp
      refine PL.run 1 rfl ?_
      refine PL.nil ?_
      refine PW.seq ?_
      refine PW.region ?_
      refine PL.run 2 rfl ?_
      refine PL.nil ?_
      refine PW.cond rfl (fun h3 => ?_) (fun h3 => ?_)
      ·
        refine PW.seq ?_
        refine PW.region ?_
        refine PL.run 1 rfl ?_
        refine PL.nil ?_
        refine PW.ret ?_
        refine RetOk.free rfl rfl (congrArg eI ?_)
        simp only [decide_eq_true_eq] at h3; omega
      ·
        refine PW.skip ?_
        refine PW.region ?_
        refine PL.run 3 rfl ?_
        refine PL.nil ?_
        have h4 : szf (y.length) (left - (q.length : Nat) - (sumT List.length q i : Nat)) = left - (q.length : Nat) - (sumT List.length q (i + 1) : Nat) := by simp only [decide_eq_false_iff_not] at h3; omega
        refine ⟨i + 1, Le.free ⟨⟨rfl, rfl⟩, ⟨congrArg (fun n => some (eI n)) h4, rfl⟩, ⟨hup, rfl⟩, trivial⟩, ⟨hlt, by simp only [decide_eq_false_iff_not] at h3; omega⟩, by omega⟩
    ·
      have hge : i = q.length := Nat.le_antisymm hi (by simpa using h2)
      refine PW.exit ?_
      refine PW.seq ?_
      refine PW.region ?_
      refine PL.run 2 rfl ?_
      refine PL.nil ?_
      refine PW.ret ?_
      refine RetOk.free rfl rfl (congrArg eI ?_)
      have := sumT_end (f := List.length) (l := q)
      subst hge; omega
/- laws.szReader -/
theorem laws_szReader_spec (r : Reader) (left : Int) (g0 : 0 ≤ left) (g1 : left ≤ 1048576) (hb : BgR r) : Pw.Spec Tryd.prog 11 [.agg (eReader r), eI left] (fun res_ => res_ = eI (szf (mReader r) left)) := by
  refine spec_of (n := 24) Tryd.call11 Tryd.func11 rfl rfl (by simp) rfl rfl fun W Z => ?_
  have k := szf_or (mReader r) left
  have km : mReader r = r.seed.length + mL List.length r.seen + mL List.length r.got := rfl
  have k1 := szf_or (r.seed.length) (left)
  have k2 := szf_or (mL List.length r.seen) (szf (r.seed.length) (left))
  have k3 := szf_or (mL List.length r.got) (szf (mL List.length r.seen) (szf (r.seed.length) (left)))
  refine PW.seq ?_
  refine PW.region ?_
  refine PL.run 2 rfl ?_
  refine PL.nil ?_
  refine PW.seq ?_
  refine PW.region ?_
  refine PL.run 3 rfl ?_
  refine PL.call rfl rfl rfl (laws_szByteS_spec r.seed _ (by omega) (by omega) hb.s) (.cons (.refl _) <| .cons (.refl _) <| .nil) (fun p hp => by subst hp; rfl) (wantV_ok rfl) rfl (fun p hp => ?_)
  subst hp
  refine PL.run 1 rfl ?_
  refine PL.nil ?_
  refine PW.seq ?_
  refine PW.seq ?_
  refine PW.region ?_
  refine PL.run 2 rfl ?_
  refine PL.nil ?_
  refine PW.cond rfl (fun h1 => ?_) (fun h1 => ?_)
  ·
    refine PW.seq ?_
    refine PW.region ?_
    refine PL.run 1 rfl ?_
    refine PL.nil ?_
    refine PW.ret ?_
    refine RetOk.free rfl rfl (congrArg eI ?_)
    simp only [decide_eq_true_eq, decide_eq_false_iff_not] at h1; omega
  ·
    refine PW.skip ?_
    refine PW.seq ?_
    refine PW.region ?_
    refine PL.run 3 rfl ?_
    refine PL.call rfl rfl rfl (laws_szByteSS_spec r.seen _ (by simp only [decide_eq_false_iff_not] at h1; omega) (by simp only [decide_eq_false_iff_not] at h1; omega) hb.seen) (.cons (.refl _) <| .cons (.refl _) <| .nil) (fun p hp => by subst hp; rfl) (wantV_ok rfl) rfl (fun p hp => ?_)
    subst hp
    refine PL.run 1 rfl ?_
    refine PL.nil ?_
    refine PW.seq ?_
    refine PW.seq ?_
    refine PW.region ?_
    refine PL.run 2 rfl ?_
    refine PL.nil ?_
    refine PW.cond rfl (fun h2 => ?_) (fun h2 => ?_)
    ·
      refine PW.seq ?_
      refine PW.region ?_
      refine PL.run 1 rfl ?_
      refine PL.nil ?_
      refine PW.ret ?_
      refine RetOk.free rfl rfl (congrArg eI ?_)
      simp only [decide_eq_true_eq, decide_eq_false_iff_not] at h1 h2; omega
    ·
      refine PW.skip ?_
      refine PW.seq ?_
      refine PW.region ?_
      refine PL.run 3 rfl ?_
      refine PL.call rfl rfl rfl (laws_szByteSS_spec r.got _ (by simp only [decide_eq_false_iff_not] at h1 h2; omega) (by simp only [decide_eq_false_iff_not] at h1 h2; omega) hb.got) (.cons (.refl _) <| .cons (.refl _) <| .nil) (fun p hp => by subst hp; rfl) (wantV_ok rfl) rfl (fun p hp => ?_)
      subst hp
      refine PL.run 1 rfl ?_
      refine PL.nil ?_
      refine PW.seq ?_
      refine PW.seq ?_
      refine PW.region ?_
      refine PL.run 2 rfl ?_
      refine PL.nil ?_
      refine PW.cond rfl (fun h3 => ?_) (fun h3 => ?_)
      ·
        refine PW.seq ?_
        refine PW.region ?_
        refine PL.run 1 rfl ?_
        refine PL.nil ?_
        refine PW.ret ?_
        refine RetOk.free rfl rfl (congrArg eI ?_)
        simp only [decide_eq_true_eq, decide_eq_false_iff_not] at h1 h2 h3; omega
      ·
        refine PW.skip ?_
        refine PW.seq ?_
        refine PW.region ?_
        refine PL.run 2 rfl ?_
        refine PL.nil ?_
        refine PW.ret ?_
        refine RetOk.free rfl rfl (congrArg eI ?_)
        simp only [decide_eq_true_eq, decide_eq_false_iff_not] at h1 h2 h3; omega
/- laws.szWire -/
theorem laws_szWire_spec (w : Wire) (left : Int) (g0 : 0 ≤ left) (g1 : left ≤ 1048576) (hb : BgW w) : Pw.Spec Tryd.prog 30 [.agg (eWire w), eI left] (fun res_ => res_ = eI (szf (mWire w) left)) := by
  refine spec_of (n := 18) Tryd.call30 Tryd.func30 rfl rfl (by simp) rfl rfl fun W Z => ?_
  have k := szf_or (mWire w) left
  have km : mWire w = mItem w.item + w.bytes.length := rfl
  have k1 := szf_or (mItem w.item) (left)
  have k2 := szf_or (w.bytes.length) (szf (mItem w.item) (left))
  refine PW.seq ?_
  refine PW.region ?_
  refine PL.run 2 rfl ?_
  refine PL.nil ?_
  refine PW.seq ?_
  refine PW.region ?_
  refine PL.run 3 rfl ?_
  refine PL.call rfl rfl rfl (laws_szItem_spec w.item _ (by omega) (by omega) hb.i) (.cons (.refl _) <| .cons (.refl _) <| .nil) (fun p hp => by subst hp; rfl) (wantV_ok rfl) rfl (fun p hp => ?_)
  subst hp
  refine PL.run 1 rfl ?_
  refine PL.nil ?_
  refine PW.seq ?_
  refine PW.seq ?_
  refine PW.region ?_
  refine PL.run 2 rfl ?_
  refine PL.nil ?_
  refine PW.cond rfl (fun h1 => ?_) (fun h1 => ?_)
  ·
    refine PW.seq ?_
    refine PW.region ?_
    refine PL.run 1 rfl ?_
    refine PL.nil ?_
    refine PW.ret ?_
    refine RetOk.free rfl rfl (congrArg eI ?_)
    simp only [decide_eq_true_eq, decide_eq_false_iff_not] at h1; omega
  ·
    refine PW.skip ?_
    refine PW.seq ?_
    refine PW.region ?_
    refine PL.run 3 rfl ?_
    refine PL.call rfl rfl rfl (laws_szByteS_spec w.bytes _ (by simp only [decide_eq_false_iff_not] at h1; omega) (by simp only [decide_eq_false_iff_not] at h1; omega) hb.b) (.cons (.refl _) <| .cons (.refl _) <| .nil) (fun p hp => by subst hp; rfl) (wantV_ok rfl) rfl (fun p hp => ?_)
    subst hp
    refine PL.run 1 rfl ?_
    refine PL.nil ?_
    refine PW.seq ?_
    refine PW.seq ?_
    refine PW.region ?_
    refine PL.run 2 rfl ?_
    refine PL.nil ?_
    refine PW.cond rfl (fun h2 => ?_) (fun h2 => ?_)
    ·
      refine PW.seq ?_
      refine PW.region ?_
      refine PL.run 1 rfl ?_
      refine PL.nil ?_
      refine PW.ret ?_
      refine RetOk.free rfl rfl (congrArg eI ?_)
      simp only [decide_eq_true_eq, decide_eq_false_iff_not] at h1 h2; omega
    ·
      refine PW.skip ?_
      refine PW.seq ?_
      refine PW.region ?_
      refine PL.run 2 rfl ?_
      refine PL.nil ?_
      refine PW.ret ?_
      refine RetOk.free rfl rfl (congrArg eI ?_)
      simp only [decide_eq_true_eq, decide_eq_false_iff_not] at h1 h2; omega
/- laws.szWireS -/
theorem laws_szWireS_spec (q : List Wire) (left : Int) (g0 : 0 ≤ left) (g1 : left ≤ 1048576) (hb : BgL BgW q) : Pw.Spec Tryd.prog 12 [eWires q, eI left] (fun res_ => res_ = eI (szf (mL mWire q) left)) := by
  refine spec_of (n := 27) Tryd.call12 Tryd.func12 rfl rfl (by simp) rfl rfl fun W Z => ?_
  have e : IntKind.i64.wrap (left - ((q.map eWire).length : Nat)) = left - (q.length : Nat) := by rw [List.length_map]; exact szw g0 g1 hb.len
  have k := szf_or (mL mWire q) left
  have km : mL mWire q = q.length + (q.map mWire).sum := rfl
  refine PW.seq ?_
  refine PW.region ?_
  refine PL.run 1 rfl ?_
  refine PL.nil ?_
  refine PW.seq ?_
  refine PW.region ?_
  refine PL.run 5 rfl ?_
  refine PL.nil ?_
  refine PW.seq ?_
  refine PW.seq ?_
  refine PW.region ?_
  refine PL.run 2 rfl ?_
  refine PL.nil ?_
  refine PW.cond rfl (fun h1 => ?_) (fun h1 => ?_)
  ·
    refine PW.seq ?_
    refine PW.region ?_
    refine PL.run 1 rfl ?_
    refine PL.nil ?_
    refine PW.ret ?_
    refine RetOk.free rfl rfl (congrArg eI ?_)
    rw [e] at h1; simp only [decide_eq_true_eq] at h1; omega
  ·
    refine PW.skip ?_
    refine PW.seq ?_
    refine PW.seq ?_
    refine PW.region ?_
    refine PL.run 1 rfl ?_
    refine PL.nil ?_
    refine PW.block ?_
    have g2 : 0 ≤ left - (q.length : Nat) := by rw [e] at h1; simp only [decide_eq_false_iff_not] at h1; omega
    clear h1
    refine PW.loopAt (α := Nat) (fun i => ⟨[(0, eWires q), (1, eI (left - (q.length : Nat) - (sumT mWire q i : Nat))), (5, eI (i : Int))], PH.none⟩) (fun i => i ≤ q.length ∧ 0 ≤ left - (q.length : Nat) - (sumT mWire q i : Nat)) (fun i => q.length - i) 0 (Le.free ⟨⟨rfl, rfl⟩, ⟨congrArg (fun n => some (eI n)) (by rw [e]; simp [sumT]), rfl⟩, ⟨rfl, rfl⟩, trivial⟩) ⟨Nat.zero_le _, by simp [sumT]; omega⟩ (fun i hi => ?_)
    obtain ⟨hi, hs⟩ := hi
    refine PW.seq ?_
    refine PW.seq ?_
    refine PW.region ?_
    refine PL.run 4 rfl ?_
    refine PL.nil ?_
    refine PW.cond rfl (fun h2 => ?_) (fun h2 => ?_)
    ·
      have hlt : i < q.length := by simpa using h2
      clear h2
      obtain ⟨y, hy⟩ : ∃ y, q[i]? = some y := ⟨_, List.getElem?_eq_getElem hlt⟩
      have hup : some (PV.lit (.int .i64 (IntKind.i64.wrap ((i : Int) + 1)))) = some (PV.lit (.int .i64 ((i + 1 : Nat) : Int))) := inc_ok (by omega)
      have hst := sumT_step (f := mWire) hy
      have hle := sumT_le (f := mWire) (l := q) (i + 1)
      have k2 := szf_or (mWire y) (left - (q.length : Nat) - (sumT mWire q i : Nat))
      refine PW.skip ?_
      refine PW.seq ?_
      refine PW.block ?_
      refine PW.seq ?_
      refine PW.region ?_
      refine PL.run 2 rfl ?_
      refine PL.val (OpV.idx rfl rfl rfl (nat_nonneg i) (map_at' hy) rfl rfl rfl rfl) (wantV_ok rfl) rfl ?_
      refine PL.run 2 rfl ?_
      refine PL.call rfl rfl rfl (laws_szWire_spec y _ hs (by omega) (hb.all i y hy)) (.cons (.refl _) <| .cons (.refl _) <| .nil) (fun p hp => by subst hp; rfl) (wantV_ok rfl) rfl (fun p hp => ?_)
      subst hp
      refine PL.run 1 rfl ?_
      refine PL.nil ?_
      refine PW.seq ?_
      refine PW.region ?_
      refine PL.run 2 rfl ?_
      refine PL.nil ?_
      refine PW.cond rfl (fun h3 => ?_) (fun h3 => ?_)
      ·
        refine PW.seq ?_
        refine PW.region ?_
        refine PL.run 1 rfl ?_
        refine PL.nil ?_
        refine PW.ret ?_
        refine RetOk.free rfl rfl (congrArg eI ?_)
        simp only [decide_eq_true_eq] at h3; omega
      ·
        refine PW.skip ?_
        refine PW.region ?_
        refine PL.run 3 rfl ?_
        refine PL.nil ?_
        have h4 : szf (mWire y) (left - (q.length : Nat) - (sumT mWire q i : Nat)) = left - (q.length : Nat) - (sumT mWire q (i + 1) : Nat) := by simp only [decide_eq_false_iff_not] at h3; omega
        refine ⟨i + 1, Le.free ⟨⟨rfl, rfl⟩, ⟨congrArg (fun n => some (eI n)) h4, rfl⟩, ⟨hup, rfl⟩, trivial⟩, ⟨hlt, by simp only [decide_eq_false_iff_not] at h3; omega⟩, by omega⟩
    ·
      have hge : i = q.length := Nat.le_antisymm hi (by simpa using h2)
      refine PW.exit ?_
      refine PW.seq ?_
      refine PW.region ?_
      refine PL.run 2 rfl ?_
      refine PL.nil ?_
      refine PW.ret ?_
      refine RetOk.free rfl rfl (congrArg eI ?_)
      have := sumT_end (f := mWire) (l := q)
      subst hge; omega
/- laws.szSent -/
theorem laws_szSent_spec (x : Sent) (left : Int) (g0 : 0 ≤ left) (g1 : left ≤ 1048576) (hb : BgS x) : Pw.Spec Tryd.prog 31 [.agg (eSent x), eI left] (fun res_ => res_ = eI (szf (mSent x) left)) := by
  refine spec_of (n := 25) Tryd.call31 Tryd.func31 rfl rfl (by simp) rfl rfl fun W Z => ?_
  have e : IntKind.i64.wrap (left - (x.route.size : Nat)) = left - (x.route.size : Nat) := szw g0 g1 hb.r
  have k := szf_or (mSent x) left
  have km : mSent x = x.route.size + x.note.length + x.bytes.length := rfl
  have k2 := szf_or x.note.length (left - (x.route.size : Nat))
  have k3 := szf_or x.bytes.length (szf x.note.length (left - (x.route.size : Nat)))
  refine PW.seq ?_
  refine PW.region ?_
  refine PL.run 2 rfl ?_
  refine PL.nil ?_
  refine PW.seq ?_
  refine PW.region ?_
  refine PL.run 6 rfl ?_
  refine PL.nil ?_
  refine PW.seq ?_
  refine PW.seq ?_
  refine PW.region ?_
  refine PL.run 2 rfl ?_
  refine PL.nil ?_
  refine PW.cond rfl (fun h1 => ?_) (fun h1 => ?_)
  ·
    refine PW.seq ?_
    refine PW.region ?_
    refine PL.run 1 rfl ?_
    refine PL.nil ?_
    refine PW.ret ?_
    refine RetOk.free rfl rfl (congrArg eI ?_)
    rw [e] at h1; simp only [decide_eq_true_eq] at h1; omega
  ·
    refine PW.skip ?_
    refine PW.seq ?_
    refine PW.region ?_
    refine PL.run 3 rfl ?_
    refine PL.call rfl rfl rfl (laws_szByteS_spec x.note _ (by rw [e] at h1 ⊢; simp only [decide_eq_false_iff_not] at h1; omega) (by rw [e]; omega) hb.n) (.cons (.refl _) <| .cons (.refl _) <| .nil) (fun p hp => by subst hp; rfl) (wantV_ok rfl) rfl (fun p hp => ?_)
    subst hp
    refine PL.run 1 rfl ?_
    refine PL.nil ?_
    refine PW.seq ?_
    refine PW.seq ?_
    refine PW.region ?_
    refine PL.run 2 rfl ?_
    refine PL.nil ?_
    refine PW.cond rfl (fun h2 => ?_) (fun h2 => ?_)
    ·
      refine PW.seq ?_
      refine PW.region ?_
      refine PL.run 1 rfl ?_
      refine PL.nil ?_
      refine PW.ret ?_
      refine RetOk.free rfl rfl (congrArg eI ?_)
      rw [e] at h1 h2; simp only [decide_eq_true_eq, decide_eq_false_iff_not] at h1 h2; omega
    ·
      refine PW.skip ?_
      refine PW.seq ?_
      refine PW.region ?_
      refine PL.run 3 rfl ?_
      refine PL.call rfl rfl rfl (laws_szByteS_spec x.bytes _ (by rw [e] at h2 ⊢; simp only [decide_eq_false_iff_not] at h2; omega) (by rw [e]; omega) hb.b) (.cons (.refl _) <| .cons (.refl _) <| .nil) (fun p hp => by subst hp; rfl) (wantV_ok rfl) rfl (fun p hp => ?_)
      subst hp
      refine PL.run 1 rfl ?_
      refine PL.nil ?_
      refine PW.seq ?_
      refine PW.seq ?_
      refine PW.region ?_
      refine PL.run 2 rfl ?_
      refine PL.nil ?_
      refine PW.cond rfl (fun h3 => ?_) (fun h3 => ?_)
      ·
        refine PW.seq ?_
        refine PW.region ?_
        refine PL.run 1 rfl ?_
        refine PL.nil ?_
        refine PW.ret ?_
        refine RetOk.free rfl rfl (congrArg eI ?_)
        rw [e] at h1 h2 h3; simp only [decide_eq_true_eq, decide_eq_false_iff_not] at h1 h2 h3; omega
      ·
        refine PW.skip ?_
        refine PW.seq ?_
        refine PW.region ?_
        refine PL.run 2 rfl ?_
        refine PL.nil ?_
        refine PW.ret ?_
        refine RetOk.free rfl rfl (congrArg eI ?_)
        rw [e] at h1 h2 h3 ⊢; simp only [decide_eq_false_iff_not] at h1 h2 h3; omega
/- laws.szSentS -/
theorem laws_szSentS_spec (q : List Sent) (left : Int) (g0 : 0 ≤ left) (g1 : left ≤ 1048576) (hb : BgL BgS q) : Pw.Spec Tryd.prog 13 [eSents q, eI left] (fun res_ => res_ = eI (szf (mL mSent q) left)) := by
  refine spec_of (n := 27) Tryd.call13 Tryd.func13 rfl rfl (by simp) rfl rfl fun W Z => ?_
  have e : IntKind.i64.wrap (left - ((q.map eSent).length : Nat)) = left - (q.length : Nat) := by rw [List.length_map]; exact szw g0 g1 hb.len
  have k := szf_or (mL mSent q) left
  have km : mL mSent q = q.length + (q.map mSent).sum := rfl
  refine PW.seq ?_
  refine PW.region ?_
  refine PL.run 1 rfl ?_
  refine PL.nil ?_
  refine PW.seq ?_
  refine PW.region ?_
  refine PL.run 5 rfl ?_
  refine PL.nil ?_
  refine PW.seq ?_
  refine PW.seq ?_
  refine PW.region ?_
  refine PL.run 2 rfl ?_
  refine PL.nil ?_
  refine PW.cond rfl (fun h1 => ?_) (fun h1 => ?_)
  ·
    refine PW.seq ?_
    refine PW.region ?_
    refine PL.run 1 rfl ?_
    refine PL.nil ?_
    refine PW.ret ?_
    refine RetOk.free rfl rfl (congrArg eI ?_)
    rw [e] at h1; simp only [decide_eq_true_eq] at h1; omega
  ·
    refine PW.skip ?_
    refine PW.seq ?_
    refine PW.seq ?_
    refine PW.region ?_
    refine PL.run 1 rfl ?_
    refine PL.nil ?_
    refine PW.block ?_
    have g2 : 0 ≤ left - (q.length : Nat) := by rw [e] at h1; simp only [decide_eq_false_iff_not] at h1; omega
    clear h1
    refine PW.loopAt (α := Nat) (fun i => ⟨[(0, eSents q), (1, eI (left - (q.length : Nat) - (sumT mSent q i : Nat))), (5, eI (i : Int))], PH.none⟩) (fun i => i ≤ q.length ∧ 0 ≤ left - (q.length : Nat) - (sumT mSent q i : Nat)) (fun i => q.length - i) 0 (Le.free ⟨⟨rfl, rfl⟩, ⟨congrArg (fun n => some (eI n)) (by rw [e]; simp [sumT]), rfl⟩, ⟨rfl, rfl⟩, trivial⟩) ⟨Nat.zero_le _, by simp [sumT]; omega⟩ (fun i hi => ?_)
    obtain ⟨hi, hs⟩ := hi
    refine PW.seq ?_
    refine PW.seq ?_
    refine PW.region ?_
    refine PL.run 4 rfl ?_
    refine PL.nil ?_
    refine PW.cond rfl (fun h2 => ?_) (fun h2 => ?_)
    ·
      have hlt : i < q.length := by simpa using h2
      clear h2
      obtain ⟨y, hy⟩ : ∃ y, q[i]? = some y := ⟨_, List.getElem?_eq_getElem hlt⟩
      have hup : some (PV.lit (.int .i64 (IntKind.i64.wrap ((i : Int) + 1)))) = some (PV.lit (.int .i64 ((i + 1 : Nat) : Int))) := inc_ok (by omega)
      have hst := sumT_step (f := mSent) hy
      have hle := sumT_le (f := mSent) (l := q) (i + 1)
      have k2 := szf_or (mSent y) (left - (q.length : Nat) - (sumT mSent q i : Nat))
      refine PW.skip ?_
      refine PW.seq ?_
      refine PW.block ?_
      refine PW.seq ?_
      refine PW.region ?_
      refine PL.run 2 rfl ?_
      refine PL.val (OpV.idx rfl rfl rfl (nat_nonneg i) (map_at' hy) rfl rfl rfl rfl) (wantV_ok rfl) rfl ?_
      refine PL.run 2 rfl ?_
      refine PL.call rfl rfl rfl (laws_szSent_spec y _ hs (by omega) (hb.all i y hy)) (.cons (.refl _) <| .cons (.refl _) <| .nil) (fun p hp => by subst hp; rfl) (wantV_ok rfl) rfl (fun p hp => ?_)
      subst hp
      refine PL.run 1 rfl ?_
      refine PL.nil ?_
      refine PW.seq ?_
      refine PW.region ?_
      refine PL.run 2 rfl ?_
      refine PL.nil ?_
      refine PW.cond rfl (fun h3 => ?_) (fun h3 => ?_)
      ·
        refine PW.seq ?_
        refine PW.region ?_
        refine PL.run 1 rfl ?_
        refine PL.nil ?_
        refine PW.ret ?_
        refine RetOk.free rfl rfl (congrArg eI ?_)
        simp only [decide_eq_true_eq] at h3; omega
      ·
        refine PW.skip ?_
        refine PW.region ?_
        refine PL.run 3 rfl ?_
        refine PL.nil ?_
        have h4 : szf (mSent y) (left - (q.length : Nat) - (sumT mSent q i : Nat)) = left - (q.length : Nat) - (sumT mSent q (i + 1) : Nat) := by simp only [decide_eq_false_iff_not] at h3; omega
        refine ⟨i + 1, Le.free ⟨⟨rfl, rfl⟩, ⟨congrArg (fun n => some (eI n)) h4, rfl⟩, ⟨hup, rfl⟩, trivial⟩, ⟨hlt, by simp only [decide_eq_false_iff_not] at h3; omega⟩, by omega⟩
    ·
      have hge : i = q.length := Nat.le_antisymm hi (by simpa using h2)
      refine PW.exit ?_
      refine PW.seq ?_
      refine PW.region ?_
      refine PL.run 2 rfl ?_
      refine PL.nil ?_
      refine PW.ret ?_
      refine RetOk.free rfl rfl (congrArg eI ?_)
      have := sumT_end (f := mSent) (l := q)
      subst hge; omega
/- laws.szWorld -/
theorem laws_szWorld_spec (w : Earth) (left : Int) (g0 : 0 ≤ left) (g1 : left ≤ 1048576) (hb : BgE w) : Pw.Spec Tryd.prog 4 [.agg (eEarth w), eI left] (fun res_ => res_ = eI (szf (mEarth w) left)) := by
  refine spec_of (n := 36) Tryd.call4 Tryd.func4 rfl rfl (by simp) rfl rfl fun W Z => ?_
  have k := szf_or (mEarth w) left
  have km : mEarth w = w.seed.length + mPost w.post + mReader w.reader + mL mWire w.net + mL mSent w.sent := rfl
  have k1 := szf_or (w.seed.length) (left)
  have k2 := szf_or (mPost w.post) (szf (w.seed.length) (left))
  have k3 := szf_or (mReader w.reader) (szf (mPost w.post) (szf (w.seed.length) (left)))
  have k4 := szf_or (mL mWire w.net) (szf (mReader w.reader) (szf (mPost w.post) (szf (w.seed.length) (left))))
  have k5 := szf_or (mL mSent w.sent) (szf (mL mWire w.net) (szf (mReader w.reader) (szf (mPost w.post) (szf (w.seed.length) (left)))))
  refine PW.seq ?_
  refine PW.region ?_
  refine PL.run 2 rfl ?_
  refine PL.nil ?_
  refine PW.seq ?_
  refine PW.region ?_
  refine PL.run 3 rfl ?_
  refine PL.call rfl rfl rfl (laws_szByteS_spec w.seed _ (by omega) (by omega) hb.seed) (.cons (.refl _) <| .cons (.refl _) <| .nil) (fun p hp => by subst hp; rfl) (wantV_ok rfl) rfl (fun p hp => ?_)
  subst hp
  refine PL.run 1 rfl ?_
  refine PL.nil ?_
  refine PW.seq ?_
  refine PW.seq ?_
  refine PW.region ?_
  refine PL.run 2 rfl ?_
  refine PL.nil ?_
  refine PW.cond rfl (fun h1 => ?_) (fun h1 => ?_)
  ·
    refine PW.seq ?_
    refine PW.region ?_
    refine PL.run 1 rfl ?_
    refine PL.nil ?_
    refine PW.ret ?_
    refine RetOk.free rfl rfl (congrArg eI ?_)
    simp only [decide_eq_true_eq, decide_eq_false_iff_not] at h1; omega
  ·
    refine PW.skip ?_
    refine PW.seq ?_
    refine PW.region ?_
    refine PL.run 3 rfl ?_
    refine PL.call rfl rfl rfl (laws_szPost_spec w.post _ (by simp only [decide_eq_false_iff_not] at h1; omega) (by simp only [decide_eq_false_iff_not] at h1; omega) hb.p) (.cons (.refl _) <| .cons (.refl _) <| .nil) (fun p hp => by subst hp; rfl) (wantV_ok rfl) rfl (fun p hp => ?_)
    subst hp
    refine PL.run 1 rfl ?_
    refine PL.nil ?_
    refine PW.seq ?_
    refine PW.seq ?_
    refine PW.region ?_
    refine PL.run 2 rfl ?_
    refine PL.nil ?_
    refine PW.cond rfl (fun h2 => ?_) (fun h2 => ?_)
    ·
      refine PW.seq ?_
      refine PW.region ?_
      refine PL.run 1 rfl ?_
      refine PL.nil ?_
      refine PW.ret ?_
      refine RetOk.free rfl rfl (congrArg eI ?_)
      simp only [decide_eq_true_eq, decide_eq_false_iff_not] at h1 h2; omega
    ·
      refine PW.skip ?_
      refine PW.seq ?_
      refine PW.region ?_
      refine PL.run 3 rfl ?_
      refine PL.call rfl rfl rfl (laws_szReader_spec w.reader _ (by simp only [decide_eq_false_iff_not] at h1 h2; omega) (by simp only [decide_eq_false_iff_not] at h1 h2; omega) hb.r) (.cons (.refl _) <| .cons (.refl _) <| .nil) (fun p hp => by subst hp; rfl) (wantV_ok rfl) rfl (fun p hp => ?_)
      subst hp
      refine PL.run 1 rfl ?_
      refine PL.nil ?_
      refine PW.seq ?_
      refine PW.seq ?_
      refine PW.region ?_
      refine PL.run 2 rfl ?_
      refine PL.nil ?_
      refine PW.cond rfl (fun h3 => ?_) (fun h3 => ?_)
      ·
        refine PW.seq ?_
        refine PW.region ?_
        refine PL.run 1 rfl ?_
        refine PL.nil ?_
        refine PW.ret ?_
        refine RetOk.free rfl rfl (congrArg eI ?_)
        simp only [decide_eq_true_eq, decide_eq_false_iff_not] at h1 h2 h3; omega
      ·
        refine PW.skip ?_
        refine PW.seq ?_
        refine PW.region ?_
        refine PL.run 3 rfl ?_
        refine PL.call rfl rfl rfl (laws_szWireS_spec w.net _ (by simp only [decide_eq_false_iff_not] at h1 h2 h3; omega) (by simp only [decide_eq_false_iff_not] at h1 h2 h3; omega) hb.n) (.cons (.refl _) <| .cons (.refl _) <| .nil) (fun p hp => by subst hp; rfl) (wantV_ok rfl) rfl (fun p hp => ?_)
        subst hp
        refine PL.run 1 rfl ?_
        refine PL.nil ?_
        refine PW.seq ?_
        refine PW.seq ?_
        refine PW.region ?_
        refine PL.run 2 rfl ?_
        refine PL.nil ?_
        refine PW.cond rfl (fun h4 => ?_) (fun h4 => ?_)
        ·
          refine PW.seq ?_
          refine PW.region ?_
          refine PL.run 1 rfl ?_
          refine PL.nil ?_
          refine PW.ret ?_
          refine RetOk.free rfl rfl (congrArg eI ?_)
          simp only [decide_eq_true_eq, decide_eq_false_iff_not] at h1 h2 h3 h4; omega
        ·
          refine PW.skip ?_
          refine PW.seq ?_
          refine PW.region ?_
          refine PL.run 3 rfl ?_
          refine PL.call rfl rfl rfl (laws_szSentS_spec w.sent _ (by simp only [decide_eq_false_iff_not] at h1 h2 h3 h4; omega) (by simp only [decide_eq_false_iff_not] at h1 h2 h3 h4; omega) hb.s) (.cons (.refl _) <| .cons (.refl _) <| .nil) (fun p hp => by subst hp; rfl) (wantV_ok rfl) rfl (fun p hp => ?_)
          subst hp
          refine PL.run 1 rfl ?_
          refine PL.nil ?_
          refine PW.seq ?_
          refine PW.seq ?_
          refine PW.region ?_
          refine PL.run 2 rfl ?_
          refine PL.nil ?_
          refine PW.cond rfl (fun h5 => ?_) (fun h5 => ?_)
          ·
            refine PW.seq ?_
            refine PW.region ?_
            refine PL.run 1 rfl ?_
            refine PL.nil ?_
            refine PW.ret ?_
            refine RetOk.free rfl rfl (congrArg eI ?_)
            simp only [decide_eq_true_eq, decide_eq_false_iff_not] at h1 h2 h3 h4 h5; omega
          ·
            refine PW.skip ?_
            refine PW.seq ?_
            refine PW.region ?_
            refine PL.run 2 rfl ?_
            refine PL.nil ?_
            refine PW.ret ?_
            refine RetOk.free rfl rfl (congrArg eI ?_)
            simp only [decide_eq_true_eq, decide_eq_false_iff_not] at h1 h2 h3 h4 h5; omega
end Go.Wl
set_option linter.unusedVariables false
set_option linter.unusedSimpArgs false
set_option maxRecDepth 100000
set_option maxHeartbeats 4000000
namespace Go.Wl
open Go Go.RowKit Go.Pw Go.Proofs
/-- A made row that is filled from the left. -/
def fillC (z : List PV) (es : List (List PV)) (i : Nat) : List PV := (es.take i).flatten ++ (List.replicate (es.length - i) z).flatten
theorem fillC_len {z : List PV} {es : List (List PV)} {i sz : Nat} (hz : ∀ e ∈ es, e.length = sz) (h0 : z.length = sz) (hi : i ≤ es.length) : (fillC z es i).length = es.length * sz := by
  rw [fillC, List.length_append, flat_len (sz := sz) (fun e he => hz e (List.mem_of_mem_take he)), flat_len (sz := sz) (fun e he => by rw [List.eq_of_mem_replicate he]; exact h0), List.length_take, List.length_replicate, ← Nat.add_mul]
  congr 1; omega
theorem fillC_step {z : List PV} {es : List (List PV)} {i sz off : Nat} {e : List PV} (hz : ∀ e ∈ es, e.length = sz) (h0 : z.length = sz) (he : es[i]? = some e) (ho : off = i * sz) : writeC (fillC z es i) off e = fillC z es (i + 1) := by
  have h := (List.getElem?_eq_some_iff.1 he).1
  have e1 : List.replicate (es.length - i) z = z :: List.replicate (es.length - (i + 1)) z := by
    rw [← List.replicate_succ]; congr 1; omega
  rw [fillC, e1, List.flatten_cons, writeC_mid (by rw [flat_len (sz := sz) (fun e he => hz e (List.mem_of_mem_take he)), List.length_take, ho, Nat.min_eq_left (Nat.le_of_lt h)]) (by rw [h0, hz e (List.mem_of_getElem? he)]), fillC, take_step he, List.flatten_append]
  simp
theorem fillC_free {z : List PV} {es : List (List PV)} {i : Nat} (hz : ∀ e ∈ es, freeL e = true) (h0 : freeL z = true) : freeL (fillC z es i) = true := by
  rw [freeL_iff]
  intro p hp
  rcases List.mem_append.1 hp with hp | hp
  · obtain ⟨e, he, hp⟩ := List.mem_flatten.1 hp
    exact freeL_iff.1 (hz e (List.mem_of_mem_take he)) p hp
  · obtain ⟨e, he, hp⟩ := List.mem_flatten.1 hp
    rw [List.eq_of_mem_replicate he] at hp
    exact freeL_iff.1 h0 p hp
theorem fillC_end {z : List PV} {es : List (List PV)} {i : Nat} (h : i = es.length) : fillC z es i = es.flatten ++ [] := by
  subst h; simp [fillC]
theorem fillC_zero {z : List PV} {es : List (List PV)} {j : TI} {n : Nat} (hj : j.zero.cells.toList.map PV.lit = z) (hn : n = es.length) : zrow j n = fillC z es 0 := by
  subst hn hj; simp [fillC, zrow]
theorem row_len {α : Type} {f : α → List PV} {sz : Nat} (h : ∀ x, (f x).length = sz) (l : List α) : ∀ e ∈ l.map f, e.length = sz := fun e he => by
  obtain ⟨b, _, rfl⟩ := List.mem_map.1 he; exact h b
theorem row_free {α : Type} {f : α → List PV} (h : ∀ x, freeL (f x) = true) (l : List α) : ∀ e ∈ l.map f, freeL e = true := fun e he => by
  obtain ⟨b, _, rfl⟩ := List.mem_map.1 he; exact h b
theorem mul_toNat {i sz : Nat} : 0 + ((i : Nat) : Int).toNat * sz = i * sz := by rw [Int.toNat_natCast, Nat.zero_add]
theorem off_le {i n sz : Nat} (h : i < n) : i * sz + sz ≤ n * sz := by
  rw [← Nat.succ_mul]; exact Nat.mul_le_mul_right _ h
structure FewL {α : Type} (P : α → Prop) (l : List α) : Prop where
  len : l.length ≤ 1048576
  all : ∀ (i : Nat) (x : α), l[i]? = some x → P x
abbrev FewB (b : List UInt8) : Prop := b.length ≤ 1048576
def FewI (x : Item) : Prop := FewB x.bytes
structure FewP (p : Post) : Prop where
  q : FewL FewI p.queue
  b : FewB p.book
structure FewR (r : Reader) : Prop where
  s : FewB r.seed
  seen : FewL FewB r.seen
  got : FewL FewB r.got
structure FewW (w : Wire) : Prop where
  i : FewI w.item
  b : FewB w.bytes
structure FewS (s : Sent) : Prop where
  n : FewB s.note
  b : FewB s.bytes
structure FewE (w : Earth) : Prop where
  seed : FewB w.seed
  p : FewP w.post
  r : FewR w.reader
  n : FewL FewW w.net
  s : FewL FewS w.sent
/- laws.toByteS -/
theorem laws_toByteS_spec (q : List UInt8) (hb : FewB q) : Pw.Spec Tryd.prog 16 [eBs q] (fun res_ => res_ = eBs q) := by
  refine spec_of (n := 22) Tryd.call16 Tryd.func16 rfl rfl (by simp) rfl rfl fun W Z => ?_
  have hll : (q.map eb).length = q.length := List.length_map ..
  have hql := hb
  have hrl : ∀ x, (eb x).length = 1 := fun x => rfl
  have hrf : ∀ x, freeL (eb x) = true := fun x => rfl
  refine PW.seq ?_
  refine PW.region ?_
  refine PL.run 1 rfl ?_
  refine PL.nil ?_
  refine PW.seq ?_
  refine PW.region ?_
  refine PL.run 2 rfl ?_
  refine PL.make rfl rfl rfl rfl rfl rfl rfl rfl rfl (by simp <;> omega) (by simp <;> omega) rfl (wantV_ok rfl) rfl ?_
  refine PL.run 1 rfl ?_
  refine PL.nil ?_
  refine PW.seq ?_
  refine PW.seq ?_
  refine PW.region ?_
  refine PL.run 1 rfl ?_
  refine PL.nil ?_
  refine PW.block ?_
  refine PW.loopAt (α := Nat) (fun i => ⟨[(3, .bs 7 0 (q.map eb).length (q.map eb).length), (0, eBs q), (4, eI (i : Int))], ⟨[(7, (5, fillC [.lit (.int .u8 0)] (q.map eb) i))], []⟩⟩) (fun i => i ≤ q.length) (fun i => q.length - i) 0 (Le.boxes ⟨⟨congrArg (fun c => some (_, c)) (fillC_zero rfl rfl), fillC_free (row_free hrf q) rfl⟩, trivial⟩ ⟨⟨rfl, rfl⟩, ⟨rfl, rfl⟩, ⟨rfl, rfl⟩, trivial⟩) (Nat.zero_le _) (fun i hi => ?_)
  refine PW.seq ?_
  refine PW.seq ?_
  refine PW.region ?_
  refine PL.run 4 rfl ?_
  refine PL.nil ?_
  refine PW.cond rfl (fun h1 => ?_) (fun h1 => ?_)
  ·
    have hlt : i < q.length := by simpa using h1
    clear h1
    obtain ⟨x, hx⟩ : ∃ y, q[i]? = some y := ⟨_, List.getElem?_eq_getElem hlt⟩
    have hup : some (PV.lit (.int .i64 (IntKind.i64.wrap ((i : Int) + 1)))) = some (PV.lit (.int .i64 ((i + 1 : Nat) : Int))) := inc_ok (by omega)
    refine PW.skip ?_
    refine PW.seq ?_
    refine PW.block ?_
    refine PW.region ?_
    refine PL.run 4 rfl ?_
    refine PL.val (OpV.idx rfl rfl rfl (nat_nonneg i) (map_at' hx) rfl rfl rfl rfl) (wantV_ok rfl) rfl ?_
    refine PL.run 1 rfl ?_
    refine PL.val (OpV.idxB rfl rfl rfl (nat_nonneg i) (by rw [Int.toNat_natCast, hll]; exact hlt) rfl rfl rfl) (wantV_ok rfl) rfl ?_
    refine PL.store rfl rfl rfl rfl rfl rfl rfl (by rw [fillC_len (row_len hrl q) rfl (by rw [hll]; exact hi), hll]; show 0 + ((i : Nat) : Int).toNat * 1 + 1 ≤ q.length * 1; rw [mul_toNat]; exact off_le hlt) rfl (wantV_ok rfl) ?_
    refine PL.nil ?_
    refine PW.region ?_
    refine PL.run 3 rfl ?_
    refine PL.nil ?_
    refine ⟨i + 1, Le.boxes ⟨⟨congrArg (fun c => some (_, c)) (fillC_step (row_len hrl q) rfl (map_at' hx) mul_toNat), fillC_free (row_free hrf q) rfl⟩, trivial⟩ ⟨⟨rfl, rfl⟩, ⟨rfl, rfl⟩, ⟨hup, rfl⟩, trivial⟩, hlt, by omega⟩
  ·
    have hge : i = q.length := Nat.le_antisymm hi (by simpa using h1)
    refine PW.exit ?_
    refine PW.seq ?_
    refine PW.region ?_
    refine PL.run 2 rfl ?_
    refine PL.nil ?_
    refine PW.le (Le.freezeS (tv := 2) (sz := 1) (es := q.map eb) (r := []) (e := []) rfl rfl (fillC_free (row_free hrf q) rfl) (fillC_end (by rw [hll]; exact hge)) rfl (row_len hrl q) (Nat.le_refl _)) ?_
    refine PW.ret ?_
    refine RetOk.free rfl rfl rfl
/- laws.toItem -/
theorem laws_toItem_spec (x : Item) (hb : FewI x) : Pw.Spec Tryd.prog 42 [.agg (eItem x)] (fun res_ => res_ = .agg (eItem x)) := by
  refine spec_of (n := 18) Tryd.call42 Tryd.func42 rfl rfl (by simp) rfl rfl fun W Z => ?_
  refine PW.seq ?_
  refine PW.region ?_
  refine PL.run 2 rfl ?_
  refine PL.nil ?_
  refine PW.seq ?_
  refine PW.region ?_
  refine PL.run 1 rfl ?_
  refine PL.nil ?_
  refine PW.seq ?_
  refine PW.region ?_
  refine PL.run 4 rfl ?_
  refine PL.nil ?_
  refine PW.seq ?_
  refine PW.region ?_
  refine PL.run 4 rfl ?_
  refine PL.nil ?_
  refine PW.seq ?_
  refine PW.region ?_
  refine PL.run 4 rfl ?_
  refine PL.nil ?_
  refine PW.seq ?_
  refine PW.region ?_
  refine PL.run 2 rfl ?_
  refine PL.call rfl rfl rfl (laws_toByteS_spec x.bytes hb) (.cons (.refl _) <| .nil) (fun p hp => by subst hp; rfl) (wantV_ok rfl) rfl (fun p hp => ?_)
  subst hp
  refine PL.run 2 rfl ?_
  refine PL.nil ?_
  refine PW.seq ?_
  refine PW.region ?_
  refine PL.run 2 rfl ?_
  refine PL.nil ?_
  refine PW.ret ?_
  refine RetOk.free rfl rfl rfl
/- laws.toItemS -/
theorem laws_toItemS_spec (q : List Item) (hb : FewL FewI q) : Pw.Spec Tryd.prog 32 [eItems q] (fun res_ => res_ = eItems q) := by
  refine spec_of (n := 23) Tryd.call32 Tryd.func32 rfl rfl (by simp) rfl rfl fun W Z => ?_
  have hll : (q.map eItem).length = q.length := List.length_map ..
  have hql := hb.len
  have hrl : ∀ x, (eItem x).length = 4 := fun x => rfl
  have hrf : ∀ x, freeL (eItem x) = true := fun x => rfl
  refine PW.seq ?_
  refine PW.region ?_
  refine PL.run 1 rfl ?_
  refine PL.nil ?_
  refine PW.seq ?_
  refine PW.region ?_
  refine PL.run 2 rfl ?_
  refine PL.make rfl rfl rfl rfl rfl rfl rfl rfl rfl (by simp <;> omega) (by simp <;> omega) rfl (wantV_ok rfl) rfl ?_
  refine PL.run 1 rfl ?_
  refine PL.nil ?_
  refine PW.seq ?_
  refine PW.seq ?_
  refine PW.region ?_
  refine PL.run 1 rfl ?_
  refine PL.nil ?_
  refine PW.block ?_
  refine PW.loopAt (α := Nat) (fun i => ⟨[(3, .bs 7 0 (q.map eItem).length (q.map eItem).length), (0, eItems q), (4, eI (i : Int))], ⟨[(7, (54, fillC [.lit (.string ByteArray.empty), .lit (.int .i64 0), .lit (.int .i64 0), .lit (.slice none 0 0)] (q.map eItem) i))], []⟩⟩) (fun i => i ≤ q.length) (fun i => q.length - i) 0 (Le.boxes ⟨⟨congrArg (fun c => some (_, c)) (fillC_zero rfl rfl), fillC_free (row_free hrf q) rfl⟩, trivial⟩ ⟨⟨rfl, rfl⟩, ⟨rfl, rfl⟩, ⟨rfl, rfl⟩, trivial⟩) (Nat.zero_le _) (fun i hi => ?_)
  refine PW.seq ?_
  refine PW.seq ?_
  refine PW.region ?_
  refine PL.run 4 rfl ?_
  refine PL.nil ?_
  refine PW.cond rfl (fun h1 => ?_) (fun h1 => ?_)
  ·
    have hlt : i < q.length := by simpa using h1
    clear h1
    obtain ⟨x, hx⟩ : ∃ y, q[i]? = some y := ⟨_, List.getElem?_eq_getElem hlt⟩
    have hup : some (PV.lit (.int .i64 (IntKind.i64.wrap ((i : Int) + 1)))) = some (PV.lit (.int .i64 ((i + 1 : Nat) : Int))) := inc_ok (by omega)
    refine PW.skip ?_
    refine PW.seq ?_
    refine PW.block ?_
    refine PW.region ?_
    refine PL.run 4 rfl ?_
    refine PL.val (OpV.idx rfl rfl rfl (nat_nonneg i) (map_at' hx) rfl rfl rfl rfl) (wantV_ok rfl) rfl ?_
    refine PL.run 1 rfl ?_
    refine PL.call rfl rfl rfl (laws_toItem_spec x (hb.all i x hx)) (.cons (.refl _) <| .nil) (fun p hp => by subst hp; rfl) (wantV_ok rfl) rfl (fun p hp => ?_)
    subst hp
    refine PL.val (OpV.idxB rfl rfl rfl (nat_nonneg i) (by rw [Int.toNat_natCast, hll]; exact hlt) rfl rfl rfl) (wantV_ok rfl) rfl ?_
    refine PL.store rfl rfl rfl rfl rfl rfl rfl (by rw [fillC_len (row_len hrl q) rfl (by rw [hll]; exact hi), hll]; show 0 + ((i : Nat) : Int).toNat * 4 + 4 ≤ q.length * 4; rw [mul_toNat]; exact off_le hlt) rfl (wantV_ok rfl) ?_
    refine PL.nil ?_
    refine PW.region ?_
    refine PL.run 3 rfl ?_
    refine PL.nil ?_
    refine ⟨i + 1, Le.boxes ⟨⟨congrArg (fun c => some (_, c)) (fillC_step (row_len hrl q) rfl (map_at' hx) mul_toNat), fillC_free (row_free hrf q) rfl⟩, trivial⟩ ⟨⟨rfl, rfl⟩, ⟨rfl, rfl⟩, ⟨hup, rfl⟩, trivial⟩, hlt, by omega⟩
  ·
    have hge : i = q.length := Nat.le_antisymm hi (by simpa using h1)
    refine PW.exit ?_
    refine PW.seq ?_
    refine PW.region ?_
    refine PL.run 2 rfl ?_
    refine PL.nil ?_
    refine PW.le (Le.freezeS (tv := 2) (sz := 4) (es := q.map eItem) (r := []) (e := []) rfl rfl (fillC_free (row_free hrf q) rfl) (fillC_end (by rw [hll]; exact hge)) rfl (row_len hrl q) (Nat.le_refl _)) ?_
    refine PW.ret ?_
    refine RetOk.free rfl rfl rfl
/- laws.toPost -/
theorem laws_toPost_spec (p : Post) (hb : FewP p) : Pw.Spec Tryd.prog 17 [.agg (ePost p)] (fun res_ => res_ = .agg (ePost p)) := by
  refine spec_of (n := 19) Tryd.call17 Tryd.func17 rfl rfl (by simp) rfl rfl fun W Z => ?_
  refine PW.seq ?_
  refine PW.region ?_
  refine PL.run 2 rfl ?_
  refine PL.nil ?_
  refine PW.seq ?_
  refine PW.region ?_
  refine PL.run 1 rfl ?_
  refine PL.nil ?_
  refine PW.seq ?_
  refine PW.region ?_
  refine PL.run 2 rfl ?_
  refine PL.call rfl rfl rfl (laws_toItemS_spec p.queue hb.q) (.cons (.refl _) <| .nil) (fun p hp => by subst hp; rfl) (wantV_ok rfl) rfl (fun p hp => ?_)
  subst hp
  refine PL.run 2 rfl ?_
  refine PL.nil ?_
  refine PW.seq ?_
  refine PW.region ?_
  refine PL.run 4 rfl ?_
  refine PL.nil ?_
  refine PW.seq ?_
  refine PW.region ?_
  refine PL.run 2 rfl ?_
  refine PL.call rfl rfl rfl (laws_toByteS_spec p.book hb.b) (.cons (.refl _) <| .nil) (fun p hp => by subst hp; rfl) (wantV_ok rfl) rfl (fun p hp => ?_)
  subst hp
  refine PL.run 2 rfl ?_
  refine PL.nil ?_
  refine PW.seq ?_
  refine PW.region ?_
  refine PL.run 4 rfl ?_
  refine PL.nil ?_
  refine PW.seq ?_
  refine PW.region ?_
  refine PL.run 2 rfl ?_
  refine PL.nil ?_
  refine PW.ret ?_
  refine RetOk.free rfl rfl rfl
/- laws.toByteSS -/
theorem laws_toByteSS_spec (q : List (List UInt8)) (hb : FewL FewB q) : Pw.Spec Tryd.prog 33 [eBss q] (fun res_ => res_ = eBss q) := by
  refine spec_of (n := 23) Tryd.call33 Tryd.func33 rfl rfl (by simp) rfl rfl fun W Z => ?_
  have hll : (q.map eBss1).length = q.length := List.length_map ..
  have hql := hb.len
  have hrl : ∀ x, (eBss1 x).length = 1 := fun x => rfl
  have hrf : ∀ x, freeL (eBss1 x) = true := fun x => rfl
  refine PW.seq ?_
  refine PW.region ?_
  refine PL.run 1 rfl ?_
  refine PL.nil ?_
  refine PW.seq ?_
  refine PW.region ?_
  refine PL.run 2 rfl ?_
  refine PL.make rfl rfl rfl rfl rfl rfl rfl rfl rfl (by simp <;> omega) (by simp <;> omega) rfl (wantV_ok rfl) rfl ?_
  refine PL.run 1 rfl ?_
  refine PL.nil ?_
  refine PW.seq ?_
  refine PW.seq ?_
  refine PW.region ?_
  refine PL.run 1 rfl ?_
  refine PL.nil ?_
  refine PW.block ?_
  refine PW.loopAt (α := Nat) (fun i => ⟨[(3, .bs 7 0 (q.map eBss1).length (q.map eBss1).length), (0, eBss q), (4, eI (i : Int))], ⟨[(7, (22, fillC [.lit (.slice none 0 0)] (q.map eBss1) i))], []⟩⟩) (fun i => i ≤ q.length) (fun i => q.length - i) 0 (Le.boxes ⟨⟨congrArg (fun c => some (_, c)) (fillC_zero rfl rfl), fillC_free (row_free hrf q) rfl⟩, trivial⟩ ⟨⟨rfl, rfl⟩, ⟨rfl, rfl⟩, ⟨rfl, rfl⟩, trivial⟩) (Nat.zero_le _) (fun i hi => ?_)
  refine PW.seq ?_
  refine PW.seq ?_
  refine PW.region ?_
  refine PL.run 4 rfl ?_
  refine PL.nil ?_
  refine PW.cond rfl (fun h1 => ?_) (fun h1 => ?_)
  ·
    have hlt : i < q.length := by simpa using h1
    clear h1
    obtain ⟨x, hx⟩ : ∃ y, q[i]? = some y := ⟨_, List.getElem?_eq_getElem hlt⟩
    have hup : some (PV.lit (.int .i64 (IntKind.i64.wrap ((i : Int) + 1)))) = some (PV.lit (.int .i64 ((i + 1 : Nat) : Int))) := inc_ok (by omega)
    refine PW.skip ?_
    refine PW.seq ?_
    refine PW.block ?_
    refine PW.region ?_
    refine PL.run 4 rfl ?_
    refine PL.val (OpV.idx rfl rfl rfl (nat_nonneg i) (map_at' hx) rfl rfl rfl rfl) (wantV_ok rfl) rfl ?_
    refine PL.run 1 rfl ?_
    refine PL.call rfl rfl rfl (laws_toByteS_spec x (hb.all i x hx)) (.cons (.refl _) <| .nil) (fun p hp => by subst hp; rfl) (wantV_ok rfl) rfl (fun p hp => ?_)
    subst hp
    refine PL.val (OpV.idxB rfl rfl rfl (nat_nonneg i) (by rw [Int.toNat_natCast, hll]; exact hlt) rfl rfl rfl) (wantV_ok rfl) rfl ?_
    refine PL.store rfl rfl rfl rfl rfl rfl rfl (by rw [fillC_len (row_len hrl q) rfl (by rw [hll]; exact hi), hll]; show 0 + ((i : Nat) : Int).toNat * 1 + 1 ≤ q.length * 1; rw [mul_toNat]; exact off_le hlt) rfl (wantV_ok rfl) ?_
    refine PL.nil ?_
    refine PW.region ?_
    refine PL.run 3 rfl ?_
    refine PL.nil ?_
    refine ⟨i + 1, Le.boxes ⟨⟨congrArg (fun c => some (_, c)) (fillC_step (row_len hrl q) rfl (map_at' hx) mul_toNat), fillC_free (row_free hrf q) rfl⟩, trivial⟩ ⟨⟨rfl, rfl⟩, ⟨rfl, rfl⟩, ⟨hup, rfl⟩, trivial⟩, hlt, by omega⟩
  ·
    have hge : i = q.length := Nat.le_antisymm hi (by simpa using h1)
    refine PW.exit ?_
    refine PW.seq ?_
    refine PW.region ?_
    refine PL.run 2 rfl ?_
    refine PL.nil ?_
    refine PW.le (Le.freezeS (tv := 2) (sz := 1) (es := q.map eBss1) (r := []) (e := []) rfl rfl (fillC_free (row_free hrf q) rfl) (fillC_end (by rw [hll]; exact hge)) rfl (row_len hrl q) (Nat.le_refl _)) ?_
    refine PW.ret ?_
    refine RetOk.free rfl rfl rfl
/- laws.toReader -/
theorem laws_toReader_spec (r : Reader) (hb : FewR r) : Pw.Spec Tryd.prog 18 [.agg (eReader r)] (fun res_ => res_ = .agg (eReader r)) := by
  refine spec_of (n := 20) Tryd.call18 Tryd.func18 rfl rfl (by simp) rfl rfl fun W Z => ?_
  refine PW.seq ?_
  refine PW.region ?_
  refine PL.run 2 rfl ?_
  refine PL.nil ?_
  refine PW.seq ?_
  refine PW.region ?_
  refine PL.run 1 rfl ?_
  refine PL.nil ?_
  refine PW.seq ?_
  refine PW.region ?_
  refine PL.run 2 rfl ?_
  refine PL.call rfl rfl rfl (laws_toByteS_spec r.seed hb.s) (.cons (.refl _) <| .nil) (fun p hp => by subst hp; rfl) (wantV_ok rfl) rfl (fun p hp => ?_)
  subst hp
  refine PL.run 2 rfl ?_
  refine PL.nil ?_
  refine PW.seq ?_
  refine PW.region ?_
  refine PL.run 4 rfl ?_
  refine PL.nil ?_
  refine PW.seq ?_
  refine PW.region ?_
  refine PL.run 2 rfl ?_
  refine PL.call rfl rfl rfl (laws_toByteSS_spec r.seen hb.seen) (.cons (.refl _) <| .nil) (fun p hp => by subst hp; rfl) (wantV_ok rfl) rfl (fun p hp => ?_)
  subst hp
  refine PL.run 2 rfl ?_
  refine PL.nil ?_
  refine PW.seq ?_
  refine PW.region ?_
  refine PL.run 2 rfl ?_
  refine PL.call rfl rfl rfl (laws_toByteSS_spec r.got hb.got) (.cons (.refl _) <| .nil) (fun p hp => by subst hp; rfl) (wantV_ok rfl) rfl (fun p hp => ?_)
  subst hp
  refine PL.run 2 rfl ?_
  refine PL.nil ?_
  refine PW.seq ?_
  refine PW.region ?_
  refine PL.run 2 rfl ?_
  refine PL.nil ?_
  refine PW.ret ?_
  refine RetOk.free rfl rfl rfl
/- laws.toWire -/
theorem laws_toWire_spec (w : Wire) (hb : FewW w) : Pw.Spec Tryd.prog 34 [.agg (eWire w)] (fun res_ => res_ = .agg (eWire w)) := by
  refine spec_of (n := 16) Tryd.call34 Tryd.func34 rfl rfl (by simp) rfl rfl fun W Z => ?_
  refine PW.seq ?_
  refine PW.region ?_
  refine PL.run 2 rfl ?_
  refine PL.nil ?_
  refine PW.seq ?_
  refine PW.region ?_
  refine PL.run 1 rfl ?_
  refine PL.nil ?_
  refine PW.seq ?_
  refine PW.region ?_
  refine PL.run 4 rfl ?_
  refine PL.nil ?_
  refine PW.seq ?_
  refine PW.region ?_
  refine PL.run 2 rfl ?_
  refine PL.call rfl rfl rfl (laws_toItem_spec w.item hb.i) (.cons (.refl _) <| .nil) (fun p hp => by subst hp; rfl) (wantV_ok rfl) rfl (fun p hp => ?_)
  subst hp
  refine PL.run 2 rfl ?_
  refine PL.nil ?_
  refine PW.seq ?_
  refine PW.region ?_
  refine PL.run 2 rfl ?_
  refine PL.call rfl rfl rfl (laws_toByteS_spec w.bytes hb.b) (.cons (.refl _) <| .nil) (fun p hp => by subst hp; rfl) (wantV_ok rfl) rfl (fun p hp => ?_)
  subst hp
  refine PL.run 2 rfl ?_
  refine PL.nil ?_
  refine PW.seq ?_
  refine PW.region ?_
  refine PL.run 2 rfl ?_
  refine PL.nil ?_
  refine PW.ret ?_
  refine RetOk.free rfl rfl rfl
/- laws.toWireS -/
theorem laws_toWireS_spec (q : List Wire) (hb : FewL FewW q) : Pw.Spec Tryd.prog 19 [eWires q] (fun res_ => res_ = eWires q) := by
  refine spec_of (n := 23) Tryd.call19 Tryd.func19 rfl rfl (by simp) rfl rfl fun W Z => ?_
  have hll : (q.map eWire).length = q.length := List.length_map ..
  have hql := hb.len
  have hrl : ∀ x, (eWire x).length = 6 := fun x => rfl
  have hrf : ∀ x, freeL (eWire x) = true := fun x => rfl
  refine PW.seq ?_
  refine PW.region ?_
  refine PL.run 1 rfl ?_
  refine PL.nil ?_
  refine PW.seq ?_
  refine PW.region ?_
  refine PL.run 2 rfl ?_
  refine PL.make rfl rfl rfl rfl rfl rfl rfl rfl rfl (by simp <;> omega) (by simp <;> omega) rfl (wantV_ok rfl) rfl ?_
  refine PL.run 1 rfl ?_
  refine PL.nil ?_
  refine PW.seq ?_
  refine PW.seq ?_
  refine PW.region ?_
  refine PL.run 1 rfl ?_
  refine PL.nil ?_
  refine PW.block ?_
  refine PW.loopAt (α := Nat) (fun i => ⟨[(3, .bs 7 0 (q.map eWire).length (q.map eWire).length), (0, eWires q), (4, eI (i : Int))], ⟨[(7, (77, fillC [.lit (.bool false), .lit (.string ByteArray.empty), .lit (.int .i64 0), .lit (.int .i64 0), .lit (.slice none 0 0), .lit (.slice none 0 0)] (q.map eWire) i))], []⟩⟩) (fun i => i ≤ q.length) (fun i => q.length - i) 0 (Le.boxes ⟨⟨congrArg (fun c => some (_, c)) (fillC_zero rfl rfl), fillC_free (row_free hrf q) rfl⟩, trivial⟩ ⟨⟨rfl, rfl⟩, ⟨rfl, rfl⟩, ⟨rfl, rfl⟩, trivial⟩) (Nat.zero_le _) (fun i hi => ?_)
  refine PW.seq ?_
  refine PW.seq ?_
  refine PW.region ?_
  refine PL.run 4 rfl ?_
  refine PL.nil ?_
  refine PW.cond rfl (fun h1 => ?_) (fun h1 => ?_)
  ·
    have hlt : i < q.length := by simpa using h1
    clear h1
    obtain ⟨x, hx⟩ : ∃ y, q[i]? = some y := ⟨_, List.getElem?_eq_getElem hlt⟩
    have hup : some (PV.lit (.int .i64 (IntKind.i64.wrap ((i : Int) + 1)))) = some (PV.lit (.int .i64 ((i + 1 : Nat) : Int))) := inc_ok (by omega)
    refine PW.skip ?_
    refine PW.seq ?_
    refine PW.block ?_
    refine PW.region ?_
    refine PL.run 4 rfl ?_
    refine PL.val (OpV.idx rfl rfl rfl (nat_nonneg i) (map_at' hx) rfl rfl rfl rfl) (wantV_ok rfl) rfl ?_
    refine PL.run 1 rfl ?_
    refine PL.call rfl rfl rfl (laws_toWire_spec x (hb.all i x hx)) (.cons (.refl _) <| .nil) (fun p hp => by subst hp; rfl) (wantV_ok rfl) rfl (fun p hp => ?_)
    subst hp
    refine PL.val (OpV.idxB rfl rfl rfl (nat_nonneg i) (by rw [Int.toNat_natCast, hll]; exact hlt) rfl rfl rfl) (wantV_ok rfl) rfl ?_
    refine PL.store rfl rfl rfl rfl rfl rfl rfl (by rw [fillC_len (row_len hrl q) rfl (by rw [hll]; exact hi), hll]; show 0 + ((i : Nat) : Int).toNat * 6 + 6 ≤ q.length * 6; rw [mul_toNat]; exact off_le hlt) rfl (wantV_ok rfl) ?_
    refine PL.nil ?_
    refine PW.region ?_
    refine PL.run 3 rfl ?_
    refine PL.nil ?_
    refine ⟨i + 1, Le.boxes ⟨⟨congrArg (fun c => some (_, c)) (fillC_step (row_len hrl q) rfl (map_at' hx) mul_toNat), fillC_free (row_free hrf q) rfl⟩, trivial⟩ ⟨⟨rfl, rfl⟩, ⟨rfl, rfl⟩, ⟨hup, rfl⟩, trivial⟩, hlt, by omega⟩
  ·
    have hge : i = q.length := Nat.le_antisymm hi (by simpa using h1)
    refine PW.exit ?_
    refine PW.seq ?_
    refine PW.region ?_
    refine PL.run 2 rfl ?_
    refine PL.nil ?_
    refine PW.le (Le.freezeS (tv := 2) (sz := 6) (es := q.map eWire) (r := []) (e := []) rfl rfl (fillC_free (row_free hrf q) rfl) (fillC_end (by rw [hll]; exact hge)) rfl (row_len hrl q) (Nat.le_refl _)) ?_
    refine PW.ret ?_
    refine RetOk.free rfl rfl rfl
/- laws.toSent -/
theorem laws_toSent_spec (x : Sent) (hb : FewS x) : Pw.Spec Tryd.prog 35 [.agg (eSent x)] (fun res_ => res_ = .agg (eSent x)) := by
  refine spec_of (n := 19) Tryd.call35 Tryd.func35 rfl rfl (by simp) rfl rfl fun W Z => ?_
  refine PW.seq ?_
  refine PW.region ?_
  refine PL.run 2 rfl ?_
  refine PL.nil ?_
  refine PW.seq ?_
  refine PW.region ?_
  refine PL.run 1 rfl ?_
  refine PL.nil ?_
  refine PW.seq ?_
  refine PW.region ?_
  refine PL.run 4 rfl ?_
  refine PL.nil ?_
  refine PW.seq ?_
  refine PW.region ?_
  refine PL.run 4 rfl ?_
  refine PL.nil ?_
  refine PW.seq ?_
  refine PW.region ?_
  refine PL.run 2 rfl ?_
  refine PL.call rfl rfl rfl (laws_toByteS_spec x.note hb.n) (.cons (.refl _) <| .nil) (fun p hp => by subst hp; rfl) (wantV_ok rfl) rfl (fun p hp => ?_)
  subst hp
  refine PL.run 2 rfl ?_
  refine PL.nil ?_
  refine PW.seq ?_
  refine PW.region ?_
  refine PL.run 2 rfl ?_
  refine PL.call rfl rfl rfl (laws_toByteS_spec x.bytes hb.b) (.cons (.refl _) <| .nil) (fun p hp => by subst hp; rfl) (wantV_ok rfl) rfl (fun p hp => ?_)
  subst hp
  refine PL.run 2 rfl ?_
  refine PL.nil ?_
  refine PW.seq ?_
  refine PW.region ?_
  refine PL.run 2 rfl ?_
  refine PL.nil ?_
  refine PW.ret ?_
  refine RetOk.free rfl rfl rfl
/- laws.toSentS -/
theorem laws_toSentS_spec (q : List Sent) (hb : FewL FewS q) : Pw.Spec Tryd.prog 20 [eSents q] (fun res_ => res_ = eSents q) := by
  refine spec_of (n := 23) Tryd.call20 Tryd.func20 rfl rfl (by simp) rfl rfl fun W Z => ?_
  have hll : (q.map eSent).length = q.length := List.length_map ..
  have hql := hb.len
  have hrl : ∀ x, (eSent x).length = 4 := fun x => rfl
  have hrf : ∀ x, freeL (eSent x) = true := fun x => rfl
  refine PW.seq ?_
  refine PW.region ?_
  refine PL.run 1 rfl ?_
  refine PL.nil ?_
  refine PW.seq ?_
  refine PW.region ?_
  refine PL.run 2 rfl ?_
  refine PL.make rfl rfl rfl rfl rfl rfl rfl rfl rfl (by simp <;> omega) (by simp <;> omega) rfl (wantV_ok rfl) rfl ?_
  refine PL.run 1 rfl ?_
  refine PL.nil ?_
  refine PW.seq ?_
  refine PW.seq ?_
  refine PW.region ?_
  refine PL.run 1 rfl ?_
  refine PL.nil ?_
  refine PW.block ?_
  refine PW.loopAt (α := Nat) (fun i => ⟨[(3, .bs 7 0 (q.map eSent).length (q.map eSent).length), (0, eSents q), (4, eI (i : Int))], ⟨[(7, (79, fillC [.lit (.string ByteArray.empty), .lit (.int .i64 0), .lit (.slice none 0 0), .lit (.slice none 0 0)] (q.map eSent) i))], []⟩⟩) (fun i => i ≤ q.length) (fun i => q.length - i) 0 (Le.boxes ⟨⟨congrArg (fun c => some (_, c)) (fillC_zero rfl rfl), fillC_free (row_free hrf q) rfl⟩, trivial⟩ ⟨⟨rfl, rfl⟩, ⟨rfl, rfl⟩, ⟨rfl, rfl⟩, trivial⟩) (Nat.zero_le _) (fun i hi => ?_)
  refine PW.seq ?_
  refine PW.seq ?_
  refine PW.region ?_
  refine PL.run 4 rfl ?_
  refine PL.nil ?_
  refine PW.cond rfl (fun h1 => ?_) (fun h1 => ?_)
  ·
    have hlt : i < q.length := by simpa using h1
    clear h1
    obtain ⟨x, hx⟩ : ∃ y, q[i]? = some y := ⟨_, List.getElem?_eq_getElem hlt⟩
    have hup : some (PV.lit (.int .i64 (IntKind.i64.wrap ((i : Int) + 1)))) = some (PV.lit (.int .i64 ((i + 1 : Nat) : Int))) := inc_ok (by omega)
    refine PW.skip ?_
    refine PW.seq ?_
    refine PW.block ?_
    refine PW.region ?_
    refine PL.run 4 rfl ?_
    refine PL.val (OpV.idx rfl rfl rfl (nat_nonneg i) (map_at' hx) rfl rfl rfl rfl) (wantV_ok rfl) rfl ?_
    refine PL.run 1 rfl ?_
    refine PL.call rfl rfl rfl (laws_toSent_spec x (hb.all i x hx)) (.cons (.refl _) <| .nil) (fun p hp => by subst hp; rfl) (wantV_ok rfl) rfl (fun p hp => ?_)
    subst hp
    refine PL.val (OpV.idxB rfl rfl rfl (nat_nonneg i) (by rw [Int.toNat_natCast, hll]; exact hlt) rfl rfl rfl) (wantV_ok rfl) rfl ?_
    refine PL.store rfl rfl rfl rfl rfl rfl rfl (by rw [fillC_len (row_len hrl q) rfl (by rw [hll]; exact hi), hll]; show 0 + ((i : Nat) : Int).toNat * 4 + 4 ≤ q.length * 4; rw [mul_toNat]; exact off_le hlt) rfl (wantV_ok rfl) ?_
    refine PL.nil ?_
    refine PW.region ?_
    refine PL.run 3 rfl ?_
    refine PL.nil ?_
    refine ⟨i + 1, Le.boxes ⟨⟨congrArg (fun c => some (_, c)) (fillC_step (row_len hrl q) rfl (map_at' hx) mul_toNat), fillC_free (row_free hrf q) rfl⟩, trivial⟩ ⟨⟨rfl, rfl⟩, ⟨rfl, rfl⟩, ⟨hup, rfl⟩, trivial⟩, hlt, by omega⟩
  ·
    have hge : i = q.length := Nat.le_antisymm hi (by simpa using h1)
    refine PW.exit ?_
    refine PW.seq ?_
    refine PW.region ?_
    refine PL.run 2 rfl ?_
    refine PL.nil ?_
    refine PW.le (Le.freezeS (tv := 2) (sz := 4) (es := q.map eSent) (r := []) (e := []) rfl rfl (fillC_free (row_free hrf q) rfl) (fillC_end (by rw [hll]; exact hge)) rfl (row_len hrl q) (Nat.le_refl _)) ?_
    refine PW.ret ?_
    refine RetOk.free rfl rfl rfl
/- laws.toWorld -/
theorem laws_toWorld_spec (w : Earth) (hb : FewE w) : Pw.Spec Tryd.prog 6 [.agg (eEarth w)] (fun res_ => res_ = .agg (eEarth w)) := by
  refine spec_of (n := 31) Tryd.call6 Tryd.func6 rfl rfl (by simp) rfl rfl fun W Z => ?_
  refine PW.seq ?_
  refine PW.region ?_
  refine PL.run 2 rfl ?_
  refine PL.nil ?_
  refine PW.seq ?_
  refine PW.region ?_
  refine PL.run 1 rfl ?_
  refine PL.nil ?_
  refine PW.seq ?_
  refine PW.region ?_
  refine PL.run 2 rfl ?_
  refine PL.call rfl rfl rfl (laws_toByteS_spec w.seed hb.seed) (.cons (.refl _) <| .nil) (fun p hp => by subst hp; rfl) (wantV_ok rfl) rfl (fun p hp => ?_)
  subst hp
  refine PL.run 2 rfl ?_
  refine PL.nil ?_
  refine PW.seq ?_
  refine PW.region ?_
  refine PL.run 4 rfl ?_
  refine PL.nil ?_
  refine PW.seq ?_
  refine PW.region ?_
  refine PL.run 4 rfl ?_
  refine PL.nil ?_
  refine PW.seq ?_
  refine PW.region ?_
  refine PL.run 2 rfl ?_
  refine PL.call rfl rfl rfl (laws_toPost_spec w.post hb.p) (.cons (.refl _) <| .nil) (fun p hp => by subst hp; rfl) (wantV_ok rfl) rfl (fun p hp => ?_)
  subst hp
  refine PL.run 2 rfl ?_
  refine PL.nil ?_
  refine PW.seq ?_
  refine PW.region ?_
  refine PL.run 2 rfl ?_
  refine PL.call rfl rfl rfl (laws_toReader_spec w.reader hb.r) (.cons (.refl _) <| .nil) (fun p hp => by subst hp; rfl) (wantV_ok rfl) rfl (fun p hp => ?_)
  subst hp
  refine PL.run 2 rfl ?_
  refine PL.nil ?_
  refine PW.seq ?_
  refine PW.region ?_
  refine PL.run 2 rfl ?_
  refine PL.call rfl rfl rfl (laws_toWireS_spec w.net hb.n) (.cons (.refl _) <| .nil) (fun p hp => by subst hp; rfl) (wantV_ok rfl) rfl (fun p hp => ?_)
  subst hp
  refine PL.run 2 rfl ?_
  refine PL.nil ?_
  refine PW.seq ?_
  refine PW.region ?_
  refine PL.run 2 rfl ?_
  refine PL.call rfl rfl rfl (laws_toSentS_spec w.sent hb.s) (.cons (.refl _) <| .nil) (fun p hp => by subst hp; rfl) (wantV_ok rfl) rfl (fun p hp => ?_)
  subst hp
  refine PL.run 2 rfl ?_
  refine PL.nil ?_
  refine PW.seq ?_
  refine PW.region ?_
  refine PL.run 2 rfl ?_
  refine PL.nil ?_
  refine PW.ret ?_
  refine RetOk.free rfl rfl rfl
end Go.Wl
set_option linter.unusedVariables false
set_option linter.unusedSimpArgs false
set_option maxRecDepth 100000
set_option maxHeartbeats 4000000
namespace Go.Wl
open Go Go.RowKit Go.Pw Go.Proofs
theorem OpV.neqT {cx : Cx} [TC cx.P] {o : Oper} {S : PS} {t : TypeId} {x y : Operand} {yt : TypeId} {m n : Bool} (ho : o.op = .binOp .neq t x y yt) (hx : S.ev x = some (.lit (.bool m))) (hy : S.ev y = some (.lit (.bool n))) {i : TI} (ht : lk (TC.T cx.P) t = some i) (hd : i.d = .bool) : OpV cx o S (.lit (.bool (!(m == n)))) := fun a W Z μ hz => by
  have ex := (hz.ev hx).lit_inv
  have ey := (hz.ev hy).lit_inv
  have hu := (TC.at_ ht).und
  rw [hd] at hu
  have hu : cx.P.underlying t = some .bool := hu
  refine ⟨_, ?_, .lit _ _⟩
  simp only [execOp, ho, ex, ey]
  have he : (Op.equal t (.bool m) (.bool n)).run cx.P W = .ok (m == n) W := by
    rw [Op.equal, show Op.maxDepth = 9999 + 1 from rfl, Op.equalIn]
    simp only [Sem.run_bind, run_underlying hu, Result.andThen_ok, Sem.run_pure]
  have hg : (eqGuard .neq t x y (.bool m) (.bool n)).run cx.P W = .ok () W := by
    simp [eqGuard, Sem.run_pure]
  simp only [binOp, Sem.run_bind, he, hg, Result.andThen_ok, Sem.run_pure]
/- laws.eqByteS -/
theorem laws_eqByteS_spec (q : List UInt8) (hb : FewB q) : Pw.Spec Tryd.prog 23 [eBs q, eBs q] (fun res_ => res_ = eT true) := by
  refine spec_of (n := 26) Tryd.call23 Tryd.func23 rfl rfl (by simp) rfl rfl fun W Z => ?_
  have hql : q.length ≤ 1048576 := hb
  refine PW.seq ?_
  refine PW.region ?_
  refine PL.run 1 rfl ?_
  refine PL.nil ?_
  refine PW.seq ?_
  refine PW.seq ?_
  refine PW.region ?_
  refine PL.run 5 rfl ?_
  refine PL.nil ?_
  refine PW.cond rfl (fun h1 => ?_) (fun h1 => ?_)
  ·
    simp at h1
  ·
    refine PW.skip ?_
    refine PW.seq ?_
    refine PW.seq ?_
    refine PW.region ?_
    refine PL.run 1 rfl ?_
    refine PL.nil ?_
    refine PW.block ?_
    clear h1
    refine PW.loopAt (α := Nat) (fun i => ⟨[(0, eBs q), (1, eBs q), (5, eI (i : Int))], PH.none⟩) (fun i => i ≤ q.length) (fun i => q.length - i) 0 (Le.free ⟨⟨rfl, rfl⟩, ⟨rfl, rfl⟩, ⟨rfl, rfl⟩, trivial⟩) (Nat.zero_le _) (fun i hi => ?_)
    refine PW.seq ?_
    refine PW.seq ?_
    refine PW.region ?_
    refine PL.run 4 rfl ?_
    refine PL.nil ?_
    refine PW.cond rfl (fun h2 => ?_) (fun h2 => ?_)
    ·
      have hlt : i < q.length := by simpa using h2
      clear h2
      obtain ⟨y, hy⟩ : ∃ y, q[i]? = some y := ⟨_, List.getElem?_eq_getElem hlt⟩
      have hup : some (PV.lit (.int .i64 (IntKind.i64.wrap ((i : Int) + 1)))) = some (PV.lit (.int .i64 ((i + 1 : Nat) : Int))) := inc_ok (by omega)
      refine PW.skip ?_
      refine PW.seq ?_
      refine PW.block ?_
      refine PW.seq ?_
      refine PW.drawn ((some 17, _) :: (some 18, _) :: (some 19, _) :: (some 20, _) :: (some 21, _) :: (some 22, _) :: (some 23, _) :: (some 24, _) :: (some 25, _) :: []) (0 :: 0 :: 3 :: 7 :: 0 :: 0 :: 48 :: 112 :: 255 :: []) (fun _ => _) mixed rfl rfl rfl rfl rfl
        (.cons rfl (fun ρ => PL.run 1 rfl (PL.nil rfl)) <|
        .cons rfl (fun ρ => PL.run 1 rfl (PL.nil rfl)) <|
        .cons rfl (fun ρ => PL.val (OpV.idx rfl rfl rfl (nat_nonneg i) (map_at' hy) rfl rfl rfl rfl) (wantV_ok rfl) rfl (PL.nil rfl)) <|
        .cons rfl (fun ρ => PL.run 1 rfl (PL.nil rfl)) <|
        .cons rfl (fun ρ => PL.run 1 rfl (PL.nil rfl)) <|
        .cons rfl (fun ρ => PL.run 1 rfl (PL.nil rfl)) <|
        .cons rfl (fun ρ => PL.val (OpV.idx rfl rfl rfl (nat_nonneg i) (map_at' hy) rfl rfl rfl rfl) (wantV_ok rfl) rfl (PL.nil rfl)) <|
        .cons rfl (fun ρ => PL.run 1 rfl (PL.nil rfl)) <|
        .cons rfl (fun ρ => PL.run 1 rfl (PL.nil rfl)) <|
        .nil _) ?_
      refine PW.cond rfl (fun h3 => ?_) (fun h3 => ?_)
      ·
        simp at h3
      ·
        refine PW.skip ?_
        refine PW.region ?_
        refine PL.run 3 rfl ?_
        refine PL.nil ?_
        refine ⟨i + 1, Le.free ⟨⟨rfl, rfl⟩, ⟨rfl, rfl⟩, ⟨hup, rfl⟩, trivial⟩, hlt, by omega⟩
    ·
      refine PW.exit ?_
      refine PW.seq ?_
      refine PW.region ?_
      refine PL.run 1 rfl ?_
      refine PL.nil ?_
      refine PW.ret ?_
      refine RetOk.free rfl rfl rfl
/- laws.eqItem -/
theorem laws_eqItem_spec (x : Item) (hb : FewI x) : Pw.Spec Tryd.prog 44 [.agg (eItem x), .agg (eItem x)] (fun res_ => res_ = eT true) := by
  refine spec_of (n := 26) Tryd.call44 Tryd.func44 rfl rfl (by simp) rfl rfl fun W Z => ?_
  refine PW.seq ?_
  refine PW.region ?_
  refine PL.run 3 rfl ?_
  refine PL.nil ?_
  refine PW.seq ?_
  refine PW.seq ?_
  refine PW.region ?_
  refine PL.run 5 rfl ?_
  refine PL.nil ?_
  refine PW.cond rfl (fun h1 => ?_) (fun h1 => ?_)
  ·
    simp at h1
  ·
    refine PW.skip ?_
    refine PW.seq ?_
    refine PW.seq ?_
    refine PW.region ?_
    refine PL.run 5 rfl ?_
    refine PL.nil ?_
    refine PW.cond rfl (fun h2 => ?_) (fun h2 => ?_)
    ·
      simp at h2
    ·
      refine PW.skip ?_
      refine PW.seq ?_
      refine PW.seq ?_
      refine PW.region ?_
      refine PL.run 5 rfl ?_
      refine PL.nil ?_
      refine PW.cond rfl (fun h3 => ?_) (fun h3 => ?_)
      ·
        simp at h3
      ·
        refine PW.skip ?_
        refine PW.seq ?_
        refine PW.seq ?_
        refine PW.region ?_
        refine PL.run 4 rfl ?_
        refine PL.call rfl rfl rfl (laws_eqByteS_spec x.bytes hb) (.cons (.refl _) <| .cons (.refl _) <| .nil) (fun p hp => by subst hp; rfl) (wantV_ok rfl) rfl (fun p hp => ?_)
        subst hp
        refine PL.run 1 rfl ?_
        refine PL.nil ?_
        refine PW.cond rfl (fun h4 => ?_) (fun h4 => ?_)
        ·
          simp at h4
        ·
          refine PW.skip ?_
          refine PW.seq ?_
          refine PW.region ?_
          refine PL.run 1 rfl ?_
          refine PL.nil ?_
          refine PW.ret ?_
          refine RetOk.free rfl rfl rfl
/- laws.eqItemS -/
theorem laws_eqItemS_spec (q : List Item) (hb : FewL FewI q) : Pw.Spec Tryd.prog 37 [eItems q, eItems q] (fun res_ => res_ = eT true) := by
  refine spec_of (n := 27) Tryd.call37 Tryd.func37 rfl rfl (by simp) rfl rfl fun W Z => ?_
  have hql : q.length ≤ 1048576 := hb.len
  refine PW.seq ?_
  refine PW.region ?_
  refine PL.run 1 rfl ?_
  refine PL.nil ?_
  refine PW.seq ?_
  refine PW.seq ?_
  refine PW.region ?_
  refine PL.run 5 rfl ?_
  refine PL.nil ?_
  refine PW.cond rfl (fun h1 => ?_) (fun h1 => ?_)
  ·
    simp at h1
  ·
    refine PW.skip ?_
    refine PW.seq ?_
    refine PW.seq ?_
    refine PW.region ?_
    refine PL.run 1 rfl ?_
    refine PL.nil ?_
    refine PW.block ?_
    clear h1
    refine PW.loopAt (α := Nat) (fun i => ⟨[(0, eItems q), (1, eItems q), (5, eI (i : Int))], PH.none⟩) (fun i => i ≤ q.length) (fun i => q.length - i) 0 (Le.free ⟨⟨rfl, rfl⟩, ⟨rfl, rfl⟩, ⟨rfl, rfl⟩, trivial⟩) (Nat.zero_le _) (fun i hi => ?_)
    refine PW.seq ?_
    refine PW.seq ?_
    refine PW.region ?_
    refine PL.run 4 rfl ?_
    refine PL.nil ?_
    refine PW.cond rfl (fun h2 => ?_) (fun h2 => ?_)
    ·
      have hlt : i < q.length := by simpa using h2
      clear h2
      obtain ⟨y, hy⟩ : ∃ y, q[i]? = some y := ⟨_, List.getElem?_eq_getElem hlt⟩
      have hup : some (PV.lit (.int .i64 (IntKind.i64.wrap ((i : Int) + 1)))) = some (PV.lit (.int .i64 ((i + 1 : Nat) : Int))) := inc_ok (by omega)
      refine PW.skip ?_
      refine PW.seq ?_
      refine PW.block ?_
      refine PW.seq ?_
      refine PW.drawn ((some 17, _) :: (some 18, _) :: (some 19, _) :: (some 20, _) :: (some 21, _) :: (some 22, _) :: (some 23, _) :: (some 24, _) :: (some 25, _) :: (some 26, _) :: []) (0 :: 0 :: 3 :: 7 :: 0 :: 0 :: 48 :: 112 :: 255 :: 511 :: []) (fun _ => _) mixed rfl rfl rfl rfl rfl
        (.cons rfl (fun ρ => PL.run 1 rfl (PL.nil rfl)) <|
        .cons rfl (fun ρ => PL.run 1 rfl (PL.nil rfl)) <|
        .cons rfl (fun ρ => PL.val (OpV.idx rfl rfl rfl (nat_nonneg i) (map_at' hy) rfl rfl rfl rfl) (wantV_ok rfl) rfl (PL.nil rfl)) <|
        .cons rfl (fun ρ => PL.run 1 rfl (PL.nil rfl)) <|
        .cons rfl (fun ρ => PL.run 1 rfl (PL.nil rfl)) <|
        .cons rfl (fun ρ => PL.run 1 rfl (PL.nil rfl)) <|
        .cons rfl (fun ρ => PL.val (OpV.idx rfl rfl rfl (nat_nonneg i) (map_at' hy) rfl rfl rfl rfl) (wantV_ok rfl) rfl (PL.nil rfl)) <|
        .cons rfl (fun ρ => PL.run 1 rfl (PL.nil rfl)) <|
        .cons rfl (fun ρ => PL.call rfl rfl rfl (laws_eqItem_spec y (hb.all i y hy)) (.cons (.refl _) <| .cons (.refl _) <| .nil) (fun p hp => by subst hp; rfl) (wantV_ok rfl) rfl (fun p hp => by subst hp; exact PL.nil rfl)) <|
        .cons rfl (fun ρ => PL.run 1 rfl (PL.nil rfl)) <|
        .nil _) ?_
      refine PW.cond rfl (fun h3 => ?_) (fun h3 => ?_)
      ·
        simp at h3
      ·
        refine PW.skip ?_
        refine PW.region ?_
        refine PL.run 3 rfl ?_
        refine PL.nil ?_
        refine ⟨i + 1, Le.free ⟨⟨rfl, rfl⟩, ⟨rfl, rfl⟩, ⟨hup, rfl⟩, trivial⟩, hlt, by omega⟩
    ·
      refine PW.exit ?_
      refine PW.seq ?_
      refine PW.region ?_
      refine PL.run 1 rfl ?_
      refine PL.nil ?_
      refine PW.ret ?_
      refine RetOk.free rfl rfl rfl
/- laws.eqPost -/
theorem laws_eqPost_spec (p : Post) (hb : FewP p) : Pw.Spec Tryd.prog 24 [.agg (ePost p), .agg (ePost p)] (fun res_ => res_ = eT true) := by
  refine spec_of (n := 27) Tryd.call24 Tryd.func24 rfl rfl (by simp) rfl rfl fun W Z => ?_
  refine PW.seq ?_
  refine PW.region ?_
  refine PL.run 3 rfl ?_
  refine PL.nil ?_
  refine PW.seq ?_
  refine PW.seq ?_
  refine PW.region ?_
  refine PL.run 4 rfl ?_
  refine PL.call rfl rfl rfl (laws_eqItemS_spec p.queue hb.q) (.cons (.refl _) <| .cons (.refl _) <| .nil) (fun p hp => by subst hp; rfl) (wantV_ok rfl) rfl (fun p hp => ?_)
  subst hp
  refine PL.run 1 rfl ?_
  refine PL.nil ?_
  refine PW.cond rfl (fun h1 => ?_) (fun h1 => ?_)
  ·
    simp at h1
  ·
    refine PW.skip ?_
    refine PW.seq ?_
    refine PW.seq ?_
    refine PW.region ?_
    refine PL.run 5 rfl ?_
    refine PL.nil ?_
    refine PW.cond rfl (fun h2 => ?_) (fun h2 => ?_)
    ·
      simp at h2
    ·
      refine PW.skip ?_
      refine PW.seq ?_
      refine PW.seq ?_
      refine PW.region ?_
      refine PL.run 4 rfl ?_
      refine PL.call rfl rfl rfl (laws_eqByteS_spec p.book hb.b) (.cons (.refl _) <| .cons (.refl _) <| .nil) (fun p hp => by subst hp; rfl) (wantV_ok rfl) rfl (fun p hp => ?_)
      subst hp
      refine PL.run 1 rfl ?_
      refine PL.nil ?_
      refine PW.cond rfl (fun h3 => ?_) (fun h3 => ?_)
      ·
        simp at h3
      ·
        refine PW.skip ?_
        refine PW.seq ?_
        refine PW.seq ?_
        refine PW.region ?_
        refine PL.run 5 rfl ?_
        refine PL.nil ?_
        refine PW.cond rfl (fun h4 => ?_) (fun h4 => ?_)
        ·
          simp at h4
        ·
          refine PW.skip ?_
          refine PW.seq ?_
          refine PW.region ?_
          refine PL.run 1 rfl ?_
          refine PL.nil ?_
          refine PW.ret ?_
          refine RetOk.free rfl rfl rfl
/- laws.eqByteSS -/
theorem laws_eqByteSS_spec (q : List (List UInt8)) (hb : FewL FewB q) : Pw.Spec Tryd.prog 38 [eBss q, eBss q] (fun res_ => res_ = eT true) := by
  refine spec_of (n := 27) Tryd.call38 Tryd.func38 rfl rfl (by simp) rfl rfl fun W Z => ?_
  have hql : q.length ≤ 1048576 := hb.len
  refine PW.seq ?_
  refine PW.region ?_
  refine PL.run 1 rfl ?_
  refine PL.nil ?_
  refine PW.seq ?_
  refine PW.seq ?_
  refine PW.region ?_
  refine PL.run 5 rfl ?_
  refine PL.nil ?_
  refine PW.cond rfl (fun h1 => ?_) (fun h1 => ?_)
  ·
    simp at h1
  ·
    refine PW.skip ?_
    refine PW.seq ?_
    refine PW.seq ?_
    refine PW.region ?_
    refine PL.run 1 rfl ?_
    refine PL.nil ?_
    refine PW.block ?_
    clear h1
    refine PW.loopAt (α := Nat) (fun i => ⟨[(0, eBss q), (1, eBss q), (5, eI (i : Int))], PH.none⟩) (fun i => i ≤ q.length) (fun i => q.length - i) 0 (Le.free ⟨⟨rfl, rfl⟩, ⟨rfl, rfl⟩, ⟨rfl, rfl⟩, trivial⟩) (Nat.zero_le _) (fun i hi => ?_)
    refine PW.seq ?_
    refine PW.seq ?_
    refine PW.region ?_
    refine PL.run 4 rfl ?_
    refine PL.nil ?_
    refine PW.cond rfl (fun h2 => ?_) (fun h2 => ?_)
    ·
      have hlt : i < q.length := by simpa using h2
      clear h2
      obtain ⟨y, hy⟩ : ∃ y, q[i]? = some y := ⟨_, List.getElem?_eq_getElem hlt⟩
      have hup : some (PV.lit (.int .i64 (IntKind.i64.wrap ((i : Int) + 1)))) = some (PV.lit (.int .i64 ((i + 1 : Nat) : Int))) := inc_ok (by omega)
      refine PW.skip ?_
      refine PW.seq ?_
      refine PW.block ?_
      refine PW.seq ?_
      refine PW.drawn ((some 17, _) :: (some 18, _) :: (some 19, _) :: (some 20, _) :: (some 21, _) :: (some 22, _) :: (some 23, _) :: (some 24, _) :: (some 25, _) :: (some 26, _) :: []) (0 :: 0 :: 3 :: 7 :: 0 :: 0 :: 48 :: 112 :: 255 :: 511 :: []) (fun _ => _) mixed rfl rfl rfl rfl rfl
        (.cons rfl (fun ρ => PL.run 1 rfl (PL.nil rfl)) <|
        .cons rfl (fun ρ => PL.run 1 rfl (PL.nil rfl)) <|
        .cons rfl (fun ρ => PL.val (OpV.idx rfl rfl rfl (nat_nonneg i) (map_at' hy) rfl rfl rfl rfl) (wantV_ok rfl) rfl (PL.nil rfl)) <|
        .cons rfl (fun ρ => PL.run 1 rfl (PL.nil rfl)) <|
        .cons rfl (fun ρ => PL.run 1 rfl (PL.nil rfl)) <|
        .cons rfl (fun ρ => PL.run 1 rfl (PL.nil rfl)) <|
        .cons rfl (fun ρ => PL.val (OpV.idx rfl rfl rfl (nat_nonneg i) (map_at' hy) rfl rfl rfl rfl) (wantV_ok rfl) rfl (PL.nil rfl)) <|
        .cons rfl (fun ρ => PL.run 1 rfl (PL.nil rfl)) <|
        .cons rfl (fun ρ => PL.call rfl rfl rfl (laws_eqByteS_spec y (hb.all i y hy)) (.cons (.refl _) <| .cons (.refl _) <| .nil) (fun p hp => by subst hp; rfl) (wantV_ok rfl) rfl (fun p hp => by subst hp; exact PL.nil rfl)) <|
        .cons rfl (fun ρ => PL.run 1 rfl (PL.nil rfl)) <|
        .nil _) ?_
      refine PW.cond rfl (fun h3 => ?_) (fun h3 => ?_)
      ·
        simp at h3
      ·
        refine PW.skip ?_
        refine PW.region ?_
        refine PL.run 3 rfl ?_
        refine PL.nil ?_
        refine ⟨i + 1, Le.free ⟨⟨rfl, rfl⟩, ⟨rfl, rfl⟩, ⟨hup, rfl⟩, trivial⟩, hlt, by omega⟩
    ·
      refine PW.exit ?_
      refine PW.seq ?_
      refine PW.region ?_
      refine PL.run 1 rfl ?_
      refine PL.nil ?_
      refine PW.ret ?_
      refine RetOk.free rfl rfl rfl
/- laws.eqReader -/
theorem laws_eqReader_spec (r : Reader) (hb : FewR r) : Pw.Spec Tryd.prog 25 [.agg (eReader r), .agg (eReader r)] (fun res_ => res_ = eT true) := by
  refine spec_of (n := 28) Tryd.call25 Tryd.func25 rfl rfl (by simp) rfl rfl fun W Z => ?_
  refine PW.seq ?_
  refine PW.region ?_
  refine PL.run 3 rfl ?_
  refine PL.nil ?_
  refine PW.seq ?_
  refine PW.seq ?_
  refine PW.region ?_
  refine PL.run 4 rfl ?_
  refine PL.call rfl rfl rfl (laws_eqByteS_spec r.seed hb.s) (.cons (.refl _) <| .cons (.refl _) <| .nil) (fun p hp => by subst hp; rfl) (wantV_ok rfl) rfl (fun p hp => ?_)
  subst hp
  refine PL.run 1 rfl ?_
  refine PL.nil ?_
  refine PW.cond rfl (fun h1 => ?_) (fun h1 => ?_)
  ·
    simp at h1
  ·
    refine PW.skip ?_
    refine PW.seq ?_
    refine PW.seq ?_
    refine PW.region ?_
    refine PL.run 5 rfl ?_
    refine PL.nil ?_
    refine PW.cond rfl (fun h2 => ?_) (fun h2 => ?_)
    ·
      simp at h2
    ·
      refine PW.skip ?_
      refine PW.seq ?_
      refine PW.seq ?_
      refine PW.region ?_
      refine PL.run 4 rfl ?_
      refine PL.call rfl rfl rfl (laws_eqByteSS_spec r.seen hb.seen) (.cons (.refl _) <| .cons (.refl _) <| .nil) (fun p hp => by subst hp; rfl) (wantV_ok rfl) rfl (fun p hp => ?_)
      subst hp
      refine PL.run 1 rfl ?_
      refine PL.nil ?_
      refine PW.cond rfl (fun h3 => ?_) (fun h3 => ?_)
      ·
        simp at h3
      ·
        refine PW.skip ?_
        refine PW.seq ?_
        refine PW.seq ?_
        refine PW.region ?_
        refine PL.run 4 rfl ?_
        refine PL.call rfl rfl rfl (laws_eqByteSS_spec r.got hb.got) (.cons (.refl _) <| .cons (.refl _) <| .nil) (fun p hp => by subst hp; rfl) (wantV_ok rfl) rfl (fun p hp => ?_)
        subst hp
        refine PL.run 1 rfl ?_
        refine PL.nil ?_
        refine PW.cond rfl (fun h4 => ?_) (fun h4 => ?_)
        ·
          simp at h4
        ·
          refine PW.skip ?_
          refine PW.seq ?_
          refine PW.region ?_
          refine PL.run 1 rfl ?_
          refine PL.nil ?_
          refine PW.ret ?_
          refine RetOk.free rfl rfl rfl
/- laws.eqWire -/
theorem laws_eqWire_spec (w : Wire) (hb : FewW w) : Pw.Spec Tryd.prog 39 [.agg (eWire w), .agg (eWire w)] (fun res_ => res_ = eT true) := by
  refine spec_of (n := 22) Tryd.call39 Tryd.func39 rfl rfl (by simp) rfl rfl fun W Z => ?_
  refine PW.seq ?_
  refine PW.region ?_
  refine PL.run 3 rfl ?_
  refine PL.nil ?_
  refine PW.seq ?_
  refine PW.seq ?_
  refine PW.region ?_
  refine PL.run 4 rfl ?_
  refine PL.val (OpV.neqT rfl rfl rfl rfl rfl) (wantV_ok rfl) rfl ?_
  refine PL.nil ?_
  refine PW.cond rfl (fun h1 => ?_) (fun h1 => ?_)
  ·
    simp at h1
  ·
    refine PW.skip ?_
    refine PW.seq ?_
    refine PW.seq ?_
    refine PW.region ?_
    refine PL.run 4 rfl ?_
    refine PL.call rfl rfl rfl (laws_eqItem_spec w.item hb.i) (.cons (.refl _) <| .cons (.refl _) <| .nil) (fun p hp => by subst hp; rfl) (wantV_ok rfl) rfl (fun p hp => ?_)
    subst hp
    refine PL.run 1 rfl ?_
    refine PL.nil ?_
    refine PW.cond rfl (fun h2 => ?_) (fun h2 => ?_)
    ·
      simp at h2
    ·
      refine PW.skip ?_
      refine PW.seq ?_
      refine PW.seq ?_
      refine PW.region ?_
      refine PL.run 4 rfl ?_
      refine PL.call rfl rfl rfl (laws_eqByteS_spec w.bytes hb.b) (.cons (.refl _) <| .cons (.refl _) <| .nil) (fun p hp => by subst hp; rfl) (wantV_ok rfl) rfl (fun p hp => ?_)
      subst hp
      refine PL.run 1 rfl ?_
      refine PL.nil ?_
      refine PW.cond rfl (fun h3 => ?_) (fun h3 => ?_)
      ·
        simp at h3
      ·
        refine PW.skip ?_
        refine PW.seq ?_
        refine PW.region ?_
        refine PL.run 1 rfl ?_
        refine PL.nil ?_
        refine PW.ret ?_
        refine RetOk.free rfl rfl rfl
/- laws.eqWireS -/
theorem laws_eqWireS_spec (q : List Wire) (hb : FewL FewW q) : Pw.Spec Tryd.prog 26 [eWires q, eWires q] (fun res_ => res_ = eT true) := by
  refine spec_of (n := 27) Tryd.call26 Tryd.func26 rfl rfl (by simp) rfl rfl fun W Z => ?_
  have hql : q.length ≤ 1048576 := hb.len
  refine PW.seq ?_
  refine PW.region ?_
  refine PL.run 1 rfl ?_
  refine PL.nil ?_
  refine PW.seq ?_
  refine PW.seq ?_
  refine PW.region ?_
  refine PL.run 5 rfl ?_
  refine PL.nil ?_
  refine PW.cond rfl (fun h1 => ?_) (fun h1 => ?_)
  ·
    simp at h1
  ·
    refine PW.skip ?_
    refine PW.seq ?_
    refine PW.seq ?_
    refine PW.region ?_
    refine PL.run 1 rfl ?_
    refine PL.nil ?_
    refine PW.block ?_
    clear h1
    refine PW.loopAt (α := Nat) (fun i => ⟨[(0, eWires q), (1, eWires q), (5, eI (i : Int))], PH.none⟩) (fun i => i ≤ q.length) (fun i => q.length - i) 0 (Le.free ⟨⟨rfl, rfl⟩, ⟨rfl, rfl⟩, ⟨rfl, rfl⟩, trivial⟩) (Nat.zero_le _) (fun i hi => ?_)
    refine PW.seq ?_
    refine PW.seq ?_
    refine PW.region ?_
    refine PL.run 4 rfl ?_
    refine PL.nil ?_
    refine PW.cond rfl (fun h2 => ?_) (fun h2 => ?_)
    ·
      have hlt : i < q.length := by simpa using h2
      clear h2
      obtain ⟨y, hy⟩ : ∃ y, q[i]? = some y := ⟨_, List.getElem?_eq_getElem hlt⟩
      have hup : some (PV.lit (.int .i64 (IntKind.i64.wrap ((i : Int) + 1)))) = some (PV.lit (.int .i64 ((i + 1 : Nat) : Int))) := inc_ok (by omega)
      refine PW.skip ?_
      refine PW.seq ?_
      refine PW.block ?_
      refine PW.seq ?_
      refine PW.drawn ((some 17, _) :: (some 18, _) :: (some 19, _) :: (some 20, _) :: (some 21, _) :: (some 22, _) :: (some 23, _) :: (some 24, _) :: (some 25, _) :: (some 26, _) :: []) (0 :: 0 :: 3 :: 7 :: 0 :: 0 :: 48 :: 112 :: 255 :: 511 :: []) (fun _ => _) mixed rfl rfl rfl rfl rfl
        (.cons rfl (fun ρ => PL.run 1 rfl (PL.nil rfl)) <|
        .cons rfl (fun ρ => PL.run 1 rfl (PL.nil rfl)) <|
        .cons rfl (fun ρ => PL.val (OpV.idx rfl rfl rfl (nat_nonneg i) (map_at' hy) rfl rfl rfl rfl) (wantV_ok rfl) rfl (PL.nil rfl)) <|
        .cons rfl (fun ρ => PL.run 1 rfl (PL.nil rfl)) <|
        .cons rfl (fun ρ => PL.run 1 rfl (PL.nil rfl)) <|
        .cons rfl (fun ρ => PL.run 1 rfl (PL.nil rfl)) <|
        .cons rfl (fun ρ => PL.val (OpV.idx rfl rfl rfl (nat_nonneg i) (map_at' hy) rfl rfl rfl rfl) (wantV_ok rfl) rfl (PL.nil rfl)) <|
        .cons rfl (fun ρ => PL.run 1 rfl (PL.nil rfl)) <|
        .cons rfl (fun ρ => PL.call rfl rfl rfl (laws_eqWire_spec y (hb.all i y hy)) (.cons (.refl _) <| .cons (.refl _) <| .nil) (fun p hp => by subst hp; rfl) (wantV_ok rfl) rfl (fun p hp => by subst hp; exact PL.nil rfl)) <|
        .cons rfl (fun ρ => PL.run 1 rfl (PL.nil rfl)) <|
        .nil _) ?_
      refine PW.cond rfl (fun h3 => ?_) (fun h3 => ?_)
      ·
        simp at h3
      ·
        refine PW.skip ?_
        refine PW.region ?_
        refine PL.run 3 rfl ?_
        refine PL.nil ?_
        refine ⟨i + 1, Le.free ⟨⟨rfl, rfl⟩, ⟨rfl, rfl⟩, ⟨hup, rfl⟩, trivial⟩, hlt, by omega⟩
    ·
      refine PW.exit ?_
      refine PW.seq ?_
      refine PW.region ?_
      refine PL.run 1 rfl ?_
      refine PL.nil ?_
      refine PW.ret ?_
      refine RetOk.free rfl rfl rfl
/- laws.eqSent -/
theorem laws_eqSent_spec (x : Sent) (hb : FewS x) : Pw.Spec Tryd.prog 40 [.agg (eSent x), .agg (eSent x)] (fun res_ => res_ = eT true) := by
  refine spec_of (n := 27) Tryd.call40 Tryd.func40 rfl rfl (by simp) rfl rfl fun W Z => ?_
  refine PW.seq ?_
  refine PW.region ?_
  refine PL.run 3 rfl ?_
  refine PL.nil ?_
  refine PW.seq ?_
  refine PW.seq ?_
  refine PW.region ?_
  refine PL.run 5 rfl ?_
  refine PL.nil ?_
  refine PW.cond rfl (fun h1 => ?_) (fun h1 => ?_)
  ·
    simp at h1
  ·
    refine PW.skip ?_
    refine PW.seq ?_
    refine PW.seq ?_
    refine PW.region ?_
    refine PL.run 5 rfl ?_
    refine PL.nil ?_
    refine PW.cond rfl (fun h2 => ?_) (fun h2 => ?_)
    ·
      simp at h2
    ·
      refine PW.skip ?_
      refine PW.seq ?_
      refine PW.seq ?_
      refine PW.region ?_
      refine PL.run 4 rfl ?_
      refine PL.call rfl rfl rfl (laws_eqByteS_spec x.note hb.n) (.cons (.refl _) <| .cons (.refl _) <| .nil) (fun p hp => by subst hp; rfl) (wantV_ok rfl) rfl (fun p hp => ?_)
      subst hp
      refine PL.run 1 rfl ?_
      refine PL.nil ?_
      refine PW.cond rfl (fun h3 => ?_) (fun h3 => ?_)
      ·
        simp at h3
      ·
        refine PW.skip ?_
        refine PW.seq ?_
        refine PW.seq ?_
        refine PW.region ?_
        refine PL.run 4 rfl ?_
        refine PL.call rfl rfl rfl (laws_eqByteS_spec x.bytes hb.b) (.cons (.refl _) <| .cons (.refl _) <| .nil) (fun p hp => by subst hp; rfl) (wantV_ok rfl) rfl (fun p hp => ?_)
        subst hp
        refine PL.run 1 rfl ?_
        refine PL.nil ?_
        refine PW.cond rfl (fun h4 => ?_) (fun h4 => ?_)
        ·
          simp at h4
        ·
          refine PW.skip ?_
          refine PW.seq ?_
          refine PW.region ?_
          refine PL.run 1 rfl ?_
          refine PL.nil ?_
          refine PW.ret ?_
          refine RetOk.free rfl rfl rfl
/- laws.eqSentS -/
theorem laws_eqSentS_spec (q : List Sent) (hb : FewL FewS q) : Pw.Spec Tryd.prog 27 [eSents q, eSents q] (fun res_ => res_ = eT true) := by
  refine spec_of (n := 27) Tryd.call27 Tryd.func27 rfl rfl (by simp) rfl rfl fun W Z => ?_
  have hql : q.length ≤ 1048576 := hb.len
  refine PW.seq ?_
  refine PW.region ?_
  refine PL.run 1 rfl ?_
  refine PL.nil ?_
  refine PW.seq ?_
  refine PW.seq ?_
  refine PW.region ?_
  refine PL.run 5 rfl ?_
  refine PL.nil ?_
  refine PW.cond rfl (fun h1 => ?_) (fun h1 => ?_)
  ·
    simp at h1
  ·
    refine PW.skip ?_
    refine PW.seq ?_
    refine PW.seq ?_
    refine PW.region ?_
    refine PL.run 1 rfl ?_
    refine PL.nil ?_
    refine PW.block ?_
    clear h1
    refine PW.loopAt (α := Nat) (fun i => ⟨[(0, eSents q), (1, eSents q), (5, eI (i : Int))], PH.none⟩) (fun i => i ≤ q.length) (fun i => q.length - i) 0 (Le.free ⟨⟨rfl, rfl⟩, ⟨rfl, rfl⟩, ⟨rfl, rfl⟩, trivial⟩) (Nat.zero_le _) (fun i hi => ?_)
    refine PW.seq ?_
    refine PW.seq ?_
    refine PW.region ?_
    refine PL.run 4 rfl ?_
    refine PL.nil ?_
    refine PW.cond rfl (fun h2 => ?_) (fun h2 => ?_)
    ·
      have hlt : i < q.length := by simpa using h2
      clear h2
      obtain ⟨y, hy⟩ : ∃ y, q[i]? = some y := ⟨_, List.getElem?_eq_getElem hlt⟩
      have hup : some (PV.lit (.int .i64 (IntKind.i64.wrap ((i : Int) + 1)))) = some (PV.lit (.int .i64 ((i + 1 : Nat) : Int))) := inc_ok (by omega)
      refine PW.skip ?_
      refine PW.seq ?_
      refine PW.block ?_
      refine PW.seq ?_
      refine PW.drawn ((some 17, _) :: (some 18, _) :: (some 19, _) :: (some 20, _) :: (some 21, _) :: (some 22, _) :: (some 23, _) :: (some 24, _) :: (some 25, _) :: (some 26, _) :: []) (0 :: 0 :: 3 :: 7 :: 0 :: 0 :: 48 :: 112 :: 255 :: 511 :: []) (fun _ => _) mixed rfl rfl rfl rfl rfl
        (.cons rfl (fun ρ => PL.run 1 rfl (PL.nil rfl)) <|
        .cons rfl (fun ρ => PL.run 1 rfl (PL.nil rfl)) <|
        .cons rfl (fun ρ => PL.val (OpV.idx rfl rfl rfl (nat_nonneg i) (map_at' hy) rfl rfl rfl rfl) (wantV_ok rfl) rfl (PL.nil rfl)) <|
        .cons rfl (fun ρ => PL.run 1 rfl (PL.nil rfl)) <|
        .cons rfl (fun ρ => PL.run 1 rfl (PL.nil rfl)) <|
        .cons rfl (fun ρ => PL.run 1 rfl (PL.nil rfl)) <|
        .cons rfl (fun ρ => PL.val (OpV.idx rfl rfl rfl (nat_nonneg i) (map_at' hy) rfl rfl rfl rfl) (wantV_ok rfl) rfl (PL.nil rfl)) <|
        .cons rfl (fun ρ => PL.run 1 rfl (PL.nil rfl)) <|
        .cons rfl (fun ρ => PL.call rfl rfl rfl (laws_eqSent_spec y (hb.all i y hy)) (.cons (.refl _) <| .cons (.refl _) <| .nil) (fun p hp => by subst hp; rfl) (wantV_ok rfl) rfl (fun p hp => by subst hp; exact PL.nil rfl)) <|
        .cons rfl (fun ρ => PL.run 1 rfl (PL.nil rfl)) <|
        .nil _) ?_
      refine PW.cond rfl (fun h3 => ?_) (fun h3 => ?_)
      ·
        simp at h3
      ·
        refine PW.skip ?_
        refine PW.region ?_
        refine PL.run 3 rfl ?_
        refine PL.nil ?_
        refine ⟨i + 1, Le.free ⟨⟨rfl, rfl⟩, ⟨rfl, rfl⟩, ⟨hup, rfl⟩, trivial⟩, hlt, by omega⟩
    ·
      refine PW.exit ?_
      refine PW.seq ?_
      refine PW.region ?_
      refine PL.run 1 rfl ?_
      refine PL.nil ?_
      refine PW.ret ?_
      refine RetOk.free rfl rfl rfl
/- laws.eqWorld -/
theorem laws_eqWorld_spec (w : Earth) (hb : FewE w) : Pw.Spec Tryd.prog 8 [.agg (eEarth w), .agg (eEarth w)] (fun res_ => res_ = eT true) := by
  refine spec_of (n := 45) Tryd.call8 Tryd.func8 rfl rfl (by simp) rfl rfl fun W Z => ?_
  refine PW.seq ?_
  refine PW.region ?_
  refine PL.run 3 rfl ?_
  refine PL.nil ?_
  refine PW.seq ?_
  refine PW.seq ?_
  refine PW.region ?_
  refine PL.run 4 rfl ?_
  refine PL.call rfl rfl rfl (laws_eqByteS_spec w.seed hb.seed) (.cons (.refl _) <| .cons (.refl _) <| .nil) (fun p hp => by subst hp; rfl) (wantV_ok rfl) rfl (fun p hp => ?_)
  subst hp
  refine PL.run 1 rfl ?_
  refine PL.nil ?_
  refine PW.cond rfl (fun h1 => ?_) (fun h1 => ?_)
  ·
    simp at h1
  ·
    refine PW.skip ?_
    refine PW.seq ?_
    refine PW.seq ?_
    refine PW.region ?_
    refine PL.run 5 rfl ?_
    refine PL.nil ?_
    refine PW.cond rfl (fun h2 => ?_) (fun h2 => ?_)
    ·
      simp at h2
    ·
      refine PW.skip ?_
      refine PW.seq ?_
      refine PW.seq ?_
      refine PW.region ?_
      refine PL.run 5 rfl ?_
      refine PL.nil ?_
      refine PW.cond rfl (fun h3 => ?_) (fun h3 => ?_)
      ·
        simp at h3
      ·
        refine PW.skip ?_
        refine PW.seq ?_
        refine PW.seq ?_
        refine PW.region ?_
        refine PL.run 4 rfl ?_
        refine PL.call rfl rfl rfl (laws_eqPost_spec w.post hb.p) (.cons (.refl _) <| .cons (.refl _) <| .nil) (fun p hp => by subst hp; rfl) (wantV_ok rfl) rfl (fun p hp => ?_)
        subst hp
        refine PL.run 1 rfl ?_
        refine PL.nil ?_
        refine PW.cond rfl (fun h4 => ?_) (fun h4 => ?_)
        ·
          simp at h4
        ·
          refine PW.skip ?_
          refine PW.seq ?_
          refine PW.seq ?_
          refine PW.region ?_
          refine PL.run 4 rfl ?_
          refine PL.call rfl rfl rfl (laws_eqReader_spec w.reader hb.r) (.cons (.refl _) <| .cons (.refl _) <| .nil) (fun p hp => by subst hp; rfl) (wantV_ok rfl) rfl (fun p hp => ?_)
          subst hp
          refine PL.run 1 rfl ?_
          refine PL.nil ?_
          refine PW.cond rfl (fun h5 => ?_) (fun h5 => ?_)
          ·
            simp at h5
          ·
            refine PW.skip ?_
            refine PW.seq ?_
            refine PW.seq ?_
            refine PW.region ?_
            refine PL.run 4 rfl ?_
            refine PL.call rfl rfl rfl (laws_eqWireS_spec w.net hb.n) (.cons (.refl _) <| .cons (.refl _) <| .nil) (fun p hp => by subst hp; rfl) (wantV_ok rfl) rfl (fun p hp => ?_)
            subst hp
            refine PL.run 1 rfl ?_
            refine PL.nil ?_
            refine PW.cond rfl (fun h6 => ?_) (fun h6 => ?_)
            ·
              simp at h6
            ·
              refine PW.skip ?_
              refine PW.seq ?_
              refine PW.seq ?_
              refine PW.region ?_
              refine PL.run 4 rfl ?_
              refine PL.call rfl rfl rfl (laws_eqSentS_spec w.sent hb.s) (.cons (.refl _) <| .cons (.refl _) <| .nil) (fun p hp => by subst hp; rfl) (wantV_ok rfl) rfl (fun p hp => ?_)
              subst hp
              refine PL.run 1 rfl ?_
              refine PL.nil ?_
              refine PW.cond rfl (fun h7 => ?_) (fun h7 => ?_)
              ·
                simp at h7
              ·
                refine PW.skip ?_
                refine PW.seq ?_
                refine PW.region ?_
                refine PL.run 1 rfl ?_
                refine PL.nil ?_
                refine PW.ret ?_
                refine RetOk.free rfl rfl rfl
end Go.Wl
set_option linter.unusedVariables false
set_option linter.unusedSimpArgs false
set_option maxRecDepth 100000
set_option maxHeartbeats 4000000
namespace Go.Wl
open Go Go.RowKit Go.Pw Go.Proofs
/-- The digits of what is not nought; none for nought. -/
def dg (u : Nat) : List UInt8 := if u = 0 then [] else Lib.decDigits u
theorem dg_step {u : Nat} (h : u ≠ 0) : dg u = dg (u / 10) ++ [UInt8.ofNat (48 + u % 10)] := by
  rw [dg, if_neg h, Lib.decDigits]
  by_cases h1 : u < 10
  · rw [dif_pos h1, dg, if_pos (by omega), Nat.mod_eq_of_lt h1]; rfl
  · rw [dif_neg h1, dg, if_neg (by omega)]
theorem decDigits_le : ∀ (k u : Nat), u < 10 ^ (k + 1) → (Lib.decDigits u).length ≤ k + 1
  | 0, u, h => by rw [Lib.decDigits, dif_pos (by omega)]; simp
  | k + 1, u, h => by
    rw [Lib.decDigits]
    by_cases h1 : u < 10
    · rw [dif_pos h1]; simp
    · rw [dif_neg h1]
      have := decDigits_le k (u / 10) (by rw [Nat.pow_succ] at h; omega)
      simp only [List.length_append, List.length_singleton]; omega
theorem itoa_len {n : Int} (h : InI n) : (Lib.itoa n).length ≤ 21 := by
  have h1 := h.1
  have h2 := h.2
  unfold Lib.itoa
  split
  · have := decDigits_le 19 n.natAbs (by omega)
    simp only [List.length_cons]; omega
  · have := decDigits_le 19 n.toNat (by omega)
    omega
theorem strOf_size (l : List UInt8) : (strOf l).size = l.length := by simp [strOf, ByteArray.size]
theorem strOf_app (a b : List UInt8) : strOf a ++ strOf b = strOf (a ++ b) := by
  apply ByteArray.ext
  simp [strOf]
def digS (n : Int) : ByteArray := strOf (Lib.itoa n)
theorem digS_size {n : Int} (h : InI n) : (digS n).size ≤ 21 := by rw [digS, strOf_size]; exact itoa_len h
/-- A number on its way: what is left of it, and the digits that have come. -/
structure DgOk (n v : Int) (out : List UInt8) : Prop where
  neg : n < 0 → v ≤ 0
  pos : ¬ n < 0 → 0 ≤ v
  lo : -9223372036854775808 ≤ v
  hi : v ≤ 9223372036854775807
  eq : dg v.natAbs ++ out = Lib.decDigits n.natAbs
  len : out.length ≤ 30
theorem digit_row {v : Int} {d : Int} (hd : d = ((v.natAbs % 10 : Nat) : Int)) : [[PV.lit (.int .u8 (IntKind.u8.wrap (IntKind.i64.wrap (48 + d))))]] = [UInt8.ofNat (48 + v.natAbs % 10)].map eb := by
  have hm : v.natAbs % 10 < 10 := Nat.mod_lt _ (by omega)
  have hb : IntKind.u8.bits = 8 := rfl
  have hs : IntKind.u8.signed = false := rfl
  rw [hd, wrap_id (by omega) (by omega)]
  have h1 : IntKind.u8.wrap (48 + ((v.natAbs % 10 : Nat) : Int)) = ((48 + v.natAbs % 10 : Nat) : Int) := by
    simp [IntKind.wrap, hb, hs]
    omega
  rw [h1]
  show [[PV.lit (.int .u8 ((48 + v.natAbs % 10 : Nat) : Int))]] = [[PV.lit (.int .u8 ((UInt8.ofNat (48 + v.natAbs % 10)).toNat : Int))]]
  rw [UInt8.toNat_ofNat', Nat.mod_eq_of_lt (a := 48 + v.natAbs % 10) (b := 2 ^ 8) (by omega)]
theorem dg_len {n v : Int} {out : List UInt8} (h : DgOk n v out) (hn : InI n) : out.length ≤ 20 := by
  have := congrArg List.length h.eq
  have h1 := hn.1
  have h2 := hn.2
  have h3 := decDigits_le 19 n.natAbs (by omega)
  rw [List.length_append] at this; omega
theorem dg_next {n v : Int} {out : List UInt8} (h : DgOk n v out) (hv : v ≠ 0) (hn : InI n) : DgOk n (IntKind.i64.wrap (Int.tdiv v 10)) (UInt8.ofNat (48 + v.natAbs % 10) :: out) := by
  have hlo := h.lo
  have hhi := h.hi
  have hq : (Int.tdiv v 10).natAbs = v.natAbs / 10 := by rw [Int.natAbs_tdiv]; rfl
  have hs : (v ≤ 0 → Int.tdiv v 10 ≤ 0) ∧ (0 ≤ v → 0 ≤ Int.tdiv v 10) := by
    refine ⟨fun h0 => ?_, fun h0 => Int.tdiv_nonneg h0 (by decide)⟩
    have : Int.tdiv v 10 = -(Int.tdiv (-v) 10) := by rw [Int.neg_tdiv, Int.neg_neg]
    have := Int.tdiv_nonneg (a := -v) (b := 10) (by omega) (by decide)
    omega
  have hl := dg_len h hn
  rw [wrap_id (by omega) (by omega)]
  refine ⟨fun a => hs.1 (h.neg a), fun a => hs.2 (h.pos a), by omega, by omega, ?_, by simp only [List.length_cons]; omega⟩
  rw [hq, ← h.eq, dg_step (u := v.natAbs) (by omega)]
  simp
/- spec.Digits -/
theorem spec_Digits_spec (n : Int) (hn : InI n) : Pw.Spec Tryd.prog 14 [eI n] (fun res_ => res_ = eS (digS n)) := by
  refine spec_of (n := 31) Tryd.call14 Tryd.func14 rfl rfl (by simp) rfl rfl fun W Z => ?_
  refine PW.seq ?_
  refine PW.region ?_
  refine PL.run 1 rfl ?_
  refine PL.nil ?_
  refine PW.seq ?_
  refine PW.seq ?_
  refine PW.region ?_
  refine PL.run 2 rfl ?_
  refine PL.nil ?_
  refine PW.cond rfl (fun h1 => ?_) (fun h1 => ?_)
  ·
    refine PW.seq ?_
    refine PW.region ?_
    refine PL.run 1 rfl ?_
    refine PL.nil ?_
    refine PW.ret ?_
    refine RetOk.free rfl rfl (congrArg eS ?_)
    have : n = 0 := by simpa using h1
    subst this
    decide +kernel
  ·
    have h0 : n ≠ 0 := by simpa using h1
    clear h1
    refine PW.skip ?_
    refine PW.seq ?_
    refine PW.region ?_
    refine PL.run 3 rfl ?_
    refine PL.nil ?_
    refine PW.seq ?_
    refine PW.region ?_
    refine PL.run 1 rfl ?_
    refine PL.nil ?_
    refine PW.seq ?_
    refine PW.block ?_
    refine PW.loopAt (α := Int × List UInt8) (fun x => ⟨[(0, eI x.1), (3, eT (decide (n < 0))), (4, eS (strOf x.2))], PH.none⟩) (fun x => DgOk n x.1 x.2) (fun x => x.1.natAbs) (n, []) Le.free ⟨fun h => by simp only; omega, fun h => by simp only; omega, hn.1, hn.2, by simp [dg, h0], by simp⟩ (fun x hx => ?_)
    obtain ⟨v, out⟩ := x
    simp only at hx ⊢
    refine PW.seq ?_
    refine PW.seq ?_
    refine PW.region ?_
    refine PL.run 2 rfl ?_
    refine PL.nil ?_
    refine PW.cond rfl (fun h2 => ?_) (fun h2 => ?_)
    ·
      have hv : v ≠ 0 := by simpa using h2
      clear h2
      have hnx := dg_next hx hv hn
      have hol := dg_len hx hn
      have hq : (IntKind.i64.wrap (Int.tdiv v 10)).natAbs < v.natAbs := by
       have hlo := hx.lo
       have hhi := hx.hi
       have hq : (Int.tdiv v 10).natAbs = v.natAbs / 10 := by rw [Int.natAbs_tdiv]; rfl
       rw [wrap_id (by omega) (by omega)]; omega
      have hr : (Int.tmod v 10).natAbs = v.natAbs % 10 := by rw [Int.natAbs_tmod]; rfl
      refine PW.skip ?_
      refine PW.block ?_
      refine PW.seq ?_
      refine PW.region ?_
      refine PL.run 1 rfl ?_
      refine PL.val (OpV.rem rfl rfl rfl (by decide)) (wantV_ok rfl) rfl ?_
      refine PL.run 1 rfl ?_
      refine PL.nil ?_
      refine PW.seq ?_
      refine PW.seq ?_
      refine PW.region ?_
      refine PL.run 2 rfl ?_
      refine PL.nil ?_
      refine PW.cond rfl (fun h3 => ?_) (fun h3 => ?_)
      ·
        have hd : IntKind.i64.wrap (0 - Int.tmod v 10) = ((v.natAbs % 10 : Nat) : Int) := by
         have h3 : Int.tmod v 10 < 0 := by simpa using h3
         rw [wrap_id (by omega) (by omega)]; omega
        refine PW.region ?_
        refine PL.run 3 rfl ?_
        refine PL.nil ?_
        refine PW.seq ?_
        refine PW.region ?_
        refine PL.run 4 rfl ?_
        refine PL.val (OpV.toStr [UInt8.ofNat (48 + v.natAbs % 10)] rfl rfl (digit_row hd) rfl rfl rfl rfl rfl rfl) (wantV_ok rfl) rfl ?_
        refine PL.run 1 rfl ?_
        refine PL.val (OpV.cat rfl rfl rfl (by rw [strOf_size, strOf_size]; simp only [List.length_singleton]; omega)) (wantV_ok rfl) rfl ?_
        refine PL.run 1 rfl ?_
        refine PL.nil ?_
        refine PW.region ?_
        refine PL.run 1 rfl ?_
        refine PL.val (OpV.quo rfl rfl rfl (by decide)) (wantV_ok rfl) rfl ?_
        refine PL.run 1 rfl ?_
        refine PL.nil ?_
        exact ⟨(IntKind.i64.wrap (Int.tdiv v 10), UInt8.ofNat (48 + v.natAbs % 10) :: out), Le.free ⟨⟨rfl, rfl⟩, ⟨rfl, rfl⟩, ⟨congrArg (fun s => some (eS s)) (strOf_app _ _), rfl⟩, trivial⟩, hnx, hq⟩
      ·
        have hd : Int.tmod v 10 = ((v.natAbs % 10 : Nat) : Int) := by
         have h3 : 0 ≤ Int.tmod v 10 := by simpa using h3
         omega
        refine PW.skip ?_
        refine PW.seq ?_
        refine PW.region ?_
        refine PL.run 4 rfl ?_
        refine PL.val (OpV.toStr [UInt8.ofNat (48 + v.natAbs % 10)] rfl rfl (digit_row hd) rfl rfl rfl rfl rfl rfl) (wantV_ok rfl) rfl ?_
        refine PL.run 1 rfl ?_
        refine PL.val (OpV.cat rfl rfl rfl (by rw [strOf_size, strOf_size]; simp only [List.length_singleton]; omega)) (wantV_ok rfl) rfl ?_
        refine PL.run 1 rfl ?_
        refine PL.nil ?_
        refine PW.region ?_
        refine PL.run 1 rfl ?_
        refine PL.val (OpV.quo rfl rfl rfl (by decide)) (wantV_ok rfl) rfl ?_
        refine PL.run 1 rfl ?_
        refine PL.nil ?_
        exact ⟨(IntKind.i64.wrap (Int.tdiv v 10), UInt8.ofNat (48 + v.natAbs % 10) :: out), Le.free ⟨⟨rfl, rfl⟩, ⟨rfl, rfl⟩, ⟨congrArg (fun s => some (eS s)) (strOf_app _ _), rfl⟩, trivial⟩, hnx, hq⟩
    ·
      have hv : v = 0 := by simpa using h2
      have ho : out = Lib.decDigits n.natAbs := by have := hx.eq; rw [hv] at this; simpa [dg] using this
      have hol := dg_len hx hn
      refine PW.exit ?_
      refine PW.seq ?_
      refine PW.seq ?_
      refine PW.region ?_
      refine PL.run 1 rfl ?_
      refine PL.nil ?_
      refine PW.cond rfl (fun h4 => ?_) (fun h4 => ?_)
      ·
        refine PW.seq ?_
        refine PW.region ?_
        refine PL.run 1 rfl ?_
        refine PL.val (OpV.cat rfl rfl rfl (by rw [strOf_size]; show 1 + out.length ≤ _; omega)) (wantV_ok rfl) rfl ?_
        refine PL.run 1 rfl ?_
        refine PL.nil ?_
        refine PW.ret ?_
        refine RetOk.free rfl rfl (congrArg eS ?_)
        have h4 : n < 0 := by simpa using h4
        rw [digS, Lib.itoa, if_pos h4, ho]
        exact strOf_app [45] _
      ·
        refine PW.skip ?_
        refine PW.seq ?_
        refine PW.region ?_
        refine PL.run 2 rfl ?_
        refine PL.nil ?_
        refine PW.ret ?_
        refine RetOk.free rfl rfl (congrArg eS ?_)
        have h4 : ¬ n < 0 := by simpa using h4
        rw [digS, Lib.itoa, if_neg h4, ho]
        congr 2; omega
end Go.Wl
set_option linter.unusedVariables false
set_option linter.unusedSimpArgs false
namespace Go.Pw
open Go Go.RowKit
/-- A contract that asks something of the world. -/
structure SpecT (T : World → Prop) (P : Program) (f : FuncId) (args : List PV) (F : PV → Prop) : Prop where
  ent : Ent P f
  run : ∀ (W : World) (Z : Cells) (μ : Mu) (vs : List Value), T W → Sub Z W → RepL Z μ args vs → Calls P f vs.toArray W fun e W' => ∃ v, e = .returned v ∧ Done W Z F v W'
section
variable {cx : Cx} {S : PS} {o : Oper} {ops : Array Oper} {rest : List Oper} {Q : Post}
theorem PL.callT {T : World → Prop} (hmo : ∀ w W : World, Below w.heap.size w W → T w → T W) (hT : T cx.w) {fo : Operand} {f : Nat} {caps ps qs : List PV} {xs : Array Operand} {ts : Array TypeId} {F : PV → Prop} (ho : o.op = .call { callee := .value fo, args := xs, argTypes := ts }) (hfo : S.ev fo = some (.fn f caps)) (hps : evs S xs.toList = some ps) (h : SpecT T cx.P f qs F) (hw2 : WkL (ps ++ caps) qs)
    (hfr : ∀ p, F p → fresh S.h.tk (toks p) = true) (hw : Wants cx ops o S true) (hn : dstOk cx.n o.dst = true)
    (k : ∀ p, F p → PL cx ops Q rest (PS.put ⟨S.env, ⟨S.h.bx, toks p ++ S.h.tk⟩⟩ o.dst p)) : PL cx ops Q (o :: rest) S :=
  PL.cons hw (K := fun S' => ∃ p, F p ∧ S' = PS.put ⟨S.env, ⟨S.h.bx, toks p ++ S.h.tk⟩⟩ o.dst p) (fun a W hR K' Q' hK => by
    obtain ⟨Z, μ, hz⟩ := hR
    have hf := hz.ev hfo
    generalize hv : a.eval fo = v at hf
    cases hf with
    | fn _ _ _ cs hl hc =>
      have hargs := evs_rep hz hps
      have hall : RepL Z μ (ps ++ caps) (xs.toList.map a.eval ++ cs) := ⟨by rw [List.length_append, List.length_append, hargs.1, hl], fun i p v hp hv => by
        have hlen : (xs.toList.map a.eval).length = ps.length := hargs.1
        by_cases hi : i < ps.length
        · rw [List.getElem?_append_left hi] at hp
          rw [List.getElem?_append_left (by omega)] at hv
          exact hargs.2 i p v hp hv
        · rw [List.getElem?_append_right (by omega)] at hp
          rw [List.getElem?_append_right (by omega), hlen] at hv
          exact hc _ p v hp hv⟩
      have hcall := h.run W Z μ _ (hmo _ _ hz.below hT) hz.sub (hw2.rep hall)
      show o.upon cx.P a K' Q' _
      have hrun : (execOp a.eval o).run cx.P W = .ok (.enter f (xs.toList.map a.eval ++ cs).toArray) W := by
        simp only [execOp, ho]
        simp [resolve, hv, Deferred.ofValue, invoke]
        have := h.ent (xs.map a.eval ++ cs.toArray) W
        rw [this]
        congr 2
        apply Array.ext'
        simp
      rw [hrun, Oper.upon_enter]
      refine hcall.mono fun e W' ⟨v, e1, ⟨p, Z', μ', hF, hr, hg, hs, hb, hh⟩⟩ => ?_
      subst e1
      obtain ⟨μ2, h1, h2⟩ := hz.join hr hg hs hb hh (hfr p hF)
      exact hK _ _ _ ⟨p, hF, rfl⟩ ⟨Z', μ2, h1.put hn h2⟩) fun S' ⟨p, hF, e⟩ => by subst e; exact k p hF
end
theorem specT_of {T : World → Prop} {P : Program} [TC P] {f : FuncId} {fn : Func} {c : Code} {args : List PV} {F : PV → Prop} {n : Nat} {rs : List ResultVar} (he : Ent P f) (hf : P.funcs[f]? = some fn) (hb : fn.body = some c) (hn : fn.ntmps = n) (hl : args.length ≤ n) (hrs : fn.results.toList = rs) (hfr : freeL args = true)
    (h : ∀ W Z, T W → PW ⟨P, W, Z, n⟩ c (RetQ P rs F) ⟨numd 0 args, PH.none⟩) : SpecT T P f args F := ⟨he, fun W Z μ vs ht0 hs hr => by
  have key : R ⟨P, W, Z, n⟩ ⟨numd 0 args, PH.none⟩ { tmps := vs.toArray ++ Array.replicate (fn.ntmps - vs.toArray.size) undef, defers := [] } W := by
    refine ⟨Z, Mu.emp, ⟨rfl, ?_, fun t p ht => ?_⟩, ⟨fun i t cs e => (by cases e), fun t sz n e => (by cases e), fun i j x y g e => (by cases e), fun t u sz n sz' n' v v' g e => (by cases e), fun i g e => (by cases e), fun t n v e => (by cases e), fun t n v sz m e => (by cases e), fun i t x sz n v g e => (by cases e)⟩, hs, Grow.refl _ _, Below.refl _ _⟩
    · simp only [Array.size_append, List.size_toArray, Array.size_replicate]
      have := hr.1; omega
    · obtain ⟨i, rfl, hi⟩ := lk_numd args 0 t p ht
      have hi2 := (List.getElem?_eq_some_iff.1 hi).1
      have hi3 : i < vs.length := by rw [hr.1]; exact hi2
      refine ⟨vs[i], ?_, (hr.2 i p _ hi (List.getElem?_eq_getElem hi3)).drop (freeL_mem hfr p (List.mem_of_getElem? hi))⟩
      rw [Nat.zero_add, Array.getElem?_append_left (by simpa using hi3)]
      simp
  refine calls_of_wp hf hb (wp_mono (h W Z ht0 _ _ key) fun e a W' hq => ?_)
  obtain ⟨S, ⟨Z', μ', hz⟩, hQ⟩ := hq
  have fin : RetOk P rs F S → a.defers = [] ∧ ∃ v, (results fn a.tmps).run P W' = .ok v W' ∧ ∃ v', Ending.returned v = .returned v' ∧ Done W Z F v' W' := fun k => by
    obtain ⟨v, h1, h2⟩ := toks_of_ret hz hrs k
    exact ⟨hz.env.df, v, h1, v, rfl, h2⟩
  cases e with
  | normal => exact fin hQ
  | ret => exact fin hQ
  | exit i => exact hQ.elim
  | goto l => exact hQ.elim
  | panic c => exact hQ.elim
  | outgrown => exact hQ.elim⟩
end Go.Pw
