/- The table of the program's types, for the engine. The walks, first text: numbers, signs. The walks, second text: routes, items, queues (the specification's). The walks, third text: queues that are right (the specification's). The walks, fourth text: queues (the specification's). The walks, fifth text: what is taken from a queue (the specification's). The walks, sixth text: bytes (the specification's). The walks, seventh text: numbers as bytes (the specification's). The walks, eighth text: lines of a book (the specification's). The walks, ninth text: lines as bytes (the specification's). The walks, tenth text: a line is read from bytes (the specification's). -/
import Derived.Test.YtkganhdglmbpoaaGreatBe2
import Derived.Test.YtkganhdglmbpoaaGreatProg
import Derived.Laws.BitsLemmas
namespace Go.Pw
open Go Go.RowKit Go.Proofs
def tyT : List (Nat × TI) := [
  (2, ⟨.int .i64, 1, false, (Go.Value.int Go.IntKind.i64 0), 8⟩),
  (3, ⟨.int .i64, 1, false, (Go.Value.int Go.IntKind.i64 0), 8⟩),
  (4, ⟨.bool, 1, false, (Go.Value.bool false), 1⟩),
  (5, ⟨.int .u8, 1, false, (Go.Value.int Go.IntKind.u8 0), 1⟩),
  (6, ⟨.int .u8, 1, false, (Go.Value.int Go.IntKind.u8 0), 1⟩),
  (7, ⟨.struct [(0, 2), (1, 3), (2, 4), (3, 6)], 4, true, (Go.Value.agg #[Go.Value.int Go.IntKind.i64 0, Go.Value.int Go.IntKind.i64 0, Go.Value.bool false, Go.Value.int Go.IntKind.u8 0]), 24⟩),
  (8, ⟨.struct [(0, 2), (1, 3), (2, 4), (3, 6)], 4, true, (Go.Value.agg #[Go.Value.int Go.IntKind.i64 0, Go.Value.int Go.IntKind.i64 0, Go.Value.bool false, Go.Value.int Go.IntKind.u8 0]), 24⟩),
  (9, ⟨.str, 1, false, (Go.Value.string { data := #[] }), 16⟩),
  (10, ⟨.str, 1, false, (Go.Value.string { data := #[] }), 16⟩),
  (11, ⟨.str, 1, false, (Go.Value.string { data := #[] }), 16⟩),
  (12, ⟨.int .u64, 1, false, (Go.Value.int Go.IntKind.u64 0), 8⟩),
  (13, ⟨.struct [(0, 9), (1, 12)], 2, true, (Go.Value.agg #[Go.Value.string { data := #[] }, Go.Value.int Go.IntKind.u64 0]), 24⟩),
  (14, ⟨.struct [(0, 9), (1, 12)], 2, true, (Go.Value.agg #[Go.Value.string { data := #[] }, Go.Value.int Go.IntKind.u64 0]), 24⟩),
  (15, ⟨.other, 1, false, (Go.Value.pointer none), 8⟩),
  (16, ⟨.other, 1, false, (Go.Value.pointer none), 8⟩),
  (17, ⟨.other, 1, false, (Go.Value.pointer none), 8⟩),
  (18, ⟨.struct [(0, 17)], 1, true, (Go.Value.agg #[Go.Value.pointer none]), 8⟩),
  (19, ⟨.struct [(0, 17)], 1, true, (Go.Value.agg #[Go.Value.pointer none]), 8⟩),
  (20, ⟨.other, 1, false, Go.Value.nilIface, 16⟩),
  (21, ⟨.int .i32, 1, false, (Go.Value.int Go.IntKind.i32 0), 4⟩),
  (22, ⟨.slice 5, 1, false, (Go.Value.slice none 0 0), 24⟩),
  (23, ⟨.slice 92, 1, false, (Go.Value.slice none 0 0), 24⟩),
  (24, ⟨.struct [(0, 23), (1, 3), (2, 22), (3, 3)], 4, true, (Go.Value.agg #[Go.Value.slice none 0 0, Go.Value.int Go.IntKind.i64 0, Go.Value.slice none 0 0, Go.Value.int Go.IntKind.i64 0]), 64⟩),
  (25, ⟨.struct [(0, 23), (1, 3), (2, 22), (3, 3)], 4, true, (Go.Value.agg #[Go.Value.slice none 0 0, Go.Value.int Go.IntKind.i64 0, Go.Value.slice none 0 0, Go.Value.int Go.IntKind.i64 0]), 64⟩),
  (26, ⟨.slice 22, 1, false, (Go.Value.slice none 0 0), 24⟩),
  (27, ⟨.struct [(0, 22), (1, 3), (2, 26), (3, 26)], 4, true, (Go.Value.agg #[Go.Value.slice none 0 0, Go.Value.int Go.IntKind.i64 0, Go.Value.slice none 0 0, Go.Value.slice none 0 0]), 80⟩),
  (28, ⟨.struct [(0, 22), (1, 3), (2, 26), (3, 26)], 4, true, (Go.Value.agg #[Go.Value.slice none 0 0, Go.Value.int Go.IntKind.i64 0, Go.Value.slice none 0 0, Go.Value.slice none 0 0]), 80⟩),
  (29, ⟨.slice 94, 1, false, (Go.Value.slice none 0 0), 24⟩),
  (30, ⟨.slice 96, 1, false, (Go.Value.slice none 0 0), 24⟩),
  (31, ⟨.struct [(0, 22), (1, 3), (2, 3), (3, 25), (7, 28), (11, 29), (12, 30)], 13, true, (Go.Value.agg #[Go.Value.slice none 0 0, Go.Value.int Go.IntKind.i64 0, Go.Value.int Go.IntKind.i64 0, Go.Value.slice none 0 0, Go.Value.int Go.IntKind.i64 0, Go.Value.slice none 0 0, Go.Value.int Go.IntKind.i64 0, Go.Value.slice none 0 0, Go.Value.int Go.IntKind.i64 0, Go.Value.slice none 0 0, Go.Value.slice none 0 0, Go.Value.slice none 0 0, Go.Value.slice none 0 0]), 232⟩),
  (32, ⟨.struct [(0, 22), (1, 3), (2, 3), (3, 25), (7, 28), (11, 29), (12, 30)], 13, true, (Go.Value.agg #[Go.Value.slice none 0 0, Go.Value.int Go.IntKind.i64 0, Go.Value.int Go.IntKind.i64 0, Go.Value.slice none 0 0, Go.Value.int Go.IntKind.i64 0, Go.Value.slice none 0 0, Go.Value.int Go.IntKind.i64 0, Go.Value.slice none 0 0, Go.Value.int Go.IntKind.i64 0, Go.Value.slice none 0 0, Go.Value.slice none 0 0, Go.Value.slice none 0 0, Go.Value.slice none 0 0]), 232⟩),
  (35, ⟨.slice 64, 1, false, (Go.Value.slice none 0 0), 24⟩),
  (36, ⟨.struct [(0, 35), (1, 3), (2, 22), (3, 3)], 4, true, (Go.Value.agg #[Go.Value.slice none 0 0, Go.Value.int Go.IntKind.i64 0, Go.Value.slice none 0 0, Go.Value.int Go.IntKind.i64 0]), 64⟩),
  (37, ⟨.struct [(0, 35), (1, 3), (2, 22), (3, 3)], 4, true, (Go.Value.agg #[Go.Value.slice none 0 0, Go.Value.int Go.IntKind.i64 0, Go.Value.slice none 0 0, Go.Value.int Go.IntKind.i64 0]), 64⟩),
  (38, ⟨.struct [(0, 22), (1, 3), (2, 26), (3, 26)], 4, true, (Go.Value.agg #[Go.Value.slice none 0 0, Go.Value.int Go.IntKind.i64 0, Go.Value.slice none 0 0, Go.Value.slice none 0 0]), 80⟩),
  (39, ⟨.slice 71, 1, false, (Go.Value.slice none 0 0), 24⟩),
  (40, ⟨.slice 61, 1, false, (Go.Value.slice none 0 0), 24⟩),
  (41, ⟨.struct [(0, 22), (1, 3), (2, 3), (3, 37), (7, 38), (11, 39), (12, 40)], 13, true, (Go.Value.agg #[Go.Value.slice none 0 0, Go.Value.int Go.IntKind.i64 0, Go.Value.int Go.IntKind.i64 0, Go.Value.slice none 0 0, Go.Value.int Go.IntKind.i64 0, Go.Value.slice none 0 0, Go.Value.int Go.IntKind.i64 0, Go.Value.slice none 0 0, Go.Value.int Go.IntKind.i64 0, Go.Value.slice none 0 0, Go.Value.slice none 0 0, Go.Value.slice none 0 0, Go.Value.slice none 0 0]), 232⟩),
  (42, ⟨.struct [(0, 22), (1, 3), (2, 3), (3, 37), (7, 38), (11, 39), (12, 40)], 13, true, (Go.Value.agg #[Go.Value.slice none 0 0, Go.Value.int Go.IntKind.i64 0, Go.Value.int Go.IntKind.i64 0, Go.Value.slice none 0 0, Go.Value.int Go.IntKind.i64 0, Go.Value.slice none 0 0, Go.Value.int Go.IntKind.i64 0, Go.Value.slice none 0 0, Go.Value.int Go.IntKind.i64 0, Go.Value.slice none 0 0, Go.Value.slice none 0 0, Go.Value.slice none 0 0, Go.Value.slice none 0 0]), 232⟩),
  (60, ⟨.struct [(0, 9), (1, 3), (2, 22), (3, 22)], 4, true, (Go.Value.agg #[Go.Value.string { data := #[] }, Go.Value.int Go.IntKind.i64 0, Go.Value.slice none 0 0, Go.Value.slice none 0 0]), 72⟩),
  (61, ⟨.struct [(0, 9), (1, 3), (2, 22), (3, 22)], 4, true, (Go.Value.agg #[Go.Value.string { data := #[] }, Go.Value.int Go.IntKind.i64 0, Go.Value.slice none 0 0, Go.Value.slice none 0 0]), 72⟩),
  (63, ⟨.struct [(0, 9), (1, 3), (2, 3), (3, 22)], 4, true, (Go.Value.agg #[Go.Value.string { data := #[] }, Go.Value.int Go.IntKind.i64 0, Go.Value.int Go.IntKind.i64 0, Go.Value.slice none 0 0]), 56⟩),
  (64, ⟨.struct [(0, 9), (1, 3), (2, 3), (3, 22)], 4, true, (Go.Value.agg #[Go.Value.string { data := #[] }, Go.Value.int Go.IntKind.i64 0, Go.Value.int Go.IntKind.i64 0, Go.Value.slice none 0 0]), 56⟩),
  (70, ⟨.struct [(0, 4), (1, 64), (5, 22)], 6, true, (Go.Value.agg #[Go.Value.bool false, Go.Value.string { data := #[] }, Go.Value.int Go.IntKind.i64 0, Go.Value.int Go.IntKind.i64 0, Go.Value.slice none 0 0, Go.Value.slice none 0 0]), 88⟩),
  (71, ⟨.struct [(0, 4), (1, 64), (5, 22)], 6, true, (Go.Value.agg #[Go.Value.bool false, Go.Value.string { data := #[] }, Go.Value.int Go.IntKind.i64 0, Go.Value.int Go.IntKind.i64 0, Go.Value.slice none 0 0, Go.Value.slice none 0 0]), 88⟩),
  (92, ⟨.struct [(0, 9), (1, 3), (2, 3), (3, 22)], 4, true, (Go.Value.agg #[Go.Value.string { data := #[] }, Go.Value.int Go.IntKind.i64 0, Go.Value.int Go.IntKind.i64 0, Go.Value.slice none 0 0]), 56⟩),
  (93, ⟨.struct [(0, 4), (1, 92), (5, 22)], 6, true, (Go.Value.agg #[Go.Value.bool false, Go.Value.string { data := #[] }, Go.Value.int Go.IntKind.i64 0, Go.Value.int Go.IntKind.i64 0, Go.Value.slice none 0 0, Go.Value.slice none 0 0]), 88⟩),
  (94, ⟨.struct [(0, 4), (1, 92), (5, 22)], 6, true, (Go.Value.agg #[Go.Value.bool false, Go.Value.string { data := #[] }, Go.Value.int Go.IntKind.i64 0, Go.Value.int Go.IntKind.i64 0, Go.Value.slice none 0 0, Go.Value.slice none 0 0]), 88⟩),
  (96, ⟨.struct [(0, 9), (1, 3), (2, 22), (3, 22)], 4, true, (Go.Value.agg #[Go.Value.string { data := #[] }, Go.Value.int Go.IntKind.i64 0, Go.Value.slice none 0 0, Go.Value.slice none 0 0]), 72⟩),
  (119, ⟨.struct [(0, 3), (1, 9), (2, 3), (3, 3), (4, 22)], 5, true, (Go.Value.agg #[Go.Value.int Go.IntKind.i64 0, Go.Value.string { data := #[] }, Go.Value.int Go.IntKind.i64 0, Go.Value.int Go.IntKind.i64 0, Go.Value.slice none 0 0]), 64⟩),
  (120, ⟨.struct [(0, 3), (1, 9), (2, 3), (3, 3), (4, 22)], 5, true, (Go.Value.agg #[Go.Value.int Go.IntKind.i64 0, Go.Value.string { data := #[] }, Go.Value.int Go.IntKind.i64 0, Go.Value.int Go.IntKind.i64 0, Go.Value.slice none 0 0]), 64⟩),
  (140, ⟨.slice 3, 1, false, (Go.Value.slice none 0 0), 24⟩),
  (145, ⟨.int .u64, 1, false, (Go.Value.int Go.IntKind.u64 0), 8⟩),
  (156, ⟨.struct [(0, 17), (1, 17), (2, 17), (3, 9)], 4, true, (Go.Value.agg #[Go.Value.pointer none, Go.Value.pointer none, Go.Value.pointer none, Go.Value.string { data := #[] }]), 40⟩),
  (157, ⟨.struct [(0, 17), (1, 17), (2, 17), (3, 9)], 4, true, (Go.Value.agg #[Go.Value.pointer none, Go.Value.pointer none, Go.Value.pointer none, Go.Value.string { data := #[] }]), 40⟩),
  (158, ⟨.array 0 16, 0, true, (Go.Value.agg #[]), 0⟩),
  (159, ⟨.struct [(0, 158)], 0, true, (Go.Value.agg #[]), 0⟩),
  (160, ⟨.struct [(0, 158)], 0, true, (Go.Value.agg #[]), 0⟩),
  (162, ⟨.int .u32, 1, false, (Go.Value.int Go.IntKind.u32 0), 4⟩),
  (163, ⟨.int .u8, 1, false, (Go.Value.int Go.IntKind.u8 0), 1⟩),
  (164, ⟨.int .u8, 1, false, (Go.Value.int Go.IntKind.u8 0), 1⟩),
  (166, ⟨.other, 1, false, (Go.Value.pointer none), 8⟩),
  (167, ⟨.int .i32, 1, false, (Go.Value.int Go.IntKind.i32 0), 4⟩),
  (168, ⟨.int .i32, 1, false, (Go.Value.int Go.IntKind.i32 0), 4⟩),
  (169, ⟨.struct [(0, 12), (1, 12), (2, 162), (3, 163), (4, 5), (5, 5), (6, 164), (7, 165), (8, 166), (9, 167), (10, 168)], 11, true, (Go.Value.agg #[Go.Value.int Go.IntKind.u64 0, Go.Value.int Go.IntKind.u64 0, Go.Value.int Go.IntKind.u32 0, Go.Value.int Go.IntKind.u8 0, Go.Value.int Go.IntKind.u8 0, Go.Value.int Go.IntKind.u8 0, Go.Value.int Go.IntKind.u8 0, Go.Value.nilFunc, Go.Value.pointer none, Go.Value.int Go.IntKind.i32 0, Go.Value.int Go.IntKind.i32 0]), 48⟩),
  (170, ⟨.struct [(0, 12), (1, 12), (2, 162), (3, 163), (4, 5), (5, 5), (6, 164), (7, 165), (8, 166), (9, 167), (10, 168)], 11, true, (Go.Value.agg #[Go.Value.int Go.IntKind.u64 0, Go.Value.int Go.IntKind.u64 0, Go.Value.int Go.IntKind.u32 0, Go.Value.int Go.IntKind.u8 0, Go.Value.int Go.IntKind.u8 0, Go.Value.int Go.IntKind.u8 0, Go.Value.int Go.IntKind.u8 0, Go.Value.nilFunc, Go.Value.pointer none, Go.Value.int Go.IntKind.i32 0, Go.Value.int Go.IntKind.i32 0]), 48⟩),
  (171, ⟨.other, 1, false, (Go.Value.pointer none), 8⟩)]
theorem tyok0 : TIok Tryz.prog (tyT[0]'(by decide)).1 (tyT[0]'(by decide)).2 := ⟨Tryz.sizeOf2, Tryz.isAgg2, Tryz.zeroValue2, ⟨Tryz.t2, by kernel_rfl, rfl, rfl, rfl⟩, Tryz.underlying2⟩
theorem tyok1 : TIok Tryz.prog (tyT[1]'(by decide)).1 (tyT[1]'(by decide)).2 := ⟨Tryz.sizeOf3, Tryz.isAgg3, Tryz.zeroValue3, ⟨Tryz.t3, by kernel_rfl, rfl, rfl, rfl⟩, Tryz.underlying3⟩
theorem tyok2 : TIok Tryz.prog (tyT[2]'(by decide)).1 (tyT[2]'(by decide)).2 := ⟨Tryz.sizeOf4, Tryz.isAgg4, Tryz.zeroValue4, ⟨Tryz.t4, by kernel_rfl, rfl, rfl, rfl⟩, Tryz.underlying4⟩
theorem tyok3 : TIok Tryz.prog (tyT[3]'(by decide)).1 (tyT[3]'(by decide)).2 := ⟨Tryz.sizeOf5, Tryz.isAgg5, Tryz.zeroValue5, ⟨Tryz.t5, by kernel_rfl, rfl, rfl, rfl⟩, Tryz.underlying5⟩
theorem tyok4 : TIok Tryz.prog (tyT[4]'(by decide)).1 (tyT[4]'(by decide)).2 := ⟨Tryz.sizeOf6, Tryz.isAgg6, Tryz.zeroValue6, ⟨Tryz.t6, by kernel_rfl, rfl, rfl, rfl⟩, Tryz.underlying6⟩
theorem tyok5 : TIok Tryz.prog (tyT[5]'(by decide)).1 (tyT[5]'(by decide)).2 := ⟨Tryz.sizeOf7, Tryz.isAgg7, Tryz.zeroValue7, ⟨Tryz.t7, by kernel_rfl, rfl, rfl, rfl⟩, ⟨_, Tryz.underlying7, rfl⟩⟩
theorem tyok6 : TIok Tryz.prog (tyT[6]'(by decide)).1 (tyT[6]'(by decide)).2 := ⟨Tryz.sizeOf8, Tryz.isAgg8, Tryz.zeroValue8, ⟨Tryz.t8, by kernel_rfl, rfl, rfl, rfl⟩, ⟨_, Tryz.underlying8, rfl⟩⟩
theorem tyok7 : TIok Tryz.prog (tyT[7]'(by decide)).1 (tyT[7]'(by decide)).2 := ⟨Tryz.sizeOf9, Tryz.isAgg9, Tryz.zeroValue9, ⟨Tryz.t9, by kernel_rfl, rfl, rfl, rfl⟩, Tryz.underlying9⟩
theorem tyok8 : TIok Tryz.prog (tyT[8]'(by decide)).1 (tyT[8]'(by decide)).2 := ⟨Tryz.sizeOf10, Tryz.isAgg10, Tryz.zeroValue10, ⟨Tryz.t10, by kernel_rfl, rfl, rfl, rfl⟩, Tryz.underlying10⟩
theorem tyok9 : TIok Tryz.prog (tyT[9]'(by decide)).1 (tyT[9]'(by decide)).2 := ⟨Tryz.sizeOf11, Tryz.isAgg11, Tryz.zeroValue11, ⟨Tryz.t11, by kernel_rfl, rfl, rfl, rfl⟩, Tryz.underlying11⟩
theorem tyok10 : TIok Tryz.prog (tyT[10]'(by decide)).1 (tyT[10]'(by decide)).2 := ⟨Tryz.sizeOf12, Tryz.isAgg12, Tryz.zeroValue12, ⟨Tryz.t12, by kernel_rfl, rfl, rfl, rfl⟩, Tryz.underlying12⟩
theorem tyok11 : TIok Tryz.prog (tyT[11]'(by decide)).1 (tyT[11]'(by decide)).2 := ⟨Tryz.sizeOf13, Tryz.isAgg13, Tryz.zeroValue13, ⟨Tryz.t13, by kernel_rfl, rfl, rfl, rfl⟩, ⟨_, Tryz.underlying13, rfl⟩⟩
theorem tyok12 : TIok Tryz.prog (tyT[12]'(by decide)).1 (tyT[12]'(by decide)).2 := ⟨Tryz.sizeOf14, Tryz.isAgg14, Tryz.zeroValue14, ⟨Tryz.t14, by kernel_rfl, rfl, rfl, rfl⟩, ⟨_, Tryz.underlying14, rfl⟩⟩
theorem tyok13 : TIok Tryz.prog (tyT[13]'(by decide)).1 (tyT[13]'(by decide)).2 := ⟨Tryz.sizeOf15, Tryz.isAgg15, Tryz.zeroValue15, ⟨Tryz.t15, by kernel_rfl, rfl, rfl, rfl⟩, trivial⟩
theorem tyok14 : TIok Tryz.prog (tyT[14]'(by decide)).1 (tyT[14]'(by decide)).2 := ⟨Tryz.sizeOf16, Tryz.isAgg16, Tryz.zeroValue16, ⟨Tryz.t16, by kernel_rfl, rfl, rfl, rfl⟩, trivial⟩
theorem tyok15 : TIok Tryz.prog (tyT[15]'(by decide)).1 (tyT[15]'(by decide)).2 := ⟨Tryz.sizeOf17, Tryz.isAgg17, Tryz.zeroValue17, ⟨Tryz.t17, by kernel_rfl, rfl, rfl, rfl⟩, trivial⟩
theorem tyok16 : TIok Tryz.prog (tyT[16]'(by decide)).1 (tyT[16]'(by decide)).2 := ⟨Tryz.sizeOf18, Tryz.isAgg18, Tryz.zeroValue18, ⟨Tryz.t18, by kernel_rfl, rfl, rfl, rfl⟩, ⟨_, Tryz.underlying18, rfl⟩⟩
theorem tyok17 : TIok Tryz.prog (tyT[17]'(by decide)).1 (tyT[17]'(by decide)).2 := ⟨Tryz.sizeOf19, Tryz.isAgg19, Tryz.zeroValue19, ⟨Tryz.t19, by kernel_rfl, rfl, rfl, rfl⟩, ⟨_, Tryz.underlying19, rfl⟩⟩
theorem tyok18 : TIok Tryz.prog (tyT[18]'(by decide)).1 (tyT[18]'(by decide)).2 := ⟨Tryz.sizeOf20, Tryz.isAgg20, Tryz.zeroValue20, ⟨Tryz.t20, by kernel_rfl, rfl, rfl, rfl⟩, trivial⟩
theorem tyok19 : TIok Tryz.prog (tyT[19]'(by decide)).1 (tyT[19]'(by decide)).2 := ⟨Tryz.sizeOf21, Tryz.isAgg21, Tryz.zeroValue21, ⟨Tryz.t21, by kernel_rfl, rfl, rfl, rfl⟩, Tryz.underlying21⟩
theorem tyok20 : TIok Tryz.prog (tyT[20]'(by decide)).1 (tyT[20]'(by decide)).2 := ⟨Tryz.sizeOf22, Tryz.isAgg22, Tryz.zeroValue22, ⟨Tryz.t22, by kernel_rfl, rfl, rfl, rfl⟩, Tryz.underlying22⟩
theorem tyok21 : TIok Tryz.prog (tyT[21]'(by decide)).1 (tyT[21]'(by decide)).2 := ⟨Tryz.sizeOf23, Tryz.isAgg23, Tryz.zeroValue23, ⟨Tryz.t23, by kernel_rfl, rfl, rfl, rfl⟩, Tryz.underlying23⟩
theorem tyok22 : TIok Tryz.prog (tyT[22]'(by decide)).1 (tyT[22]'(by decide)).2 := ⟨Tryz.sizeOf24, Tryz.isAgg24, Tryz.zeroValue24, ⟨Tryz.t24, by kernel_rfl, rfl, rfl, rfl⟩, ⟨_, Tryz.underlying24, rfl⟩⟩
theorem tyok23 : TIok Tryz.prog (tyT[23]'(by decide)).1 (tyT[23]'(by decide)).2 := ⟨Tryz.sizeOf25, Tryz.isAgg25, Tryz.zeroValue25, ⟨Tryz.t25, by kernel_rfl, rfl, rfl, rfl⟩, ⟨_, Tryz.underlying25, rfl⟩⟩
theorem tyok24 : TIok Tryz.prog (tyT[24]'(by decide)).1 (tyT[24]'(by decide)).2 := ⟨Tryz.sizeOf26, Tryz.isAgg26, Tryz.zeroValue26, ⟨Tryz.t26, by kernel_rfl, rfl, rfl, rfl⟩, Tryz.underlying26⟩
theorem tyok25 : TIok Tryz.prog (tyT[25]'(by decide)).1 (tyT[25]'(by decide)).2 := ⟨Tryz.sizeOf27, Tryz.isAgg27, Tryz.zeroValue27, ⟨Tryz.t27, by kernel_rfl, rfl, rfl, rfl⟩, ⟨_, Tryz.underlying27, rfl⟩⟩
theorem tyok26 : TIok Tryz.prog (tyT[26]'(by decide)).1 (tyT[26]'(by decide)).2 := ⟨Tryz.sizeOf28, Tryz.isAgg28, Tryz.zeroValue28, ⟨Tryz.t28, by kernel_rfl, rfl, rfl, rfl⟩, ⟨_, Tryz.underlying28, rfl⟩⟩
theorem tyok27 : TIok Tryz.prog (tyT[27]'(by decide)).1 (tyT[27]'(by decide)).2 := ⟨Tryz.sizeOf29, Tryz.isAgg29, Tryz.zeroValue29, ⟨Tryz.t29, by kernel_rfl, rfl, rfl, rfl⟩, Tryz.underlying29⟩
theorem tyok28 : TIok Tryz.prog (tyT[28]'(by decide)).1 (tyT[28]'(by decide)).2 := ⟨Tryz.sizeOf30, Tryz.isAgg30, Tryz.zeroValue30, ⟨Tryz.t30, by kernel_rfl, rfl, rfl, rfl⟩, Tryz.underlying30⟩
theorem tyok29 : TIok Tryz.prog (tyT[29]'(by decide)).1 (tyT[29]'(by decide)).2 := ⟨Tryz.sizeOf31, Tryz.isAgg31, Tryz.zeroValue31, ⟨Tryz.t31, by kernel_rfl, rfl, rfl, rfl⟩, ⟨_, Tryz.underlying31, rfl⟩⟩
theorem tyok30 : TIok Tryz.prog (tyT[30]'(by decide)).1 (tyT[30]'(by decide)).2 := ⟨Tryz.sizeOf32, Tryz.isAgg32, Tryz.zeroValue32, ⟨Tryz.t32, by kernel_rfl, rfl, rfl, rfl⟩, ⟨_, Tryz.underlying32, rfl⟩⟩
theorem tyok31 : TIok Tryz.prog (tyT[31]'(by decide)).1 (tyT[31]'(by decide)).2 := ⟨Tryz.sizeOf35, Tryz.isAgg35, Tryz.zeroValue35, ⟨Tryz.t35, by kernel_rfl, rfl, rfl, rfl⟩, Tryz.underlying35⟩
theorem tyok32 : TIok Tryz.prog (tyT[32]'(by decide)).1 (tyT[32]'(by decide)).2 := ⟨Tryz.sizeOf36, Tryz.isAgg36, Tryz.zeroValue36, ⟨Tryz.t36, by kernel_rfl, rfl, rfl, rfl⟩, ⟨_, Tryz.underlying36, rfl⟩⟩
theorem tyok33 : TIok Tryz.prog (tyT[33]'(by decide)).1 (tyT[33]'(by decide)).2 := ⟨Tryz.sizeOf37, Tryz.isAgg37, Tryz.zeroValue37, ⟨Tryz.t37, by kernel_rfl, rfl, rfl, rfl⟩, ⟨_, Tryz.underlying37, rfl⟩⟩
theorem tyok34 : TIok Tryz.prog (tyT[34]'(by decide)).1 (tyT[34]'(by decide)).2 := ⟨Tryz.sizeOf38, Tryz.isAgg38, Tryz.zeroValue38, ⟨Tryz.t38, by kernel_rfl, rfl, rfl, rfl⟩, ⟨_, Tryz.underlying38, rfl⟩⟩
theorem tyok35 : TIok Tryz.prog (tyT[35]'(by decide)).1 (tyT[35]'(by decide)).2 := ⟨Tryz.sizeOf39, Tryz.isAgg39, Tryz.zeroValue39, ⟨Tryz.t39, by kernel_rfl, rfl, rfl, rfl⟩, Tryz.underlying39⟩
theorem tyok36 : TIok Tryz.prog (tyT[36]'(by decide)).1 (tyT[36]'(by decide)).2 := ⟨Tryz.sizeOf40, Tryz.isAgg40, Tryz.zeroValue40, ⟨Tryz.t40, by kernel_rfl, rfl, rfl, rfl⟩, Tryz.underlying40⟩
theorem tyok37 : TIok Tryz.prog (tyT[37]'(by decide)).1 (tyT[37]'(by decide)).2 := ⟨Tryz.sizeOf41, Tryz.isAgg41, Tryz.zeroValue41, ⟨Tryz.t41, by kernel_rfl, rfl, rfl, rfl⟩, ⟨_, Tryz.underlying41, rfl⟩⟩
theorem tyok38 : TIok Tryz.prog (tyT[38]'(by decide)).1 (tyT[38]'(by decide)).2 := ⟨Tryz.sizeOf42, Tryz.isAgg42, Tryz.zeroValue42, ⟨Tryz.t42, by kernel_rfl, rfl, rfl, rfl⟩, ⟨_, Tryz.underlying42, rfl⟩⟩
theorem tyok39 : TIok Tryz.prog (tyT[39]'(by decide)).1 (tyT[39]'(by decide)).2 := ⟨Tryz.sizeOf60, Tryz.isAgg60, Tryz.zeroValue60, ⟨Tryz.t60, by kernel_rfl, rfl, rfl, rfl⟩, ⟨_, Tryz.underlying60, rfl⟩⟩
theorem tyok40 : TIok Tryz.prog (tyT[40]'(by decide)).1 (tyT[40]'(by decide)).2 := ⟨Tryz.sizeOf61, Tryz.isAgg61, Tryz.zeroValue61, ⟨Tryz.t61, by kernel_rfl, rfl, rfl, rfl⟩, ⟨_, Tryz.underlying61, rfl⟩⟩
theorem tyok41 : TIok Tryz.prog (tyT[41]'(by decide)).1 (tyT[41]'(by decide)).2 := ⟨Tryz.sizeOf63, Tryz.isAgg63, Tryz.zeroValue63, ⟨Tryz.t63, by kernel_rfl, rfl, rfl, rfl⟩, ⟨_, Tryz.underlying63, rfl⟩⟩
theorem tyok42 : TIok Tryz.prog (tyT[42]'(by decide)).1 (tyT[42]'(by decide)).2 := ⟨Tryz.sizeOf64, Tryz.isAgg64, Tryz.zeroValue64, ⟨Tryz.t64, by kernel_rfl, rfl, rfl, rfl⟩, ⟨_, Tryz.underlying64, rfl⟩⟩
theorem tyok43 : TIok Tryz.prog (tyT[43]'(by decide)).1 (tyT[43]'(by decide)).2 := ⟨Tryz.sizeOf70, Tryz.isAgg70, Tryz.zeroValue70, ⟨Tryz.t70, by kernel_rfl, rfl, rfl, rfl⟩, ⟨_, Tryz.underlying70, rfl⟩⟩
theorem tyok44 : TIok Tryz.prog (tyT[44]'(by decide)).1 (tyT[44]'(by decide)).2 := ⟨Tryz.sizeOf71, Tryz.isAgg71, Tryz.zeroValue71, ⟨Tryz.t71, by kernel_rfl, rfl, rfl, rfl⟩, ⟨_, Tryz.underlying71, rfl⟩⟩
theorem tyok45 : TIok Tryz.prog (tyT[45]'(by decide)).1 (tyT[45]'(by decide)).2 := ⟨Tryz.sizeOf92, Tryz.isAgg92, Tryz.zeroValue92, ⟨Tryz.t92, by kernel_rfl, rfl, rfl, rfl⟩, ⟨_, Tryz.underlying92, rfl⟩⟩
theorem tyok46 : TIok Tryz.prog (tyT[46]'(by decide)).1 (tyT[46]'(by decide)).2 := ⟨Tryz.sizeOf93, Tryz.isAgg93, Tryz.zeroValue93, ⟨Tryz.t93, by kernel_rfl, rfl, rfl, rfl⟩, ⟨_, Tryz.underlying93, rfl⟩⟩
theorem tyok47 : TIok Tryz.prog (tyT[47]'(by decide)).1 (tyT[47]'(by decide)).2 := ⟨Tryz.sizeOf94, Tryz.isAgg94, Tryz.zeroValue94, ⟨Tryz.t94, by kernel_rfl, rfl, rfl, rfl⟩, ⟨_, Tryz.underlying94, rfl⟩⟩
theorem tyok48 : TIok Tryz.prog (tyT[48]'(by decide)).1 (tyT[48]'(by decide)).2 := ⟨Tryz.sizeOf96, Tryz.isAgg96, Tryz.zeroValue96, ⟨Tryz.t96, by kernel_rfl, rfl, rfl, rfl⟩, ⟨_, Tryz.underlying96, rfl⟩⟩
theorem tyok49 : TIok Tryz.prog (tyT[49]'(by decide)).1 (tyT[49]'(by decide)).2 := ⟨Tryz.sizeOf119, Tryz.isAgg119, Tryz.zeroValue119, ⟨Tryz.t119, by kernel_rfl, rfl, rfl, rfl⟩, ⟨_, Tryz.underlying119, rfl⟩⟩
theorem tyok50 : TIok Tryz.prog (tyT[50]'(by decide)).1 (tyT[50]'(by decide)).2 := ⟨Tryz.sizeOf120, Tryz.isAgg120, Tryz.zeroValue120, ⟨Tryz.t120, by kernel_rfl, rfl, rfl, rfl⟩, ⟨_, Tryz.underlying120, rfl⟩⟩
theorem tyok51 : TIok Tryz.prog (tyT[51]'(by decide)).1 (tyT[51]'(by decide)).2 := ⟨Tryz.sizeOf140, Tryz.isAgg140, Tryz.zeroValue140, ⟨Tryz.t140, by kernel_rfl, rfl, rfl, rfl⟩, Tryz.underlying140⟩
theorem tyok52 : TIok Tryz.prog (tyT[52]'(by decide)).1 (tyT[52]'(by decide)).2 := ⟨Tryz.sizeOf145, Tryz.isAgg145, Tryz.zeroValue145, ⟨Tryz.t145, by kernel_rfl, rfl, rfl, rfl⟩, Tryz.underlying145⟩
theorem tyok53 : TIok Tryz.prog (tyT[53]'(by decide)).1 (tyT[53]'(by decide)).2 := ⟨Tryz.sizeOf156, Tryz.isAgg156, Tryz.zeroValue156, ⟨Tryz.t156, by kernel_rfl, rfl, rfl, rfl⟩, ⟨_, Tryz.underlying156, rfl⟩⟩
theorem tyok54 : TIok Tryz.prog (tyT[54]'(by decide)).1 (tyT[54]'(by decide)).2 := ⟨Tryz.sizeOf157, Tryz.isAgg157, Tryz.zeroValue157, ⟨Tryz.t157, by kernel_rfl, rfl, rfl, rfl⟩, ⟨_, Tryz.underlying157, rfl⟩⟩
theorem tyok55 : TIok Tryz.prog (tyT[55]'(by decide)).1 (tyT[55]'(by decide)).2 := ⟨Tryz.sizeOf158, Tryz.isAgg158, Tryz.zeroValue158, ⟨Tryz.t158, by kernel_rfl, rfl, rfl, rfl⟩, Tryz.underlying158⟩
theorem tyok56 : TIok Tryz.prog (tyT[56]'(by decide)).1 (tyT[56]'(by decide)).2 := ⟨Tryz.sizeOf159, Tryz.isAgg159, Tryz.zeroValue159, ⟨Tryz.t159, by kernel_rfl, rfl, rfl, rfl⟩, ⟨_, Tryz.underlying159, rfl⟩⟩
theorem tyok57 : TIok Tryz.prog (tyT[57]'(by decide)).1 (tyT[57]'(by decide)).2 := ⟨Tryz.sizeOf160, Tryz.isAgg160, Tryz.zeroValue160, ⟨Tryz.t160, by kernel_rfl, rfl, rfl, rfl⟩, ⟨_, Tryz.underlying160, rfl⟩⟩
theorem tyok58 : TIok Tryz.prog (tyT[58]'(by decide)).1 (tyT[58]'(by decide)).2 := ⟨Tryz.sizeOf162, Tryz.isAgg162, Tryz.zeroValue162, ⟨Tryz.t162, by kernel_rfl, rfl, rfl, rfl⟩, Tryz.underlying162⟩
theorem tyok59 : TIok Tryz.prog (tyT[59]'(by decide)).1 (tyT[59]'(by decide)).2 := ⟨Tryz.sizeOf163, Tryz.isAgg163, Tryz.zeroValue163, ⟨Tryz.t163, by kernel_rfl, rfl, rfl, rfl⟩, Tryz.underlying163⟩
theorem tyok60 : TIok Tryz.prog (tyT[60]'(by decide)).1 (tyT[60]'(by decide)).2 := ⟨Tryz.sizeOf164, Tryz.isAgg164, Tryz.zeroValue164, ⟨Tryz.t164, by kernel_rfl, rfl, rfl, rfl⟩, Tryz.underlying164⟩
theorem tyok61 : TIok Tryz.prog (tyT[61]'(by decide)).1 (tyT[61]'(by decide)).2 := ⟨Tryz.sizeOf166, Tryz.isAgg166, Tryz.zeroValue166, ⟨Tryz.t166, by kernel_rfl, rfl, rfl, rfl⟩, trivial⟩
theorem tyok62 : TIok Tryz.prog (tyT[62]'(by decide)).1 (tyT[62]'(by decide)).2 := ⟨Tryz.sizeOf167, Tryz.isAgg167, Tryz.zeroValue167, ⟨Tryz.t167, by kernel_rfl, rfl, rfl, rfl⟩, Tryz.underlying167⟩
theorem tyok63 : TIok Tryz.prog (tyT[63]'(by decide)).1 (tyT[63]'(by decide)).2 := ⟨Tryz.sizeOf168, Tryz.isAgg168, Tryz.zeroValue168, ⟨Tryz.t168, by kernel_rfl, rfl, rfl, rfl⟩, Tryz.underlying168⟩
theorem tyok64 : TIok Tryz.prog (tyT[64]'(by decide)).1 (tyT[64]'(by decide)).2 := ⟨Tryz.sizeOf169, Tryz.isAgg169, Tryz.zeroValue169, ⟨Tryz.t169, by kernel_rfl, rfl, rfl, rfl⟩, ⟨_, Tryz.underlying169, rfl⟩⟩
theorem tyok65 : TIok Tryz.prog (tyT[65]'(by decide)).1 (tyT[65]'(by decide)).2 := ⟨Tryz.sizeOf170, Tryz.isAgg170, Tryz.zeroValue170, ⟨Tryz.t170, by kernel_rfl, rfl, rfl, rfl⟩, ⟨_, Tryz.underlying170, rfl⟩⟩
theorem tyok66 : TIok Tryz.prog (tyT[66]'(by decide)).1 (tyT[66]'(by decide)).2 := ⟨Tryz.sizeOf171, Tryz.isAgg171, Tryz.zeroValue171, ⟨Tryz.t171, by kernel_rfl, rfl, rfl, rfl⟩, trivial⟩
theorem tyAll : ∀ x ∈ tyT, TIok Tryz.prog x.1 x.2 :=
  List.forall_mem_cons.2 ⟨tyok0, List.forall_mem_cons.2 ⟨tyok1, List.forall_mem_cons.2 ⟨tyok2, List.forall_mem_cons.2 ⟨tyok3, List.forall_mem_cons.2 ⟨tyok4, List.forall_mem_cons.2 ⟨tyok5, List.forall_mem_cons.2 ⟨tyok6, List.forall_mem_cons.2 ⟨tyok7, List.forall_mem_cons.2 ⟨tyok8, List.forall_mem_cons.2 ⟨tyok9, List.forall_mem_cons.2 ⟨tyok10, List.forall_mem_cons.2 ⟨tyok11, List.forall_mem_cons.2 ⟨tyok12, List.forall_mem_cons.2 ⟨tyok13, List.forall_mem_cons.2 ⟨tyok14, List.forall_mem_cons.2 ⟨tyok15, List.forall_mem_cons.2 ⟨tyok16, List.forall_mem_cons.2 ⟨tyok17, List.forall_mem_cons.2 ⟨tyok18, List.forall_mem_cons.2 ⟨tyok19, List.forall_mem_cons.2 ⟨tyok20, List.forall_mem_cons.2 ⟨tyok21, List.forall_mem_cons.2 ⟨tyok22, List.forall_mem_cons.2 ⟨tyok23, List.forall_mem_cons.2 ⟨tyok24, List.forall_mem_cons.2 ⟨tyok25, List.forall_mem_cons.2 ⟨tyok26, List.forall_mem_cons.2 ⟨tyok27, List.forall_mem_cons.2 ⟨tyok28, List.forall_mem_cons.2 ⟨tyok29, List.forall_mem_cons.2 ⟨tyok30, List.forall_mem_cons.2 ⟨tyok31, List.forall_mem_cons.2 ⟨tyok32, List.forall_mem_cons.2 ⟨tyok33, List.forall_mem_cons.2 ⟨tyok34, List.forall_mem_cons.2 ⟨tyok35, List.forall_mem_cons.2 ⟨tyok36, List.forall_mem_cons.2 ⟨tyok37, List.forall_mem_cons.2 ⟨tyok38, List.forall_mem_cons.2 ⟨tyok39, List.forall_mem_cons.2 ⟨tyok40, List.forall_mem_cons.2 ⟨tyok41, List.forall_mem_cons.2 ⟨tyok42, List.forall_mem_cons.2 ⟨tyok43, List.forall_mem_cons.2 ⟨tyok44, List.forall_mem_cons.2 ⟨tyok45, List.forall_mem_cons.2 ⟨tyok46, List.forall_mem_cons.2 ⟨tyok47, List.forall_mem_cons.2 ⟨tyok48, List.forall_mem_cons.2 ⟨tyok49, List.forall_mem_cons.2 ⟨tyok50, List.forall_mem_cons.2 ⟨tyok51, List.forall_mem_cons.2 ⟨tyok52, List.forall_mem_cons.2 ⟨tyok53, List.forall_mem_cons.2 ⟨tyok54, List.forall_mem_cons.2 ⟨tyok55, List.forall_mem_cons.2 ⟨tyok56, List.forall_mem_cons.2 ⟨tyok57, List.forall_mem_cons.2 ⟨tyok58, List.forall_mem_cons.2 ⟨tyok59, List.forall_mem_cons.2 ⟨tyok60, List.forall_mem_cons.2 ⟨tyok61, List.forall_mem_cons.2 ⟨tyok62, List.forall_mem_cons.2 ⟨tyok63, List.forall_mem_cons.2 ⟨tyok64, List.forall_mem_cons.2 ⟨tyok65, List.forall_mem_cons.2 ⟨tyok66, List.forall_mem_nil _⟩⟩⟩⟩⟩⟩⟩⟩⟩⟩⟩⟩⟩⟩⟩⟩⟩⟩⟩⟩⟩⟩⟩⟩⟩⟩⟩⟩⟩⟩⟩⟩⟩⟩⟩⟩⟩⟩⟩⟩⟩⟩⟩⟩⟩⟩⟩⟩⟩⟩⟩⟩⟩⟩⟩⟩⟩⟩⟩⟩⟩⟩⟩⟩⟩⟩⟩
instance tcProg : TC Tryz.prog := ⟨tyT, tyAll⟩
end Go.Pw
set_option linter.unusedVariables false
set_option linter.unusedSimpArgs false
set_option maxRecDepth 100000
namespace Go.Wl
open Go Go.RowKit Go.Pw Go.Proofs
theorem mixed : Tryz.prog.follows .mixedOrders = true := by kernel_rfl
theorem putb {c c' : Bool} (h : c = c') {t : Nat} {e : List (Nat × PV)} {hh : PH} : (⟨(t, .lit (.bool c)) :: e, hh⟩ : PS) = PS.put ⟨e, hh⟩ (some t) (.lit (.bool c')) := by rw [h]; rfl
/- spec.l1In -/
theorem spec_l1In_spec (n lo hi : Int) : Pw.Spec Tryz.prog 34 [eI n, eI lo, eI hi] (fun res_ => res_ = eT (inB n lo hi)) := by
  refine spec_of (n := 15) Tryz.call34 Tryz.func34 rfl rfl (by simp) rfl rfl fun W Z => ?_
  refine PW.seq ?_
  refine PW.region ?_
  refine PL.run 1 rfl ?_
  refine PL.nil ?_
  refine PW.seq ?_
  refine PW.region ?_
  refine PL.run 4 rfl ?_
  refine PL.split (t := 10) rfl (fun h1 => ?_) (fun h1 => ?_)
  ·
    refine PL.run 5 rfl ?_
    refine PL.nil ?_
    refine PW.ret ?_
    refine RetOk.free rfl rfl ?_; simp_all [inB] <;> (intros; omega)
  ·
    refine PL.run 5 rfl ?_
    refine PL.nil ?_
    refine PW.ret ?_
    refine RetOk.free rfl rfl ?_; simp_all [inB] <;> (intros; omega)
/- impl.in -/
theorem impl_in_spec (n lo hi : Int) : Pw.Spec Tryz.prog 43 [eI n, eI lo, eI hi] (fun res_ => res_ = eT (inB n lo hi)) := by
  refine spec_of (n := 15) Tryz.call43 Tryz.func43 rfl rfl (by simp) rfl rfl fun W Z => ?_
  refine PW.seq ?_
  refine PW.region ?_
  refine PL.run 1 rfl ?_
  refine PL.nil ?_
  refine PW.seq ?_
  refine PW.region ?_
  refine PL.run 4 rfl ?_
  refine PL.split (t := 10) rfl (fun h1 => ?_) (fun h1 => ?_)
  ·
    refine PL.run 5 rfl ?_
    refine PL.nil ?_
    refine PW.ret ?_
    refine RetOk.free rfl rfl ?_; simp_all [inB] <;> (intros; omega)
  ·
    refine PL.run 5 rfl ?_
    refine PL.nil ?_
    refine PW.ret ?_
    refine RetOk.free rfl rfl ?_; simp_all [inB] <;> (intros; omega)
/- spec.l1Bit -/
theorem spec_l1Bit_spec (b : Bool) : Pw.Spec Tryz.prog 135 [eT b] (fun res_ => res_ = eI (bit b)) := by
  refine spec_of (n := 4) Tryz.call135 Tryz.func135 rfl rfl (by simp) rfl rfl fun W Z => ?_
  refine PW.seq ?_
  refine PW.region ?_
  refine PL.run 1 rfl ?_
  refine PL.nil ?_
  refine PW.seq ?_
  refine PW.seq ?_
  refine PW.region ?_
  refine PL.run 1 rfl ?_
  refine PL.nil ?_
  refine PW.cond rfl (fun h1 => ?_) (fun h1 => ?_)
  ·
    refine PW.seq ?_
    refine PW.region ?_
    refine PL.run 1 rfl ?_
    refine PL.nil ?_
    refine PW.ret ?_
    refine RetOk.free rfl rfl ?_; simp_all [bit]
  ·
    refine PW.skip ?_
    refine PW.seq ?_
    refine PW.region ?_
    refine PL.run 1 rfl ?_
    refine PL.nil ?_
    refine PW.ret ?_
    refine RetOk.free rfl rfl ?_; simp_all [bit]
/- spec.l1Sign -/
theorem spec_l1Sign_spec (b : UInt8) : Pw.Spec Tryz.prog 143 [.lit (.int .u8 (b.toNat : Int))] (fun res_ => res_ = eI (sign b.toNat)) := by
  refine spec_of (n := 23) Tryz.call143 Tryz.func143 rfl rfl (by simp) rfl rfl fun W Z => ?_
  have hb : b.toNat < 256 := b.toNat_lt
  refine PW.seq ?_
  refine PW.region ?_
  refine PL.run 1 rfl ?_
  refine PL.nil ?_
  refine PW.seq ?_
  refine PW.block ?_
  refine PW.seq ?_
  refine PW.region ?_
  refine PL.run 3 rfl ?_
  refine PL.split (t := 6) rfl (fun h1 => ?_) (fun h1 => ?_)
  ·
    refine PL.run 4 rfl ?_
    refine PL.nil ?_
    refine PW.cond rfl (fun h2 => ?_) (fun h2 => ?_)
    ·
      refine PW.seq ?_
      refine PW.region ?_
      refine PL.run 4 rfl ?_
      refine PL.nil ?_
      refine PW.ret ?_
      refine RetOk.free rfl rfl (congrArg (fun n => PV.lit (.int .i64 n)) ?_)
      simp only [decide_eq_true_eq, decide_eq_false_iff_not] at *
      try rw [wrap_id (x := (b.toNat : Int)) (by omega) (by omega), wrap_id (by omega) (by omega)]
      unfold sign
      split <;> (try split) <;> omega
    ·
      refine PW.seq ?_
      refine PW.region ?_
      refine PL.run 3 rfl ?_
      refine PL.split (t := 16) rfl (fun h3 => ?_) (fun h3 => ?_)
      ·
        refine PL.run 4 rfl ?_
        refine PL.nil ?_
        refine PW.cond rfl (fun h4 => ?_) (fun h4 => ?_)
        ·
          refine PW.seq ?_
          refine PW.region ?_
          refine PL.run 4 rfl ?_
          refine PL.nil ?_
          refine PW.ret ?_
          refine RetOk.free rfl rfl (congrArg (fun n => PV.lit (.int .i64 n)) ?_)
          simp only [decide_eq_true_eq, decide_eq_false_iff_not] at *
          try rw [wrap_id (x := (b.toNat : Int)) (by omega) (by omega), wrap_id (by omega) (by omega)]
          unfold sign
          split <;> (try split) <;> omega
        ·
          refine PW.skip ?_
          refine PW.seq ?_
          refine PW.region ?_
          refine PL.run 1 rfl ?_
          refine PL.nil ?_
          refine PW.ret ?_
          refine RetOk.free rfl rfl (congrArg (fun n => PV.lit (.int .i64 n)) ?_)
          simp only [decide_eq_true_eq, decide_eq_false_iff_not] at *
          try rw [wrap_id (x := (b.toNat : Int)) (by omega) (by omega), wrap_id (by omega) (by omega)]
          unfold sign
          split <;> (try split) <;> omega
      ·
        refine PL.run 4 rfl ?_
        refine PL.nil ?_
        refine PW.condF rfl ?_
        refine PW.skip ?_
        refine PW.seq ?_
        refine PW.region ?_
        refine PL.run 1 rfl ?_
        refine PL.nil ?_
        refine PW.ret ?_
        refine RetOk.free rfl rfl (congrArg (fun n => PV.lit (.int .i64 n)) ?_)
        simp only [decide_eq_true_eq, decide_eq_false_iff_not] at *
        try rw [wrap_id (x := (b.toNat : Int)) (by omega) (by omega), wrap_id (by omega) (by omega)]
        unfold sign
        split <;> (try split) <;> omega
  ·
    refine PL.run 4 rfl ?_
    refine PL.nil ?_
    refine PW.condF rfl ?_
    refine PW.seq ?_
    refine PW.region ?_
    refine PL.run 3 rfl ?_
    refine PL.split (t := 16) rfl (fun h5 => ?_) (fun h5 => ?_)
    ·
      refine PL.run 4 rfl ?_
      refine PL.nil ?_
      refine PW.cond rfl (fun h6 => ?_) (fun h6 => ?_)
      ·
        refine PW.seq ?_
        refine PW.region ?_
        refine PL.run 4 rfl ?_
        refine PL.nil ?_
        refine PW.ret ?_
        refine RetOk.free rfl rfl (congrArg (fun n => PV.lit (.int .i64 n)) ?_)
        simp only [decide_eq_true_eq, decide_eq_false_iff_not] at *
        try rw [wrap_id (x := (b.toNat : Int)) (by omega) (by omega), wrap_id (by omega) (by omega)]
        unfold sign
        split <;> (try split) <;> omega
      ·
        refine PW.skip ?_
        refine PW.seq ?_
        refine PW.region ?_
        refine PL.run 1 rfl ?_
        refine PL.nil ?_
        refine PW.ret ?_
        refine RetOk.free rfl rfl (congrArg (fun n => PV.lit (.int .i64 n)) ?_)
        simp only [decide_eq_true_eq, decide_eq_false_iff_not] at *
        try rw [wrap_id (x := (b.toNat : Int)) (by omega) (by omega), wrap_id (by omega) (by omega)]
        unfold sign
        split <;> (try split) <;> omega
    ·
      refine PL.run 4 rfl ?_
      refine PL.nil ?_
      refine PW.condF rfl ?_
      refine PW.skip ?_
      refine PW.seq ?_
      refine PW.region ?_
      refine PL.run 1 rfl ?_
      refine PL.nil ?_
      refine PW.ret ?_
      refine RetOk.free rfl rfl (congrArg (fun n => PV.lit (.int .i64 n)) ?_)
      simp only [decide_eq_true_eq, decide_eq_false_iff_not] at *
      try rw [wrap_id (x := (b.toNat : Int)) (by omega) (by omega), wrap_id (by omega) (by omega)]
      unfold sign
      split <;> (try split) <;> omega
end Go.Wl
set_option linter.unusedVariables false
set_option linter.unusedSimpArgs false
set_option maxRecDepth 100000
namespace Go.Wl
open Go Go.RowKit Go.Pw Go.Proofs
theorem take_step {α : Type} {l : List α} {i : Nat} {x : α} (h : l[i]? = some x) : l.take (i + 1) = l.take i ++ [x] := by
  rw [List.take_add_one, h]; rfl
theorem ofN_le (q : List Item) (r : ByteArray) (i : Nat) : ofN (q.take i) r ≤ i := by
  unfold ofN
  exact Nat.le_trans (List.length_filter_le _ _) (by rw [List.length_take]; exact Nat.min_le_left _ _)
theorem ofN_step {q : List Item} {r : ByteArray} {i : Nat} {y : Item} (h : q[i]? = some y) (hi : i ≤ 4611686018427387904) : some (PV.lit (.int .i64 (IntKind.i64.wrap ((ofN (q.take i) r : Nat) + bit (decide (y.route = r)))))) = some (eI (ofN (q.take (i + 1)) r : Nat)) := by
  have h1 := ofN_le q r i
  have h2 : ofN (q.take (i + 1)) r = ofN (q.take i) r + (if y.route = r then 1 else 0) := by
    unfold ofN
    rw [take_step h, List.filter_append, List.length_append]
    by_cases e : y.route = r <;> simp [e]
  rw [h2]
  by_cases e : y.route = r <;> simp only [e, decide_true, decide_false, bit, if_true, if_false, Bool.false_eq_true] <;> rw [wrap_id (by omega) (by omega)] <;> simp [eI]
/- spec.Of -/
theorem spec_Of_spec (q : List Item) (r : ByteArray) (hq : q.length ≤ 1099511627776) : Pw.Spec Tryz.prog 115 [eItems q, eS r] (fun res_ => res_ = eI (ofN q r : Nat)) := by
  refine spec_of (n := 24) Tryz.call115 Tryz.func115 rfl rfl (by simp) rfl rfl fun W Z => ?_
  refine PW.seq ?_
  refine PW.region ?_
  refine PL.run 1 rfl ?_
  refine PL.nil ?_
  refine PW.seq ?_
  refine PW.region ?_
  refine PL.run 1 rfl ?_
  refine PL.nil ?_
  refine PW.seq ?_
  refine PW.seq ?_
  refine PW.region ?_
  refine PL.run 1 rfl ?_
  refine PL.nil ?_
  refine PW.block ?_
  refine PW.loopAt (α := Nat) (fun i => ⟨[(0, eItems q), (1, eS r), (5, eI (ofN (q.take i) r : Nat)), (6, eI (i : Int))], PH.none⟩) (fun i => i ≤ q.length) (fun i => q.length - i) 0 Le.free (Nat.zero_le _) (fun x hx => ?_)
  refine PW.seq ?_
  refine PW.seq ?_
  refine PW.region ?_
  refine PL.run 4 rfl ?_
  refine PL.nil ?_
  refine PW.cond rfl (fun h1 => ?_) (fun h1 => ?_)
  ·
    have hlt : x < q.length := by simpa using h1
    obtain ⟨y, hy⟩ : ∃ y, q[x]? = some y := ⟨_, List.getElem?_eq_getElem hlt⟩
    refine PW.skip ?_
    refine PW.seq ?_
    refine PW.block ?_
    refine PW.region ?_
    refine PL.run 3 rfl ?_
    refine PL.val (OpV.idx rfl rfl rfl (nat_nonneg x) (map_at' hy) rfl rfl rfl rfl) (wantV_ok rfl) rfl ?_
    refine PL.run 4 rfl ?_
    refine PL.call rfl rfl rfl (spec_l1Bit_spec ..) (.cons (.refl _) <| .nil) (fun p hp => by subst hp; rfl) (wantV_ok rfl) rfl (fun p hp => ?_)
    subst hp
    refine PL.run 2 rfl ?_
    refine PL.nil ?_
    refine PW.region ?_
    refine PL.run 3 rfl ?_
    refine PL.nil ?_
    exact ⟨x + 1, Le.free ⟨⟨rfl, rfl⟩, ⟨rfl, rfl⟩, ⟨ofN_step hy (by omega), rfl⟩, ⟨inc_ok (by omega), rfl⟩, trivial⟩, hlt, by omega⟩
  ·
    have hge : q.length ≤ x := by simpa using h1
    refine PW.exit ?_
    refine PW.seq ?_
    refine PW.region ?_
    refine PL.run 2 rfl ?_
    refine PL.nil ?_
    refine PW.ret ?_
    refine RetOk.free rfl rfl ?_
    rw [List.take_of_length_le hge]
def unhexR (s : ByteArray) : PV := .tup [eBs ((unhex s).getD []), eT (unhex s).isSome]
theorem unhexL_two {b : List UInt8} {k : Nat} {x y : UInt8} (hx : b[k]? = some x) (hy : b[k + 1]? = some y) : b.drop k = x :: y :: b.drop (k + 2) := by
  rw [List.drop_eq_getElem_cons (List.getElem?_eq_some_iff.1 hx).1, List.drop_eq_getElem_cons (List.getElem?_eq_some_iff.1 hy).1, (List.getElem?_eq_some_iff.1 hx).2, (List.getElem?_eq_some_iff.1 hy).2]
/-- What is decoded of the first signs, and what the whole is then. -/
def unOk (b l : List UInt8) : Prop := 2 * l.length ≤ b.length ∧ unhexL b = match unhexL (b.drop (2 * l.length)) with
  | some r => some (l ++ r)
  | none => none
theorem unOk_bad {b l : List UInt8} {x y : UInt8} (h : unOk b l) (hx : b[2 * l.length]? = some x) (hy : b[2 * l.length + 1]? = some y) (hs : sign x.toNat < 0 ∨ sign y.toNat < 0) : unhexL b = none := by
  rw [h.2, unhexL_two hx hy]
  simp [unhexL, hs]
theorem unOk_step {b l : List UInt8} {x y : UInt8} (h : unOk b l) (hx : b[2 * l.length]? = some x) (hy : b[2 * l.length + 1]? = some y) (h1 : ¬ sign x.toNat < 0) (h2 : ¬ sign y.toNat < 0) : unOk b (l ++ [UInt8.ofNat (16 * sign x.toNat + sign y.toNat).toNat]) := by
  have hl := (List.getElem?_eq_some_iff.1 hy).1
  refine ⟨by simp; omega, ?_⟩
  rw [h.2, unhexL_two hx hy]
  have e : 2 * (l ++ [UInt8.ofNat (16 * sign x.toNat + sign y.toNat).toNat]).length = 2 * l.length + 2 := by simp; omega
  rw [e]
  simp only [unhexL, h1, h2, or_self, if_false]
  cases unhexL (b.drop (2 * l.length + 2)) <;> simp
theorem unOk_end {b l : List UInt8} (h : unOk b l) (he : b.length ≤ 2 * l.length + 1) : unhexL b = if b.length = 2 * l.length then some l else none := by
  rw [h.2]
  by_cases e : b.length = 2 * l.length
  · rw [if_pos e, List.drop_eq_nil_of_le (by omega)]
    simp [unhexL]
  · rw [if_neg e]
    have h1 : (b.drop (2 * l.length)).length = 1 := by rw [List.length_drop]; have := h.1; omega
    match hd : b.drop (2 * l.length), h1 with
    | [x], _ => simp [unhexL]
theorem sign_le (b : UInt8) : sign b.toNat ≤ 15 ∧ -1 ≤ sign b.toNat := by
  unfold sign
  split
  · omega
  · split <;> omega
theorem nib_eb {l : List UInt8} {a b : Int} (ha : 0 ≤ a ∧ a ≤ 15) (hb : 0 ≤ b ∧ b ≤ 15) : l.map eb ++ [[PV.lit (.int .u8 (IntKind.u8.wrap (IntKind.i64.wrap (IntKind.i64.wrap (16 * a) + b))))]] = (l ++ [UInt8.ofNat (16 * a + b).toNat]).map eb := by
  rw [wrap_id (x := 16 * a) (by omega) (by omega), wrap_id (by omega) (by omega)]
  have h1 : IntKind.u8.wrap (16 * a + b) = 16 * a + b := by
    have hb : IntKind.u8.bits = 8 := rfl
    have hs : IntKind.u8.signed = false := rfl
    simp [IntKind.wrap, hb, hs]
    omega
  rw [h1, List.map_append]
  congr 1
  simp only [List.map_cons, List.map_nil, eb]
  congr 5
  rw [UInt8.toNat_ofNat', Nat.mod_eq_of_lt (by omega)]
  omega
/- spec.Unhex -/
theorem spec_Unhex_spec (s : ByteArray) (hs : s.size ≤ 1099511627776) : Pw.Spec Tryz.prog 118 [eS s] (fun res_ => res_ = unhexR s) := by
  refine spec_of (n := 46) Tryz.call118 Tryz.func118 rfl rfl (by simp) rfl rfl fun W Z => ?_
  have hsz : s.data.toList.length = s.size := by rw [Array.length_toList]; rfl
  refine PW.seq ?_
  refine PW.region ?_
  refine PL.run 2 rfl ?_
  refine PL.nil ?_
  refine PW.seq ?_
  refine PW.region ?_
  refine PL.run 2 rfl ?_
  refine PL.nil ?_
  refine PW.seq ?_
  refine PW.seq ?_
  refine PW.region ?_
  refine PL.run 1 rfl ?_
  refine PL.nil ?_
  refine PW.block ?_
  refine PW.loopAt (α := List UInt8) (fun l => ⟨[(4, .sl 1 (l.map eb) (some 8)), (0, eS s), (5, eI ((2 * l.length : Nat) : Int))], ⟨[], [(8, (1, (l.map eb).length))]⟩⟩) (fun l => unOk s.data.toList l) (fun l => s.size - 2 * l.length) [] (Le.row ⟨⟨rfl, rfl⟩, ⟨rfl, rfl⟩, trivial⟩ rfl rfl rfl) ⟨Nat.zero_le _, by simp; cases unhexL s.data.toList <;> rfl⟩ (fun l hl => ?_)
  refine PW.seq ?_
  refine PW.seq ?_
  refine PW.region ?_
  refine PL.run 5 rfl ?_
  refine PL.nil ?_
  refine PW.cond rfl (fun h1 => ?_) (fun h1 => ?_)
  ·
    have hlt : 2 * l.length + 1 < s.size := by
     have := hl.1
     simp only [decide_eq_true_eq] at h1
     rw [wrap_id (by omega) (by omega)] at h1
     omega
    obtain ⟨x, hx⟩ : ∃ x, s.data.toList[2 * l.length]? = some x := ⟨_, List.getElem?_eq_getElem (by omega)⟩
    obtain ⟨y, hy⟩ : ∃ x, s.data.toList[2 * l.length + 1]? = some x := ⟨_, List.getElem?_eq_getElem (by omega)⟩
    have e1 : IntKind.i64.wrap (((2 * l.length : Nat) : Int) + 1) = ((2 * l.length + 1 : Nat) : Int) := by rw [wrap_id (by omega) (by omega)]; rfl
    refine PW.skip ?_
    refine PW.seq ?_
    refine PW.block ?_
    refine PW.seq ?_
    refine PW.drawn ((some 16, _) :: (some 17, _) :: (some 18, _) :: (some 19, _) :: (some 20, _) :: (some 21, _) :: (some 22, _) :: (some 23, _) :: (some 24, _) :: (some 6, _) :: (some 7, _) :: []) (0 :: 0 :: 3 :: 7 :: 0 :: 0 :: 32 :: 112 :: 255 :: 511 :: 1023 :: []) (fun _ => _) mixed rfl rfl rfl rfl rfl
      (.cons rfl (fun ρ => PL.run 1 rfl (PL.nil rfl)) <|
      .cons rfl (fun ρ => PL.run 1 rfl (PL.nil rfl)) <|
      .cons rfl (fun ρ => PL.val (OpV.idxS rfl rfl rfl (b := x) (nat_nonneg _) hx rfl rfl) (wantV_ok rfl) rfl (PL.nil rfl)) <|
      .cons rfl (fun ρ => PL.call rfl rfl rfl (spec_l1Sign_spec ..) (.cons (.refl _) <| .nil) (fun p hp => by subst hp; rfl) (wantV_ok rfl) rfl (fun p hp => by subst hp; exact PL.nil rfl)) <|
      .cons rfl (fun ρ => PL.run 1 rfl (PL.nil rfl)) <|
      .cons rfl (fun ρ => PL.run 1 rfl (PL.nil rfl)) <|
      .cons rfl (fun ρ => PL.run 1 rfl (PL.nil rfl)) <|
      .cons rfl (fun ρ => PL.val (OpV.idxS rfl rfl rfl (b := y) (by rw [e1]; exact nat_nonneg _) (by rw [e1]; exact hy) rfl rfl) (wantV_ok rfl) rfl (PL.nil rfl)) <|
      .cons rfl (fun ρ => PL.call rfl rfl rfl (spec_l1Sign_spec ..) (.cons (.refl _) <| .nil) (fun p hp => by subst hp; rfl) (wantV_ok rfl) rfl (fun p hp => by subst hp; exact PL.nil rfl)) <|
      .cons rfl (fun ρ => PL.run 1 rfl (PL.nil rfl)) <|
      .cons rfl (fun ρ => PL.run 1 rfl (PL.nil rfl)) <|
      .nil _) ?_
    refine PW.seq ?_
    refine PW.seq ?_
    refine PW.region ?_
    refine PL.run 3 rfl ?_
    refine PL.split (t := 27) rfl (fun h2 => ?_) (fun h2 => ?_)
    ·
      refine PL.run 3 rfl ?_
      refine PL.nil ?_
      refine PW.condT rfl ?_
      refine PW.seq ?_
      refine PW.region ?_
      refine PL.run 3 rfl ?_
      refine PL.nil ?_
      refine PW.ret ?_
      refine RetOk.of rfl (.tup (.cons (.leaf (.ro _ _ _)) (.cons (.leaf (.same _ rfl)) .nil))) (by simp) (by simp) ?_
      simp only [decide_eq_true_eq] at h2
      simp [unhexR, unhex, unOk_bad hl hx hy (.inl h2), eBs]
    ·
      refine PL.run 3 rfl ?_
      refine PL.nil ?_
      refine PW.cond rfl (fun h3 => ?_) (fun h3 => ?_)
      ·
        refine PW.seq ?_
        refine PW.region ?_
        refine PL.run 3 rfl ?_
        refine PL.nil ?_
        refine PW.ret ?_
        refine RetOk.of rfl (.tup (.cons (.leaf (.ro _ _ _)) (.cons (.leaf (.same _ rfl)) .nil))) (by simp) (by simp) ?_
        simp only [decide_eq_true_eq] at h3
        simp [unhexR, unhex, unOk_bad hl hx hy (.inr h3), eBs]
      ·
        refine PW.skip ?_
        refine PW.region ?_
        refine PL.run 7 rfl ?_
        refine PL.app rfl rfl rfl rfl rfl rfl rfl rfl rfl rfl (by simp <;> omega) (by simp <;> omega) (wantV_ok rfl) rfl ?_
        refine PL.run 1 rfl ?_
        refine PL.nil ?_
        refine PW.region ?_
        refine PL.run 3 rfl ?_
        refine PL.nil ?_
        simp only [decide_eq_false_iff_not] at h2 h3
        have g1 := sign_le x
        have g2 := sign_le y
        refine ⟨l ++ [UInt8.ofNat (16 * sign x.toNat + sign y.toNat).toNat], Le.row ⟨⟨rfl, rfl⟩, ⟨?_, rfl⟩, trivial⟩ rfl rfl (nib_eb (by omega) (by omega)), unOk_step hl hx hy h2 h3, by simp; omega⟩
        refine Eq.trans (b := some (eI ((2 * l.length + 2 : Nat) : Int))) ?_ (by simp; omega)
        exact congrArg (fun n => some (PV.lit (.int .i64 n))) (by rw [wrap_id (by omega) (by omega)]; rfl)
  ·
    have hge : s.size ≤ 2 * l.length + 1 := by
     have := hl.1
     simp only [decide_eq_false_iff_not] at h1
     rw [wrap_id (by omega) (by omega)] at h1
     omega
    refine PW.exit ?_
    refine PW.seq ?_
    refine PW.seq ?_
    refine PW.region ?_
    refine PL.run 2 rfl ?_
    refine PL.val (OpV.rem rfl rfl rfl (by decide)) (wantV_ok rfl) rfl ?_
    refine PL.run 1 rfl ?_
    refine PL.nil ?_
    refine PW.cond rfl (fun h4 => ?_) (fun h4 => ?_)
    ·
      refine PW.seq ?_
      refine PW.region ?_
      refine PL.run 3 rfl ?_
      refine PL.nil ?_
      refine PW.ret ?_
      refine RetOk.of rfl (.tup (.cons (.leaf (.ro _ _ _)) (.cons (.leaf (.same _ rfl)) .nil))) (by simp) (by simp) ?_
      have hfin := unOk_end hl (by omega)
      simp only [Bool.not_eq_true', decide_eq_false_iff_not] at h4
      rw [Int.tmod_eq_emod_of_nonneg (by omega)] at h4
      rw [if_neg (by omega)] at hfin
      simp [unhexR, unhex, hfin, eBs]
    ·
      refine PW.skip ?_
      refine PW.seq ?_
      refine PW.region ?_
      refine PL.run 3 rfl ?_
      refine PL.nil ?_
      refine PW.ret ?_
      refine RetOk.of rfl (.tup (.cons (.leaf (.ro _ _ _)) (.cons (.leaf (.same _ rfl)) .nil))) (by simp) (by simp) ?_
      have hfin := unOk_end hl (by omega)
      simp only [Bool.not_eq_false', decide_eq_true_eq] at h4
      rw [Int.tmod_eq_emod_of_nonneg (by omega)] at h4
      rw [if_pos (by have := hl.1; omega)] at hfin
      simp [unhexR, unhex, hfin, eBs]
/- spec.l13Route -/
theorem spec_l13Route_spec (s : ByteArray) (hs : s.size ≤ 1099511627776) : Pw.Spec Tryz.prog 84 [eS s] (fun res_ => res_ = eT (isRoute s)) := by
  refine spec_of (n := 16) Tryz.call84 Tryz.func84 rfl rfl (by simp) rfl rfl fun W Z => ?_
  refine PW.seq ?_
  refine PW.region ?_
  refine PL.run 1 rfl ?_
  refine PL.nil ?_
  refine PW.seq ?_
  refine PW.region ?_
  refine PL.run 1 rfl ?_
  refine PL.call rfl rfl rfl (spec_Unhex_spec s hs) (.cons (.refl _) <| .nil) (fun p hp => by subst hp; rfl) (wantV_ok rfl) rfl (fun p hp => ?_)
  subst hp
  refine PL.run 5 rfl ?_
  refine PL.nil ?_
  refine PW.seq ?_
  refine PW.region ?_
  refine PL.run 2 rfl ?_
  refine PL.split (t := 11) rfl (fun h1 => ?_) (fun h1 => ?_)
  ·
    refine PL.run 5 rfl ?_
    refine PL.nil ?_
    refine PW.ret ?_
    refine RetOk.free rfl rfl ?_
    rcases hu : unhex s with _ | l <;> simp_all [isRoute] <;> omega
  ·
    refine PL.run 5 rfl ?_
    refine PL.nil ?_
    refine PW.ret ?_
    refine RetOk.free rfl rfl ?_
    rcases hu : unhex s with _ | l <;> simp_all [isRoute] <;> omega
/- spec.ItemOk -/
theorem spec_ItemOk_spec (x : Item) (hs : x.route.size ≤ 1099511627776) : Pw.Spec Tryz.prog 38 [.agg (eItem x)] (fun res_ => res_ = eT (itemOk x)) := by
  refine spec_of (n := 22) Tryz.call38 Tryz.func38 rfl rfl (by simp) rfl rfl fun W Z => ?_
  refine PW.seq ?_
  refine PW.region ?_
  refine PL.run 2 rfl ?_
  refine PL.nil ?_
  refine PW.seq ?_
  refine PW.region ?_
  refine PL.run 2 rfl ?_
  refine PL.call rfl rfl rfl (spec_l13Route_spec x.route hs) (.cons (.refl _) <| .nil) (fun p hp => by subst hp; rfl) (wantV_ok rfl) rfl (fun p hp => ?_)
  subst hp
  refine PL.run 1 rfl ?_
  refine PL.split (t := 6) rfl (fun h1 => ?_) (fun h1 => ?_)
  ·
    refine PL.run 2 rfl ?_
    refine PL.call rfl rfl rfl (spec_l1In_spec x.topic 0 9) (.cons (.refl _) <| .cons (.refl _) <| .cons (.refl _) <| .nil) (fun p hp => by subst hp; rfl) (wantV_ok rfl) rfl (fun p hp => ?_)
    subst hp
    refine PL.run 2 rfl ?_
    refine PL.split (t := 11) rfl (fun h2 => ?_) (fun h2 => ?_)
    ·
      refine PL.run 2 rfl ?_
      refine PL.call rfl rfl rfl (spec_l1In_spec x.due 0 100000) (.cons (.refl _) <| .cons (.refl _) <| .cons (.refl _) <| .nil) (fun p hp => by subst hp; rfl) (wantV_ok rfl) rfl (fun p hp => ?_)
      subst hp
      refine PL.run 2 rfl ?_
      refine PL.split (t := 16) rfl (fun h3 => ?_) (fun h3 => ?_)
      ·
        refine PL.run 6 rfl ?_
        refine PL.nil ?_
        refine PW.ret ?_
        refine RetOk.free rfl rfl ?_
        simp_all [itemOk] <;> omega
      ·
        refine PL.run 6 rfl ?_
        refine PL.nil ?_
        refine PW.ret ?_
        refine RetOk.free rfl rfl ?_
        simp_all [itemOk] <;> omega
    ·
      refine PL.run 11 rfl ?_
      refine PL.nil ?_
      refine PW.ret ?_
      refine RetOk.free rfl rfl ?_
      simp_all [itemOk] <;> omega
  ·
    refine PL.run 16 rfl ?_
    refine PL.nil ?_
    refine PW.ret ?_
    refine RetOk.free rfl rfl ?_
    simp_all [itemOk] <;> omega
/- spec.l13Item -/
theorem spec_l13Item_spec (x : Item) (h : x.bytes.length ≤ 16777216) : Pw.Spec Tryz.prog 160 [.agg (eItem x)] (fun res_ => res_ = .agg (eItem x)) := by
  refine spec_of (n := 9) Tryz.call160 Tryz.func160 rfl rfl (by simp) rfl rfl fun W Z => ?_
  refine PW.seq ?_
  refine PW.region ?_
  refine PL.run 2 rfl ?_
  refine PL.nil ?_
  refine PW.seq ?_
  refine PW.region ?_
  refine PL.run 3 rfl ?_
  refine PL.app rfl rfl rfl rfl rfl rfl rfl rfl rfl rfl (by simp <;> omega) (by simp <;> omega) (wantV_ok rfl) rfl ?_
  refine PL.run 2 rfl ?_
  refine PL.nil ?_
  refine PW.seq ?_
  refine PW.region ?_
  refine PL.run 2 rfl ?_
  refine PL.nil ?_
  refine PW.ret ?_
  refine RetOk.of rfl (.one (.agg (.cons (.same _ rfl) (.cons (.same _ rfl) (.cons (.same _ rfl) (.cons (.ro _ _ _) .nil)))))) (by simp) (by simp) ?_
  simp [eItem, eBs]
end Go.Wl
set_option linter.unusedVariables false
set_option linter.unusedSimpArgs false
set_option maxRecDepth 100000
namespace Go.Wl
open Go Go.RowKit Go.Pw Go.Proofs
def clash (x y : Item) : Bool := decide (y.route = x.route) && (decide (y.topic = x.topic) && decide (0 < x.topic))
def good (q : List Item) (i : Nat) : Bool := match q[i]? with
  | some x => itemOk x && (decide (ofN q x.route ≤ 4) && (q.take i).all fun y => !clash x y)
  | none => true
def queueOk (q : List Item) : Bool := decide (q.length ≤ 10) && (List.range q.length).all (good q)
theorem good_bad1 {q : List Item} {i : Nat} {x : Item} (hx : q[i]? = some x) (h : itemOk x = false) : good q i = false := by simp [good, hx, h]
theorem good_bad2 {q : List Item} {i : Nat} {x : Item} (hx : q[i]? = some x) (h : ¬ ofN q x.route ≤ 4) : good q i = false := by simp [good, hx, h]
theorem good_bad3 {q : List Item} {i k : Nat} {x y : Item} (hx : q[i]? = some x) (hk : k < i) (hy : q[k]? = some y) (hc : clash x y = true) : good q i = false := by
  have hm : y ∈ q.take i := List.mem_of_getElem? (i := k) (by rw [List.getElem?_take_of_lt hk]; exact hy)
  have : ((q.take i).all fun y => !clash x y) = false := by
    rw [List.all_eq_false]
    exact ⟨y, hm, by simp [hc]⟩
  simp [good, hx, this]
theorem good_ok {q : List Item} {i : Nat} {x : Item} (hx : q[i]? = some x) (h1 : itemOk x = true) (h2 : ofN q x.route ≤ 4) (h3 : ((q.take i).all fun y => !clash x y) = true) : good q i = true := by simp [good, hx, h1, h2, h3]
theorem range_all {p : Nat → Bool} {i : Nat} (h : (List.range i).all p = true) (hi : p i = true) : (List.range (i + 1)).all p = true := by
  rw [List.range_succ, List.all_append, h]; simp [hi]
theorem queue_bad {q : List Item} {i : Nat} (h : i < q.length) (hg : good q i = false) : queueOk q = false := by
  have : (List.range q.length).all (good q) = false := by
    rw [List.all_eq_false]
    exact ⟨i, List.mem_range.2 h, by simp [hg]⟩
  simp [queueOk, this]
theorem take_all {p : Item → Bool} {q : List Item} {k : Nat} {y : Item} (h : (q.take k).all p = true) (hy : q[k]? = some y) (hp : p y = true) : (q.take (k + 1)).all p = true := by
  rw [take_step hy, List.all_append, h]; simp [hp]
/-- Small enough: texts of routes, and the queue's length. -/
structure Sm (q : List Item) : Prop where
  len : q.length ≤ 16777216
  route : ∀ (i : Nat) (x : Item), q[i]? = some x → x.route.size ≤ 1099511627776
  bytes : ∀ (i : Nat) (x : Item), q[i]? = some x → x.bytes.length ≤ 16777216
/- spec.QueueOk -/
theorem spec_QueueOk_spec (q : List Item) (hq : Sm q) : Pw.Spec Tryz.prog 81 [eItems q] (fun res_ => res_ = eT (queueOk q)) := by
  refine spec_of (n := 67) Tryz.call81 Tryz.func81 rfl rfl (by simp) rfl rfl fun W Z => ?_
  have hlen := hq.len
  refine PW.seq ?_
  refine PW.region ?_
  refine PL.run 1 rfl ?_
  refine PL.nil ?_
  refine PW.seq ?_
  refine PW.seq ?_
  refine PW.region ?_
  refine PL.run 1 rfl ?_
  refine PL.nil ?_
  refine PW.block ?_
  refine PW.loopAt (α := Nat) (fun i => ⟨[(0, eItems q), (3, eI (i : Int))], PH.none⟩) (fun i => i ≤ q.length ∧ (List.range i).all (good q) = true) (fun i => q.length - i) 0 Le.free ⟨Nat.zero_le _, rfl⟩ (fun i hi => ?_)
  refine PW.seq ?_
  refine PW.seq ?_
  refine PW.region ?_
  refine PL.run 4 rfl ?_
  refine PL.nil ?_
  refine PW.cond rfl (fun h1 => ?_) (fun h1 => ?_)
  ·
    have hlt : i < q.length := by simpa using h1
    obtain ⟨x, hx⟩ : ∃ y, q[i]? = some y := ⟨_, List.getElem?_eq_getElem hlt⟩
    refine PW.skip ?_
    refine PW.seq ?_
    refine PW.block ?_
    refine PW.seq ?_
    refine PW.seq ?_
    refine PW.region ?_
    refine PL.run 2 rfl ?_
    refine PL.val (OpV.idx rfl rfl rfl (nat_nonneg i) (map_at' hx) rfl rfl rfl rfl) (wantV_ok rfl) rfl ?_
    refine PL.run 1 rfl ?_
    refine PL.call rfl rfl rfl (spec_ItemOk_spec x (hq.route i x hx)) (.cons (.refl _) <| .nil) (fun p hp => by subst hp; rfl) (wantV_ok rfl) rfl (fun p hp => ?_)
    subst hp
    refine PL.run 2 rfl ?_
    refine PL.split (t := 17) rfl (fun h2 => ?_) (fun h2 => ?_)
    ·
      refine PL.run 9 rfl ?_
      refine PL.nil ?_
      refine PW.condT rfl ?_
      refine PW.seq ?_
      refine PW.region ?_
      refine PL.run 1 rfl ?_
      refine PL.nil ?_
      refine PW.ret ?_
      refine RetOk.free rfl rfl ?_
      rw [queue_bad hlt (good_bad1 hx (by simpa using h2))]
    ·
      refine PL.run 3 rfl ?_
      refine PL.val (OpV.idx rfl rfl rfl (nat_nonneg i) (map_at' hx) rfl rfl rfl rfl) (wantV_ok rfl) rfl ?_
      refine PL.run 2 rfl ?_
      refine PL.call rfl rfl rfl (spec_Of_spec q x.route (by omega)) (.cons (.refl _) <| .cons (.refl _) <| .nil) (fun p hp => by subst hp; rfl) (wantV_ok rfl) rfl (fun p hp => ?_)
      subst hp
      refine PL.run 2 rfl ?_
      refine PL.nil ?_
      refine PW.cond rfl (fun h3 => ?_) (fun h3 => ?_)
      ·
        refine PW.seq ?_
        refine PW.region ?_
        refine PL.run 1 rfl ?_
        refine PL.nil ?_
        refine PW.ret ?_
        refine RetOk.free rfl rfl ?_
        rw [queue_bad hlt (good_bad2 hx (by simp at h3; omega))]
      ·
        refine PW.skip ?_
        refine PW.seq ?_
        refine PW.region ?_
        refine PL.run 1 rfl ?_
        refine PL.nil ?_
        refine PW.block ?_
        refine PW.loopAt (α := Nat) (fun k => ⟨[(0, eItems q), (3, eI (i : Int)), (4, eI (k : Int))], PH.none⟩) (fun k => k ≤ i ∧ ((q.take k).all fun y => !clash x y) = true) (fun k => i - k) 0 Le.free ⟨Nat.zero_le _, rfl⟩ (fun k hk => ?_)
        refine PW.seq ?_
        refine PW.seq ?_
        refine PW.region ?_
        refine PL.run 3 rfl ?_
        refine PL.nil ?_
        refine PW.cond rfl (fun h4 => ?_) (fun h4 => ?_)
        ·
          have hlt2 : k < i := by simpa using h4
          obtain ⟨y, hy⟩ : ∃ y, q[k]? = some y := ⟨_, List.getElem?_eq_getElem (by omega)⟩
          refine PW.skip ?_
          refine PW.seq ?_
          refine PW.block ?_
          refine PW.seq ?_
          rcases Bool.eq_false_or_eq_true (decide (y.route = x.route)) with h5 | h5
          ·
            rcases Bool.eq_false_or_eq_true (decide (y.topic = x.topic)) with h6 | h6
            ·
              refine PW.drawn ((some 32, _) :: (some 33, _) :: (some 34, _) :: (some 35, _) :: (some 36, _) :: (some 37, _) :: (some 38, _) :: (some 39, _) :: (some 40, _) :: (some 41, _) :: (some 42, _) :: (some 43, .lit (.bool true)) :: (some 44, _) :: (some 45, _) :: (some 46, _) :: (some 47, _) :: (some 48, _) :: (some 49, _) :: (some 50, _) :: (some 51, _) :: (some 52, _) :: (some 53, _) :: (some 54, _) :: (some 55, _) :: (some 56, .lit (.bool true)) :: (some 57, _) :: (some 58, _) :: (some 59, _) :: (some 60, _) :: (some 61, _) :: (some 62, _) :: (some 63, _) :: []) (0 :: 0 :: 3 :: 7 :: 15 :: 0 :: 0 :: 96 :: 224 :: 480 :: 1023 :: 2047 :: 4095 :: 4095 :: 16383 :: 32767 :: 65535 :: 4095 :: 4095 :: 397311 :: 921599 :: 1970175 :: 4194303 :: 8388607 :: 16777215 :: 33554431 :: 33554431 :: 134217727 :: 268435455 :: 536870911 :: 1073741823 :: 2147483647 :: []) (fun _ => _) mixed rfl rfl rfl rfl rfl
                (.cons rfl (fun ρ => PL.run 1 rfl (PL.nil rfl)) <|
                .cons rfl (fun ρ => PL.run 1 rfl (PL.nil rfl)) <|
                .cons rfl (fun ρ => PL.val (OpV.idx rfl rfl rfl (nat_nonneg k) (map_at' hy) rfl rfl rfl rfl) (wantV_ok rfl) rfl (PL.nil rfl)) <|
                .cons rfl (fun ρ => PL.run 1 rfl (PL.nil rfl)) <|
                .cons rfl (fun ρ => PL.run 1 rfl (PL.nil rfl)) <|
                .cons rfl (fun ρ => PL.run 1 rfl (PL.nil rfl)) <|
                .cons rfl (fun ρ => PL.run 1 rfl (PL.nil rfl)) <|
                .cons rfl (fun ρ => PL.val (OpV.idx rfl rfl rfl (nat_nonneg i) (map_at' hx) rfl rfl rfl rfl) (wantV_ok rfl) rfl (PL.nil rfl)) <|
                .cons rfl (fun ρ => PL.run 1 rfl (PL.nil rfl)) <|
                .cons rfl (fun ρ => PL.run 1 rfl (PL.nil rfl)) <|
                .cons rfl (fun ρ => PL.run 1 rfl (PL.nil rfl)) <|
                .cons rfl (fun ρ => PL.run 1 rfl (PL.nil (putb h5))) <|
                .cons rfl (fun ρ => PL.run 1 rfl (PL.nil rfl)) <|
                .cons rfl (fun ρ => PL.run 1 rfl (PL.nil rfl)) <|
                .cons rfl (fun ρ => PL.val (OpV.idx rfl rfl rfl (nat_nonneg k) (map_at' hy) rfl rfl rfl rfl) (wantV_ok rfl) rfl (PL.nil rfl)) <|
                .cons rfl (fun ρ => PL.run 1 rfl (PL.nil rfl)) <|
                .cons rfl (fun ρ => PL.run 1 rfl (PL.nil rfl)) <|
                .cons rfl (fun ρ => PL.run 1 rfl (PL.nil rfl)) <|
                .cons rfl (fun ρ => PL.run 1 rfl (PL.nil rfl)) <|
                .cons rfl (fun ρ => PL.val (OpV.idx rfl rfl rfl (nat_nonneg i) (map_at' hx) rfl rfl rfl rfl) (wantV_ok rfl) rfl (PL.nil rfl)) <|
                .cons rfl (fun ρ => PL.run 1 rfl (PL.nil rfl)) <|
                .cons rfl (fun ρ => PL.run 1 rfl (PL.nil rfl)) <|
                .cons rfl (fun ρ => PL.run 1 rfl (PL.nil rfl)) <|
                .cons rfl (fun ρ => PL.run 1 rfl (PL.nil rfl)) <|
                .cons rfl (fun ρ => PL.run 1 rfl (PL.nil (putb h6))) <|
                .cons rfl (fun ρ => PL.run 1 rfl (PL.nil rfl)) <|
                .cons rfl (fun ρ => PL.run 1 rfl (PL.nil rfl)) <|
                .cons rfl (fun ρ => PL.val (OpV.idx rfl rfl rfl (nat_nonneg i) (map_at' hx) rfl rfl rfl rfl) (wantV_ok rfl) rfl (PL.nil rfl)) <|
                .cons rfl (fun ρ => PL.run 1 rfl (PL.nil rfl)) <|
                .cons rfl (fun ρ => PL.run 1 rfl (PL.nil rfl)) <|
                .cons rfl (fun ρ => PL.run 1 rfl (PL.nil rfl)) <|
                .cons rfl (fun ρ => PL.run 1 rfl (PL.nil rfl)) <|
                .nil _) ?_
              refine PW.cond rfl (fun h7 => ?_) (fun h7 => ?_)
              ·
                refine PW.seq ?_
                refine PW.region ?_
                refine PL.run 1 rfl ?_
                refine PL.nil ?_
                refine PW.ret ?_
                refine RetOk.free rfl rfl ?_
                rw [queue_bad hlt (good_bad3 hx hlt2 hy (by simp_all [clash]))]
              ·
                refine PW.skip ?_
                refine PW.region ?_
                refine PL.run 3 rfl ?_
                refine PL.nil ?_
                exact ⟨k + 1, Le.free ⟨⟨rfl, rfl⟩, ⟨rfl, rfl⟩, ⟨inc_ok (by omega), rfl⟩, trivial⟩, ⟨hlt2, take_all hk.2 hy (by simp_all [clash])⟩, by omega⟩
            ·
              refine PW.drawn ((some 32, _) :: (some 33, _) :: (some 34, _) :: (some 35, _) :: (some 36, _) :: (some 37, _) :: (some 38, _) :: (some 39, _) :: (some 40, _) :: (some 41, _) :: (some 42, _) :: (some 43, .lit (.bool true)) :: (some 44, _) :: (some 45, _) :: (some 46, _) :: (some 47, _) :: (some 48, _) :: (some 49, _) :: (some 50, _) :: (some 51, _) :: (some 52, _) :: (some 53, _) :: (some 54, _) :: (some 55, _) :: (some 56, .lit (.bool false)) :: (some 57, _) :: (some 58, _) :: (some 59, _) :: (some 60, _) :: (some 61, _) :: (some 62, _) :: (some 63, _) :: []) (0 :: 0 :: 3 :: 7 :: 15 :: 0 :: 0 :: 96 :: 224 :: 480 :: 1023 :: 2047 :: 4095 :: 4095 :: 16383 :: 32767 :: 65535 :: 4095 :: 4095 :: 397311 :: 921599 :: 1970175 :: 4194303 :: 8388607 :: 16777215 :: 33554431 :: 33554431 :: 134217727 :: 268435455 :: 536870911 :: 1073741823 :: 2147483647 :: []) (fun _ => _) mixed rfl rfl rfl rfl rfl
                (.cons rfl (fun ρ => PL.run 1 rfl (PL.nil rfl)) <|
                .cons rfl (fun ρ => PL.run 1 rfl (PL.nil rfl)) <|
                .cons rfl (fun ρ => PL.val (OpV.idx rfl rfl rfl (nat_nonneg k) (map_at' hy) rfl rfl rfl rfl) (wantV_ok rfl) rfl (PL.nil rfl)) <|
                .cons rfl (fun ρ => PL.run 1 rfl (PL.nil rfl)) <|
                .cons rfl (fun ρ => PL.run 1 rfl (PL.nil rfl)) <|
                .cons rfl (fun ρ => PL.run 1 rfl (PL.nil rfl)) <|
                .cons rfl (fun ρ => PL.run 1 rfl (PL.nil rfl)) <|
                .cons rfl (fun ρ => PL.val (OpV.idx rfl rfl rfl (nat_nonneg i) (map_at' hx) rfl rfl rfl rfl) (wantV_ok rfl) rfl (PL.nil rfl)) <|
                .cons rfl (fun ρ => PL.run 1 rfl (PL.nil rfl)) <|
                .cons rfl (fun ρ => PL.run 1 rfl (PL.nil rfl)) <|
                .cons rfl (fun ρ => PL.run 1 rfl (PL.nil rfl)) <|
                .cons rfl (fun ρ => PL.run 1 rfl (PL.nil (putb h5))) <|
                .cons rfl (fun ρ => PL.run 1 rfl (PL.nil rfl)) <|
                .cons rfl (fun ρ => PL.run 1 rfl (PL.nil rfl)) <|
                .cons rfl (fun ρ => PL.val (OpV.idx rfl rfl rfl (nat_nonneg k) (map_at' hy) rfl rfl rfl rfl) (wantV_ok rfl) rfl (PL.nil rfl)) <|
                .cons rfl (fun ρ => PL.run 1 rfl (PL.nil rfl)) <|
                .cons rfl (fun ρ => PL.run 1 rfl (PL.nil rfl)) <|
                .cons rfl (fun ρ => PL.run 1 rfl (PL.nil rfl)) <|
                .cons rfl (fun ρ => PL.run 1 rfl (PL.nil rfl)) <|
                .cons rfl (fun ρ => PL.val (OpV.idx rfl rfl rfl (nat_nonneg i) (map_at' hx) rfl rfl rfl rfl) (wantV_ok rfl) rfl (PL.nil rfl)) <|
                .cons rfl (fun ρ => PL.run 1 rfl (PL.nil rfl)) <|
                .cons rfl (fun ρ => PL.run 1 rfl (PL.nil rfl)) <|
                .cons rfl (fun ρ => PL.run 1 rfl (PL.nil rfl)) <|
                .cons rfl (fun ρ => PL.run 1 rfl (PL.nil rfl)) <|
                .cons rfl (fun ρ => PL.run 1 rfl (PL.nil (putb h6))) <|
                .cons rfl (fun ρ => PL.run 1 rfl (PL.nil rfl)) <|
                .cons rfl (fun ρ => PL.run 1 rfl (PL.nil rfl)) <|
                .cons rfl (fun ρ => PL.run 1 rfl (PL.nil rfl)) <|
                .cons rfl (fun ρ => PL.run 1 rfl (PL.nil rfl)) <|
                .cons rfl (fun ρ => PL.run 1 rfl (PL.nil rfl)) <|
                .cons rfl (fun ρ => PL.run 1 rfl (PL.nil rfl)) <|
                .cons rfl (fun ρ => PL.run 1 rfl (PL.nil rfl)) <|
                .nil _) ?_
              refine PW.condF rfl ?_
              refine PW.skip ?_
              refine PW.region ?_
              refine PL.run 3 rfl ?_
              refine PL.nil ?_
              exact ⟨k + 1, Le.free ⟨⟨rfl, rfl⟩, ⟨rfl, rfl⟩, ⟨inc_ok (by omega), rfl⟩, trivial⟩, ⟨hlt2, take_all hk.2 hy (by simp_all [clash])⟩, by omega⟩
          ·
            refine PW.drawn ((some 32, _) :: (some 33, _) :: (some 34, _) :: (some 35, _) :: (some 36, _) :: (some 37, _) :: (some 38, _) :: (some 39, _) :: (some 40, _) :: (some 41, _) :: (some 42, _) :: (some 43, .lit (.bool false)) :: (some 44, _) :: (some 45, _) :: (some 46, _) :: (some 47, _) :: (some 48, _) :: (some 49, _) :: (some 50, _) :: (some 51, _) :: (some 52, _) :: (some 53, _) :: (some 54, _) :: (some 55, _) :: (some 56, _) :: (some 57, _) :: (some 58, _) :: (some 59, _) :: (some 60, _) :: (some 61, _) :: (some 62, _) :: (some 63, _) :: []) (0 :: 0 :: 3 :: 7 :: 15 :: 0 :: 0 :: 96 :: 224 :: 480 :: 1023 :: 2047 :: 4095 :: 4095 :: 16383 :: 32767 :: 65535 :: 4095 :: 4095 :: 397311 :: 921599 :: 1970175 :: 4194303 :: 8388607 :: 16777215 :: 33554431 :: 33554431 :: 134217727 :: 268435455 :: 536870911 :: 1073741823 :: 2147483647 :: []) (fun _ => _) mixed rfl rfl rfl rfl rfl
              (.cons rfl (fun ρ => PL.run 1 rfl (PL.nil rfl)) <|
              .cons rfl (fun ρ => PL.run 1 rfl (PL.nil rfl)) <|
              .cons rfl (fun ρ => PL.val (OpV.idx rfl rfl rfl (nat_nonneg k) (map_at' hy) rfl rfl rfl rfl) (wantV_ok rfl) rfl (PL.nil rfl)) <|
              .cons rfl (fun ρ => PL.run 1 rfl (PL.nil rfl)) <|
              .cons rfl (fun ρ => PL.run 1 rfl (PL.nil rfl)) <|
              .cons rfl (fun ρ => PL.run 1 rfl (PL.nil rfl)) <|
              .cons rfl (fun ρ => PL.run 1 rfl (PL.nil rfl)) <|
              .cons rfl (fun ρ => PL.val (OpV.idx rfl rfl rfl (nat_nonneg i) (map_at' hx) rfl rfl rfl rfl) (wantV_ok rfl) rfl (PL.nil rfl)) <|
              .cons rfl (fun ρ => PL.run 1 rfl (PL.nil rfl)) <|
              .cons rfl (fun ρ => PL.run 1 rfl (PL.nil rfl)) <|
              .cons rfl (fun ρ => PL.run 1 rfl (PL.nil rfl)) <|
              .cons rfl (fun ρ => PL.run 1 rfl (PL.nil (putb h5))) <|
              .cons rfl (fun ρ => PL.run 1 rfl (PL.nil rfl)) <|
              .cons rfl (fun ρ => PL.run 1 rfl (PL.nil rfl)) <|
              .cons rfl (fun ρ => PL.run 1 rfl (PL.nil rfl)) <|
              .cons rfl (fun ρ => PL.run 1 rfl (PL.nil rfl)) <|
              .cons rfl (fun ρ => PL.run 1 rfl (PL.nil rfl)) <|
              .cons rfl (fun ρ => PL.run 1 rfl (PL.nil rfl)) <|
              .cons rfl (fun ρ => PL.run 1 rfl (PL.nil rfl)) <|
              .cons rfl (fun ρ => PL.run 1 rfl (PL.nil rfl)) <|
              .cons rfl (fun ρ => PL.run 1 rfl (PL.nil rfl)) <|
              .cons rfl (fun ρ => PL.run 1 rfl (PL.nil rfl)) <|
              .cons rfl (fun ρ => PL.run 1 rfl (PL.nil rfl)) <|
              .cons rfl (fun ρ => PL.run 1 rfl (PL.nil rfl)) <|
              .cons rfl (fun ρ => PL.run 1 rfl (PL.nil rfl)) <|
              .cons rfl (fun ρ => PL.run 1 rfl (PL.nil rfl)) <|
              .cons rfl (fun ρ => PL.run 1 rfl (PL.nil rfl)) <|
              .cons rfl (fun ρ => PL.run 1 rfl (PL.nil rfl)) <|
              .cons rfl (fun ρ => PL.run 1 rfl (PL.nil rfl)) <|
              .cons rfl (fun ρ => PL.run 1 rfl (PL.nil rfl)) <|
              .cons rfl (fun ρ => PL.run 1 rfl (PL.nil rfl)) <|
              .cons rfl (fun ρ => PL.run 1 rfl (PL.nil rfl)) <|
              .nil _) ?_
            refine PW.condF rfl ?_
            refine PW.skip ?_
            refine PW.region ?_
            refine PL.run 3 rfl ?_
            refine PL.nil ?_
            exact ⟨k + 1, Le.free ⟨⟨rfl, rfl⟩, ⟨rfl, rfl⟩, ⟨inc_ok (by omega), rfl⟩, trivial⟩, ⟨hlt2, take_all hk.2 hy (by simp_all [clash])⟩, by omega⟩
        ·
          refine PW.exit ?_
          refine PW.region ?_
          refine PL.run 3 rfl ?_
          refine PL.nil ?_
          have hge : k = i := by have := hk.1; simp at h4; omega
          subst hge
          exact ⟨k + 1, Le.free ⟨⟨rfl, rfl⟩, ⟨inc_ok (by omega), rfl⟩, trivial⟩, ⟨hlt, range_all hi.2 (good_ok hx (by simpa using h2) (by simp at h3; omega) hk.2)⟩, by omega⟩
  ·
    refine PW.exit ?_
    refine PW.seq ?_
    refine PW.region ?_
    refine PL.run 4 rfl ?_
    refine PL.nil ?_
    refine PW.ret ?_
    refine RetOk.free rfl rfl ?_
    have hge : i = q.length := by have := hi.1; simp at h1; omega
    subst hge
    simp [queueOk, hi.2]
    try omega
end Go.Wl
set_option linter.unusedVariables false
set_option linter.unusedSimpArgs false
set_option maxRecDepth 100000
namespace Go.Wl
open Go Go.RowKit Go.Pw Go.Proofs
theorem map_step {α : Type} {f : α → List PV} {l : List α} {i : Nat} {x : α} (h : l[i]? = some x) : (l.take i).map f ++ [f x] = (l.take (i + 1)).map f := by
  rw [take_step h, List.map_append]; rfl
theorem filt_step {α : Type} {f : α → List PV} {p : α → Bool} {l : List α} {i : Nat} {x : α} (h : l[i]? = some x) (hp : p x = true) : ((l.take i).filter p).map f ++ [f x] = ((l.take (i + 1)).filter p).map f := by
  rw [take_step h, List.filter_append, List.map_append]; simp [hp]
theorem filt_skip {α : Type} {f : α → List PV} {p : α → Bool} {l : List α} {i : Nat} {x : α} (h : l[i]? = some x) (hp : p x = false) : ((l.take i).filter p).map f = ((l.take (i + 1)).filter p).map f := by
  rw [take_step h, List.filter_append, List.map_append]; simp [hp]
theorem filt_len {α : Type} (p : α → Bool) (l : List α) (i : Nat) : ((l.take i).filter p).length ≤ i := Nat.le_trans (List.length_filter_le _ _) (by rw [List.length_take]; exact Nat.min_le_left _ _)
def dueL (q : List Item) (now : Int) : List Item := q.filter fun y => decide (now ≤ y.due)
def keepB (x y : Item) : Bool := decide (x.topic ≤ 0) || (!decide (y.route = x.route) || !decide (y.topic = x.topic))
def putL (q : List Item) (x : Item) : List Item := q.filter (keepB x) ++ [x]
def putQ (q : List Item) (x : Item) : List Item := if queueOk (putL q x) then putL q x else q
theorem Sm.put {q : List Item} {x : Item} (hq : Sm q) (hl : q.length < 16777216) (hr : x.route.size ≤ 1099511627776) (hb : x.bytes.length ≤ 16777216) : Sm (putL q x) := by
  have hm : ∀ (i : Nat) (y : Item), (putL q x)[i]? = some y → y ∈ q ∨ y = x := fun i y h => by
    have := List.mem_of_getElem? h
    rcases List.mem_append.1 this with h1 | h1
    · exact .inl (List.mem_filter.1 h1).1
    · exact .inr (by simpa using h1)
  refine ⟨?_, fun i y h => ?_, fun i y h => ?_⟩
  · have := List.length_filter_le (keepB x) q
    simp [putL]; omega
  · rcases hm i y h with h1 | rfl
    · obtain ⟨j, hj⟩ := List.getElem?_of_mem h1; exact hq.route j y hj
    · exact hr
  · rcases hm i y h with h1 | rfl
    · obtain ⟨j, hj⟩ := List.getElem?_of_mem h1; exact hq.bytes j y hj
    · exact hb
/- spec.l13Queue -/
theorem spec_l13Queue_spec (q : List Item) (hq : Sm q) (τ : Nat) : Pw.Spec Tryz.prog 161 [eItems q] (fun res_ => res_ = .sl 4 (q.map eItem) (some τ)) := by
  refine spec_of (n := 21) Tryz.call161 Tryz.func161 rfl rfl (by simp) rfl rfl fun W Z => ?_
  have hlen := hq.len
  refine PW.seq ?_
  refine PW.region ?_
  refine PL.run 1 rfl ?_
  refine PL.nil ?_
  refine PW.seq ?_
  refine PW.region ?_
  refine PL.run 2 rfl ?_
  refine PL.nil ?_
  refine PW.seq ?_
  refine PW.seq ?_
  refine PW.region ?_
  refine PL.run 1 rfl ?_
  refine PL.nil ?_
  refine PW.block ?_
  refine PW.loopAt (α := Nat) (fun i => ⟨[(3, .sl 4 ((q.take i).map eItem) (some 5)), (0, eItems q), (4, eI (i : Int))], ⟨[], [(5, (4, ((q.take i).map eItem).length))]⟩⟩) (fun i => i ≤ q.length) (fun i => q.length - i) 0 (Le.row ⟨⟨rfl, rfl⟩, ⟨rfl, rfl⟩, trivial⟩ rfl rfl rfl) (Nat.zero_le _) (fun i hi => ?_)
  refine PW.seq ?_
  refine PW.seq ?_
  refine PW.region ?_
  refine PL.run 4 rfl ?_
  refine PL.nil ?_
  refine PW.cond rfl (fun h1 => ?_) (fun h1 => ?_)
  ·
    have hlt : i < q.length := by simpa using h1
    obtain ⟨x, hx⟩ : ∃ y, q[i]? = some y := ⟨_, List.getElem?_eq_getElem hlt⟩
    refine PW.skip ?_
    refine PW.seq ?_
    refine PW.block ?_
    refine PW.region ?_
    refine PL.run 3 rfl ?_
    refine PL.val (OpV.idx rfl rfl rfl (nat_nonneg i) (map_at' hx) rfl rfl rfl rfl) (wantV_ok rfl) rfl ?_
    refine PL.run 1 rfl ?_
    refine PL.call rfl rfl rfl (spec_l13Item_spec x (hq.bytes i x hx)) (.cons (.refl _) <| .nil) (fun p hp => by subst hp; rfl) (wantV_ok rfl) rfl (fun p hp => ?_)
    subst hp
    refine PL.run 1 rfl ?_
    refine PL.app rfl rfl rfl rfl rfl rfl rfl rfl rfl rfl (by simp <;> omega) (by simp <;> omega) (wantV_ok rfl) rfl ?_
    refine PL.run 1 rfl ?_
    refine PL.nil ?_
    refine PW.region ?_
    refine PL.run 3 rfl ?_
    refine PL.nil ?_
    exact ⟨i + 1, Le.row ⟨⟨rfl, rfl⟩, ⟨inc_ok (by omega), rfl⟩, trivial⟩ rfl rfl (map_step hx), hlt, by omega⟩
  ·
    have hge : q.length ≤ i := by simpa using h1
    refine PW.exit ?_
    refine PW.seq ?_
    refine PW.region ?_
    refine PL.run 2 rfl ?_
    refine PL.nil ?_
    refine PW.ret ?_
    refine RetOk.of rfl (.one (.leaf (.row _ _ _ τ rfl))) (by simp) (by simp) ?_
    rw [List.take_of_length_le hge]
/- spec.Due -/
theorem spec_Due_spec (q : List Item) (now : Int) (hq : Sm q) (τ : Nat) : Pw.Spec Tryz.prog 142 [eItems q, eI now] (fun res_ => res_ = .sl 4 ((dueL q now).map eItem) (some τ)) := by
  refine spec_of (n := 30) Tryz.call142 Tryz.func142 rfl rfl (by simp) rfl rfl fun W Z => ?_
  have hlen := hq.len
  refine PW.seq ?_
  refine PW.region ?_
  refine PL.run 1 rfl ?_
  refine PL.nil ?_
  refine PW.seq ?_
  refine PW.region ?_
  refine PL.run 2 rfl ?_
  refine PL.nil ?_
  refine PW.seq ?_
  refine PW.seq ?_
  refine PW.region ?_
  refine PL.run 1 rfl ?_
  refine PL.nil ?_
  refine PW.block ?_
  refine PW.loopAt (α := Nat) (fun i => ⟨[(5, .sl 4 (((q.take i).filter fun y => decide (now ≤ y.due)).map eItem) (some 7)), (0, eItems q), (1, eI now), (6, eI (i : Int))], ⟨[], [(7, (4, (((q.take i).filter fun y => decide (now ≤ y.due)).map eItem).length))]⟩⟩) (fun i => i ≤ q.length) (fun i => q.length - i) 0 (Le.row ⟨⟨rfl, rfl⟩, ⟨rfl, rfl⟩, ⟨rfl, rfl⟩, trivial⟩ rfl rfl rfl) (Nat.zero_le _) (fun i hi => ?_)
  refine PW.seq ?_
  refine PW.seq ?_
  refine PW.region ?_
  refine PL.run 4 rfl ?_
  refine PL.nil ?_
  refine PW.cond rfl (fun h1 => ?_) (fun h1 => ?_)
  ·
    have hlt : i < q.length := by simpa using h1
    obtain ⟨x, hx⟩ : ∃ y, q[i]? = some y := ⟨_, List.getElem?_eq_getElem hlt⟩
    have hf := filt_len (fun y : Item => decide (now ≤ y.due)) q i
    refine PW.skip ?_
    refine PW.seq ?_
    refine PW.block ?_
    refine PW.seq ?_
    refine PW.region ?_
    refine PL.run 2 rfl ?_
    refine PL.val (OpV.idx rfl rfl rfl (nat_nonneg i) (map_at' hx) rfl rfl rfl rfl) (wantV_ok rfl) rfl ?_
    refine PL.run 4 rfl ?_
    refine PL.nil ?_
    refine PW.cond rfl (fun h2 => ?_) (fun h2 => ?_)
    ·
      refine PW.region ?_
      refine PL.run 3 rfl ?_
      refine PL.val (OpV.idx rfl rfl rfl (nat_nonneg i) (map_at' hx) rfl rfl rfl rfl) (wantV_ok rfl) rfl ?_
      refine PL.run 1 rfl ?_
      refine PL.call rfl rfl rfl (spec_l13Item_spec x (hq.bytes i x hx)) (.cons (.refl _) <| .nil) (fun p hp => by subst hp; rfl) (wantV_ok rfl) rfl (fun p hp => ?_)
      subst hp
      refine PL.run 1 rfl ?_
      refine PL.app rfl rfl rfl rfl rfl rfl rfl rfl rfl rfl (by simp <;> omega) (by simp <;> omega) (wantV_ok rfl) rfl ?_
      refine PL.run 1 rfl ?_
      refine PL.nil ?_
      refine PW.region ?_
      refine PL.run 3 rfl ?_
      refine PL.nil ?_
      exact ⟨i + 1, Le.row ⟨⟨rfl, rfl⟩, ⟨rfl, rfl⟩, ⟨inc_ok (by omega), rfl⟩, trivial⟩ rfl rfl (filt_step hx h2), hlt, by omega⟩
    ·
      refine PW.skip ?_
      refine PW.region ?_
      refine PL.run 3 rfl ?_
      refine PL.nil ?_
      exact ⟨i + 1, Le.row ⟨⟨rfl, rfl⟩, ⟨rfl, rfl⟩, ⟨inc_ok (by omega), rfl⟩, trivial⟩ rfl rfl (filt_skip hx h2), hlt, by omega⟩
  ·
    have hge : q.length ≤ i := by simpa using h1
    refine PW.exit ?_
    refine PW.seq ?_
    refine PW.region ?_
    refine PL.run 2 rfl ?_
    refine PL.nil ?_
    refine PW.ret ?_
    refine RetOk.of rfl (.one (.leaf (.row _ _ _ τ rfl))) (by simp) (by simp) ?_
    rw [List.take_of_length_le hge]; rfl
/- spec.Put -/
theorem spec_Put_spec (q : List Item) (x : Item) (hq : Sm q) (hl : q.length < 16777216) (hr : x.route.size ≤ 1099511627776) (hb : x.bytes.length ≤ 16777216) (τ : Nat) : Pw.Spec Tryz.prog 139 [eItems q, .agg (eItem x)] (fun res_ => res_ = .tup [.sl 4 ((putQ q x).map eItem) (some τ), eT (queueOk (putL q x))]) := by
  refine spec_of (n := 57) Tryz.call139 Tryz.func139 rfl rfl (by simp) rfl rfl fun W Z => ?_
  refine PW.seq ?_
  refine PW.region ?_
  refine PL.run 3 rfl ?_
  refine PL.nil ?_
  refine PW.seq ?_
  refine PW.region ?_
  refine PL.run 2 rfl ?_
  refine PL.nil ?_
  refine PW.seq ?_
  refine PW.seq ?_
  refine PW.region ?_
  refine PL.run 1 rfl ?_
  refine PL.nil ?_
  refine PW.block ?_
  refine PW.loopAt (α := Nat) (fun i => ⟨[(6, .sl 4 (((q.take i).filter (keepB x)).map eItem) (some 8)), (0, eItems q), (3, .rp (eItem x)), (7, eI (i : Int))], ⟨[], [(8, (4, (((q.take i).filter (keepB x)).map eItem).length))]⟩⟩) (fun i => i ≤ q.length) (fun i => q.length - i) 0
    (Le.keepF (L := [(8, ((4, 0), some 8))]) (L' := []) (b := []) [] (some (3, (64, eItem x))) (fun _ _ _ h => by cases h; exact ⟨rfl, rfl, rfl⟩) .nil (.cons (L' := []) rfl (.leaf (.f (.row 4 [] 8 8 rfl))) (.cons (L := []) (L' := []) rfl (.leaf (.f (.same _ rfl))) (.cons (L := []) (L' := []) rfl (.leaf (.fz 3 0 64 (eItem x) rfl)) (.cons (L := []) (L' := []) rfl (.leaf (.f (.same _ rfl))) .nil)))) rfl (by simp) (by simp))
    (Nat.zero_le _) (fun i hi => ?_)
  refine PW.seq ?_
  refine PW.seq ?_
  refine PW.region ?_
  refine PL.run 4 rfl ?_
  refine PL.nil ?_
  refine PW.cond rfl (fun h1 => ?_) (fun h1 => ?_)
  ·
    have hlt : i < q.length := by simpa using h1
    obtain ⟨y, hy⟩ : ∃ y, q[i]? = some y := ⟨_, List.getElem?_eq_getElem hlt⟩
    have hf := filt_len (keepB x) q i
    refine PW.skip ?_
    refine PW.seq ?_
    refine PW.block ?_
    refine PW.seq ?_
    rcases Bool.eq_false_or_eq_true (decide (x.topic ≤ 0)) with h2 | h2
    ·
      refine PW.drawn ((some 15, _) :: (some 16, _) :: (some 17, _) :: (some 18, .lit (.bool true)) :: (some 19, _) :: (some 20, _) :: (some 21, _) :: (some 22, _) :: (some 23, _) :: (some 24, _) :: (some 25, _) :: (some 26, _) :: (some 27, _) :: (some 28, _) :: (some 29, _) :: (some 30, _) :: (some 31, _) :: (some 32, _) :: (some 33, _) :: (some 34, _) :: (some 35, _) :: (some 36, _) :: (some 37, _) :: []) (0 :: 1 :: 3 :: 7 :: 15 :: 15 :: 63 :: 127 :: 255 :: 15 :: 527 :: 2047 :: 4095 :: 8191 :: 16383 :: 16383 :: 65535 :: 131071 :: 262143 :: 16383 :: 540671 :: 2097151 :: 4194303 :: []) (fun _ => _) mixed rfl rfl rfl rfl rfl
        (.cons rfl (fun ρ => PL.run 1 rfl (PL.nil rfl)) <|
        .cons rfl (fun ρ => PL.run 1 rfl (PL.nil rfl)) <|
        .cons rfl (fun ρ => PL.run 1 rfl (PL.nil rfl)) <|
        .cons rfl (fun ρ => PL.run 1 rfl (PL.nil (putb h2))) <|
        .cons rfl (fun ρ => PL.run 1 rfl (PL.nil rfl)) <|
        .cons rfl (fun ρ => PL.run 1 rfl (PL.nil rfl)) <|
        .cons rfl (fun ρ => PL.run 1 rfl (PL.nil rfl)) <|
        .cons rfl (fun ρ => PL.run 1 rfl (PL.nil rfl)) <|
        .cons rfl (fun ρ => PL.run 1 rfl (PL.nil rfl)) <|
        .cons rfl (fun ρ => PL.run 1 rfl (PL.nil rfl)) <|
        .cons rfl (fun ρ => PL.run 1 rfl (PL.nil rfl)) <|
        .cons rfl (fun ρ => PL.run 1 rfl (PL.nil rfl)) <|
        .cons rfl (fun ρ => PL.run 1 rfl (PL.nil rfl)) <|
        .cons rfl (fun ρ => PL.run 1 rfl (PL.nil rfl)) <|
        .cons rfl (fun ρ => PL.run 1 rfl (PL.nil rfl)) <|
        .cons rfl (fun ρ => PL.run 1 rfl (PL.nil rfl)) <|
        .cons rfl (fun ρ => PL.run 1 rfl (PL.nil rfl)) <|
        .cons rfl (fun ρ => PL.run 1 rfl (PL.nil rfl)) <|
        .cons rfl (fun ρ => PL.run 1 rfl (PL.nil rfl)) <|
        .cons rfl (fun ρ => PL.run 1 rfl (PL.nil rfl)) <|
        .cons rfl (fun ρ => PL.run 1 rfl (PL.nil rfl)) <|
        .cons rfl (fun ρ => PL.run 1 rfl (PL.nil rfl)) <|
        .cons rfl (fun ρ => PL.run 1 rfl (PL.nil rfl)) <|
        .nil _) ?_
      refine PW.condT rfl ?_
      refine PW.region ?_
      refine PL.run 3 rfl ?_
      refine PL.val (OpV.idx rfl rfl rfl (nat_nonneg i) (map_at' hy) rfl rfl rfl rfl) (wantV_ok rfl) rfl ?_
      refine PL.run 1 rfl ?_
      refine PL.call rfl rfl rfl (spec_l13Item_spec y (hq.bytes i y hy)) (.cons (.refl _) <| .nil) (fun p hp => by subst hp; rfl) (wantV_ok rfl) rfl (fun p hp => ?_)
      subst hp
      refine PL.run 1 rfl ?_
      refine PL.app rfl rfl rfl rfl rfl rfl rfl rfl rfl rfl (by simp <;> omega) (by simp <;> omega) (wantV_ok rfl) rfl ?_
      refine PL.run 1 rfl ?_
      refine PL.nil ?_
      refine PW.region ?_
      refine PL.run 3 rfl ?_
      refine PL.nil ?_
      exact ⟨i + 1, Le.row ⟨⟨rfl, rfl⟩, ⟨rfl, rfl⟩, ⟨inc_ok (by omega), rfl⟩, trivial⟩ rfl rfl (filt_step hy (by simp_all [keepB])), hlt, by omega⟩
    ·
      rcases Bool.eq_false_or_eq_true (!decide (y.route = x.route)) with h3 | h3
      ·
        refine PW.drawn ((some 15, _) :: (some 16, _) :: (some 17, _) :: (some 18, .lit (.bool false)) :: (some 19, _) :: (some 20, _) :: (some 21, _) :: (some 22, _) :: (some 23, _) :: (some 24, _) :: (some 25, _) :: (some 26, _) :: (some 27, _) :: (some 28, .lit (.bool true)) :: (some 29, _) :: (some 30, _) :: (some 31, _) :: (some 32, _) :: (some 33, _) :: (some 34, _) :: (some 35, _) :: (some 36, _) :: (some 37, _) :: []) (0 :: 1 :: 3 :: 7 :: 15 :: 15 :: 63 :: 127 :: 255 :: 15 :: 527 :: 2047 :: 4095 :: 8191 :: 16383 :: 16383 :: 65535 :: 131071 :: 262143 :: 16383 :: 540671 :: 2097151 :: 4194303 :: []) (fun _ => _) mixed rfl rfl rfl rfl rfl
          (.cons rfl (fun ρ => PL.run 1 rfl (PL.nil rfl)) <|
          .cons rfl (fun ρ => PL.run 1 rfl (PL.nil rfl)) <|
          .cons rfl (fun ρ => PL.run 1 rfl (PL.nil rfl)) <|
          .cons rfl (fun ρ => PL.run 1 rfl (PL.nil (putb h2))) <|
          .cons rfl (fun ρ => PL.run 1 rfl (PL.nil rfl)) <|
          .cons rfl (fun ρ => PL.run 1 rfl (PL.nil rfl)) <|
          .cons rfl (fun ρ => PL.val (OpV.idx rfl rfl rfl (nat_nonneg i) (map_at' hy) rfl rfl rfl rfl) (wantV_ok rfl) rfl (PL.nil rfl)) <|
          .cons rfl (fun ρ => PL.run 1 rfl (PL.nil rfl)) <|
          .cons rfl (fun ρ => PL.run 1 rfl (PL.nil rfl)) <|
          .cons rfl (fun ρ => PL.run 1 rfl (PL.nil rfl)) <|
          .cons rfl (fun ρ => PL.run 1 rfl (PL.nil rfl)) <|
          .cons rfl (fun ρ => PL.run 1 rfl (PL.nil rfl)) <|
          .cons rfl (fun ρ => PL.run 1 rfl (PL.nil rfl)) <|
          .cons rfl (fun ρ => PL.run 1 rfl (PL.nil (putb h3))) <|
          .cons rfl (fun ρ => PL.run 1 rfl (PL.nil rfl)) <|
          .cons rfl (fun ρ => PL.run 1 rfl (PL.nil rfl)) <|
          .cons rfl (fun ρ => PL.run 1 rfl (PL.nil rfl)) <|
          .cons rfl (fun ρ => PL.run 1 rfl (PL.nil rfl)) <|
          .cons rfl (fun ρ => PL.run 1 rfl (PL.nil rfl)) <|
          .cons rfl (fun ρ => PL.run 1 rfl (PL.nil rfl)) <|
          .cons rfl (fun ρ => PL.run 1 rfl (PL.nil rfl)) <|
          .cons rfl (fun ρ => PL.run 1 rfl (PL.nil rfl)) <|
          .cons rfl (fun ρ => PL.run 1 rfl (PL.nil rfl)) <|
          .nil _) ?_
        refine PW.condT rfl ?_
        refine PW.region ?_
        refine PL.run 3 rfl ?_
        refine PL.val (OpV.idx rfl rfl rfl (nat_nonneg i) (map_at' hy) rfl rfl rfl rfl) (wantV_ok rfl) rfl ?_
        refine PL.run 1 rfl ?_
        refine PL.call rfl rfl rfl (spec_l13Item_spec y (hq.bytes i y hy)) (.cons (.refl _) <| .nil) (fun p hp => by subst hp; rfl) (wantV_ok rfl) rfl (fun p hp => ?_)
        subst hp
        refine PL.run 1 rfl ?_
        refine PL.app rfl rfl rfl rfl rfl rfl rfl rfl rfl rfl (by simp <;> omega) (by simp <;> omega) (wantV_ok rfl) rfl ?_
        refine PL.run 1 rfl ?_
        refine PL.nil ?_
        refine PW.region ?_
        refine PL.run 3 rfl ?_
        refine PL.nil ?_
        exact ⟨i + 1, Le.row ⟨⟨rfl, rfl⟩, ⟨rfl, rfl⟩, ⟨inc_ok (by omega), rfl⟩, trivial⟩ rfl rfl (filt_step hy (by simp_all [keepB])), hlt, by omega⟩
      ·
        refine PW.drawn ((some 15, _) :: (some 16, _) :: (some 17, _) :: (some 18, .lit (.bool false)) :: (some 19, _) :: (some 20, _) :: (some 21, _) :: (some 22, _) :: (some 23, _) :: (some 24, _) :: (some 25, _) :: (some 26, _) :: (some 27, _) :: (some 28, .lit (.bool false)) :: (some 29, _) :: (some 30, _) :: (some 31, _) :: (some 32, _) :: (some 33, _) :: (some 34, _) :: (some 35, _) :: (some 36, _) :: (some 37, _) :: []) (0 :: 1 :: 3 :: 7 :: 15 :: 15 :: 63 :: 127 :: 255 :: 15 :: 527 :: 2047 :: 4095 :: 8191 :: 16383 :: 16383 :: 65535 :: 131071 :: 262143 :: 16383 :: 540671 :: 2097151 :: 4194303 :: []) (fun _ => _) mixed rfl rfl rfl rfl rfl
          (.cons rfl (fun ρ => PL.run 1 rfl (PL.nil rfl)) <|
          .cons rfl (fun ρ => PL.run 1 rfl (PL.nil rfl)) <|
          .cons rfl (fun ρ => PL.run 1 rfl (PL.nil rfl)) <|
          .cons rfl (fun ρ => PL.run 1 rfl (PL.nil (putb h2))) <|
          .cons rfl (fun ρ => PL.run 1 rfl (PL.nil rfl)) <|
          .cons rfl (fun ρ => PL.run 1 rfl (PL.nil rfl)) <|
          .cons rfl (fun ρ => PL.val (OpV.idx rfl rfl rfl (nat_nonneg i) (map_at' hy) rfl rfl rfl rfl) (wantV_ok rfl) rfl (PL.nil rfl)) <|
          .cons rfl (fun ρ => PL.run 1 rfl (PL.nil rfl)) <|
          .cons rfl (fun ρ => PL.run 1 rfl (PL.nil rfl)) <|
          .cons rfl (fun ρ => PL.run 1 rfl (PL.nil rfl)) <|
          .cons rfl (fun ρ => PL.run 1 rfl (PL.nil rfl)) <|
          .cons rfl (fun ρ => PL.run 1 rfl (PL.nil rfl)) <|
          .cons rfl (fun ρ => PL.run 1 rfl (PL.nil rfl)) <|
          .cons rfl (fun ρ => PL.run 1 rfl (PL.nil (putb h3))) <|
          .cons rfl (fun ρ => PL.run 1 rfl (PL.nil rfl)) <|
          .cons rfl (fun ρ => PL.run 1 rfl (PL.nil rfl)) <|
          .cons rfl (fun ρ => PL.val (OpV.idx rfl rfl rfl (nat_nonneg i) (map_at' hy) rfl rfl rfl rfl) (wantV_ok rfl) rfl (PL.nil rfl)) <|
          .cons rfl (fun ρ => PL.run 1 rfl (PL.nil rfl)) <|
          .cons rfl (fun ρ => PL.run 1 rfl (PL.nil rfl)) <|
          .cons rfl (fun ρ => PL.run 1 rfl (PL.nil rfl)) <|
          .cons rfl (fun ρ => PL.run 1 rfl (PL.nil rfl)) <|
          .cons rfl (fun ρ => PL.run 1 rfl (PL.nil rfl)) <|
          .cons rfl (fun ρ => PL.run 1 rfl (PL.nil rfl)) <|
          .nil _) ?_
        refine PW.cond rfl (fun h4 => ?_) (fun h4 => ?_)
        ·
          refine PW.region ?_
          refine PL.run 3 rfl ?_
          refine PL.val (OpV.idx rfl rfl rfl (nat_nonneg i) (map_at' hy) rfl rfl rfl rfl) (wantV_ok rfl) rfl ?_
          refine PL.run 1 rfl ?_
          refine PL.call rfl rfl rfl (spec_l13Item_spec y (hq.bytes i y hy)) (.cons (.refl _) <| .nil) (fun p hp => by subst hp; rfl) (wantV_ok rfl) rfl (fun p hp => ?_)
          subst hp
          refine PL.run 1 rfl ?_
          refine PL.app rfl rfl rfl rfl rfl rfl rfl rfl rfl rfl (by simp <;> omega) (by simp <;> omega) (wantV_ok rfl) rfl ?_
          refine PL.run 1 rfl ?_
          refine PL.nil ?_
          refine PW.region ?_
          refine PL.run 3 rfl ?_
          refine PL.nil ?_
          exact ⟨i + 1, Le.row ⟨⟨rfl, rfl⟩, ⟨rfl, rfl⟩, ⟨inc_ok (by omega), rfl⟩, trivial⟩ rfl rfl (filt_step hy (by simp_all [keepB])), hlt, by omega⟩
        ·
          refine PW.skip ?_
          refine PW.region ?_
          refine PL.run 3 rfl ?_
          refine PL.nil ?_
          exact ⟨i + 1, Le.row ⟨⟨rfl, rfl⟩, ⟨rfl, rfl⟩, ⟨inc_ok (by omega), rfl⟩, trivial⟩ rfl rfl (filt_skip hy (by simp_all [keepB])), hlt, by omega⟩
  ·
    have hge : q.length ≤ i := by simpa using h1
    have hf := filt_len (keepB x) q i
    have E : ((q.take i).filter (keepB x)).map eItem ++ [eItem x] = (putL q x).map eItem := by rw [List.take_of_length_le hge]; simp [putL]
    refine PW.exit ?_
    refine PW.seq ?_
    refine PW.region ?_
    refine PL.run 2 rfl ?_
    refine PL.call rfl rfl rfl (spec_l13Item_spec x hb) (.cons (.refl _) <| .nil) (fun p hp => by subst hp; rfl) (wantV_ok rfl) rfl (fun p hp => ?_)
    subst hp
    refine PL.run 1 rfl ?_
    refine PL.app rfl rfl rfl rfl rfl rfl rfl rfl rfl rfl (by simp <;> omega) (by simp <;> omega) (wantV_ok rfl) rfl ?_
    refine PL.run 1 rfl ?_
    refine PL.nil ?_
    refine PW.seq ?_
    refine PW.seq ?_
    refine PW.region ?_
    refine PL.run 1 rfl ?_
    refine PL.call rfl rfl rfl (spec_QueueOk_spec (putL q x) (hq.put hl hr hb)) (.cons (wkrow E) .nil) (fun p hp => by subst hp; rfl) (wantV_ok rfl) rfl (fun p hp => ?_)
    subst hp
    refine PL.run 1 rfl ?_
    refine PL.nil ?_
    refine PW.cond rfl (fun h5 => ?_) (fun h5 => ?_)
    ·
      refine PW.seq ?_
      refine PW.region ?_
      refine PL.run 1 rfl ?_
      refine PL.call rfl rfl rfl (spec_l13Queue_spec q hq 1001) (.cons (.refl _) <| .nil) (fun p hp => by subst hp; rfl) (wantV_ok rfl) rfl (fun p hp => ?_)
      subst hp
      refine PL.run 2 rfl ?_
      refine PL.nil ?_
      refine PW.ret ?_
      refine RetOk.of rfl (.tup (.cons (.leaf (.row _ _ 1001 τ rfl)) (.cons (.leaf (.same _ rfl)) .nil))) (by simp) (by simp) ?_
      have hno : queueOk (putL q x) = false := by simpa using h5
      simp [putQ, hno]
    ·
      refine PW.skip ?_
      refine PW.seq ?_
      refine PW.region ?_
      refine PL.run 3 rfl ?_
      refine PL.nil ?_
      refine PW.ret ?_
      refine RetOk.of rfl (.tup (.cons (.leaf (.row _ _ 8 τ rfl)) (.cons (.leaf (.same _ rfl)) .nil))) (by simp) (by simp) ?_
      have hyes : queueOk (putL q x) = true := by simpa using h5
      simp only [putQ, hyes, if_true]
      exact congrArg (fun e => PV.tup [.sl 4 e (some τ), eT true]) E
end Go.Wl
set_option linter.unusedVariables false
set_option linter.unusedSimpArgs false
set_option maxRecDepth 100000
namespace Go.Wl
open Go Go.RowKit Go.Pw Go.Proofs
theorem Sm.sub {q l : List Item} (hq : Sm q) (h : ∀ y ∈ l, y ∈ q) (hl : l.length ≤ q.length) : Sm l :=
  ⟨Nat.le_trans hl hq.len, fun i x hx => by obtain ⟨j, hj⟩ := List.getElem?_of_mem (h x (List.mem_of_getElem? hx)); exact hq.route j x hj,
   fun i x hx => by obtain ⟨j, hj⟩ := List.getElem?_of_mem (h x (List.mem_of_getElem? hx)); exact hq.bytes j x hj⟩
theorem Sm.take {q : List Item} (hq : Sm q) (i : Nat) : Sm (q.take i) := hq.sub (fun y h => List.mem_of_mem_take h) (by rw [List.length_take]; omega)
theorem Sm.drop {q : List Item} (hq : Sm q) (i : Nat) : Sm (q.drop i) := hq.sub (fun y h => List.mem_of_mem_drop h) (by rw [List.length_drop]; omega)
theorem l13Queue_ro (q : List Item) (hq : Sm q) : Pw.Spec Tryz.prog 161 [eItems q] (fun p => p = eItems q) :=
  (spec_l13Queue_spec q hq 0).weak fun p hp => ⟨_, rfl, by subst hp; exact .row _ _ _, rfl⟩
def item0 : Item := ⟨ByteArray.empty, 0, 0, []⟩
/-- The first item of a route, and the rest. -/
def takeQ (r : ByteArray) : List Item → Option (Item × List Item)
  | [] => none
  | x :: q => if x.route = r then some (x, q) else match takeQ r q with
    | some (y, l) => some (y, x :: l)
    | none => none
def takeX (q : List Item) (r : ByteArray) : Item := match takeQ r q with | some (y, _) => y | none => item0
def takeR (q : List Item) (r : ByteArray) : List Item := match takeQ r q with | some (_, l) => l | none => q
theorem takeQ_at {r : ByteArray} : ∀ {q : List Item} {i : Nat} {x : Item}, (∀ (j : Nat) (y : Item), j < i → q[j]? = some y → y.route ≠ r) → q[i]? = some x → x.route = r → takeQ r q = some (x, q.take i ++ q.drop (i + 1))
  | [], i, x, _, hx, _ => by simp at hx
  | z :: q, 0, x, _, hx, hr => by
    simp at hx; subst hx
    simp [takeQ, hr]
  | z :: q, i + 1, x, hn, hx, hr => by
    have h1 := hn 0 z (by omega) rfl
    have := takeQ_at (q := q) (i := i) (x := x) (fun j y hj hy => hn (j + 1) y (by omega) (by simpa using hy)) (by simpa using hx) hr
    simp [takeQ, h1, this]
theorem takeQ_none {r : ByteArray} : ∀ {q : List Item}, (∀ (j : Nat) (y : Item), q[j]? = some y → y.route ≠ r) → takeQ r q = none
  | [], _ => rfl
  | z :: q, hn => by
    have h1 := hn 0 z rfl
    have := takeQ_none (q := q) (fun j y hy => hn (j + 1) y (by simpa using hy))
    simp [takeQ, h1, this]
def zI : List PV := [.lit (.string { data := #[] }), eI 0, eI 0, .lit (.slice none 0 0)]
/- spec.Take -/
theorem spec_Take_spec (q : List Item) (r : ByteArray) (hq : Sm q) (τ : Nat) : Pw.Spec Tryz.prog 141 [eItems q, eS r] (fun res_ => res_ = .tup [.agg (eItem (takeX q r)), .sl 4 ((takeR q r).map eItem) (some τ), eT (takeQ r q).isSome]) := by
  refine spec_of (n := 41) Tryz.call141 Tryz.func141 rfl rfl (by simp) rfl rfl fun W Z => ?_
  have hlen := hq.len
  refine PW.seq ?_
  refine PW.region ?_
  refine PL.run 3 rfl ?_
  refine PL.nil ?_
  refine PW.seq ?_
  refine PW.seq ?_
  refine PW.region ?_
  refine PL.run 1 rfl ?_
  refine PL.nil ?_
  refine PW.block ?_
  refine PW.loopAt (α := Nat) (fun i => ⟨[(0, eItems q), (1, eS r), (4, .bx 4 0), (7, eI (i : Int))], ⟨[(4, (64, zI))], []⟩⟩) (fun i => i ≤ q.length ∧ ∀ j y, j < i → q[j]? = some y → y.route ≠ r) (fun i => q.length - i) 0 Le.boxes ⟨Nat.zero_le _, fun j y h => by omega⟩ (fun i hi => ?_)
  refine PW.seq ?_
  refine PW.seq ?_
  refine PW.region ?_
  refine PL.run 4 rfl ?_
  refine PL.nil ?_
  refine PW.cond rfl (fun h1 => ?_) (fun h1 => ?_)
  ·
    have hlt : i < q.length := by simpa using h1
    obtain ⟨x, hx⟩ : ∃ y, q[i]? = some y := ⟨_, List.getElem?_eq_getElem hlt⟩
    have e1 : IntKind.i64.wrap ((i : Int) + 1) = ((i + 1 : Nat) : Int) := by rw [wrap_id (by omega) (by omega)]; rfl
    refine PW.skip ?_
    refine PW.seq ?_
    refine PW.block ?_
    refine PW.seq ?_
    refine PW.region ?_
    refine PL.run 2 rfl ?_
    refine PL.val (OpV.idx rfl rfl rfl (nat_nonneg i) (map_at' hx) rfl rfl rfl rfl) (wantV_ok rfl) rfl ?_
    refine PL.run 4 rfl ?_
    refine PL.nil ?_
    refine PW.cond rfl (fun h2 => ?_) (fun h2 => ?_)
    ·
      refine PW.seq ?_
      refine PW.drawn ((some 22, _) :: (some 23, _) :: (some 24, _) :: (some 25, _) :: (some 26, _) :: (some 27, _) :: (some 28, _) :: (some 29, _) :: (some 30, _) :: (some 31, _) :: (some 8, _) :: []) (0 :: 0 :: 3 :: 7 :: 0 :: 0 :: 32 :: 112 :: 255 :: 511 :: 1023 :: []) (fun b => ⟨[(4, (64, zI))], bif b 9 then [(25, (4, ((q.take i).map eItem ++ (q.drop (i + 1)).map eItem).length)), (25, (4, ((q.take i).map eItem).length))] else bif b 3 then [(25, (4, ((q.take i).map eItem).length))] else []⟩) mixed rfl rfl rfl rfl rfl
        (.cons rfl (fun ρ => PL.run 1 rfl (PL.nil rfl)) <|
        .cons rfl (fun ρ => PL.run 1 rfl (PL.nil rfl)) <|
        .cons rfl (fun ρ => PL.val (OpV.cut rfl rfl rfl rfl rfl rfl (l := 0) (h := i) rfl rfl (Nat.zero_le _) (by simp; omega)) (wantV_ok rfl) rfl (PL.nil rfl)) <|
        .cons rfl (fun ρ => PL.call rfl rfl rfl (spec_l13Queue_spec (q.take i) (hq.take i) 25) (.cons (wkrow (by simp [List.map_take])) .nil) (fun p hp => by subst hp; rfl) (wantV_ok rfl) rfl (fun p hp => by subst hp; exact PL.nil rfl)) <|
        .cons rfl (fun ρ => PL.run 1 rfl (PL.nil rfl)) <|
        .cons rfl (fun ρ => PL.run 1 rfl (PL.nil rfl)) <|
        .cons rfl (fun ρ => PL.run 1 rfl (PL.nil rfl)) <|
        .cons rfl (fun ρ => PL.val (OpV.cut rfl rfl rfl rfl rfl rfl (l := i + 1) (h := (q.map eItem).length) (congrArg some e1) rfl (by simp; omega) (Nat.le_refl _)) (wantV_ok rfl) rfl (PL.nil rfl)) <|
        .cons rfl (fun ρ => PL.call rfl rfl rfl (l13Queue_ro (q.drop (i + 1)) (hq.drop (i + 1))) (.cons (wkrow (by rw [List.take_length, List.map_drop])) .nil) (fun p hp => by subst hp; rfl) (wantV_ok rfl) rfl (fun p hp => by subst hp; exact PL.nil rfl)) <|
        .cons rfl (fun ρ => PL.app rfl rfl rfl rfl rfl rfl rfl rfl rfl rfl (by simp <;> omega) (by simp <;> omega) (wantV_ok rfl) rfl (PL.nil rfl)) <|
        .cons rfl (fun ρ => PL.run 1 rfl (PL.nil rfl)) <|
        .nil _) ?_
      refine PW.seq ?_
      refine PW.region ?_
      refine PL.run 2 rfl ?_
      refine PL.val (OpV.idx rfl rfl rfl (nat_nonneg i) (map_at' hx) rfl rfl rfl rfl) (wantV_ok rfl) rfl ?_
      refine PL.run 1 rfl ?_
      refine PL.call rfl rfl rfl (spec_l13Item_spec x (hq.bytes i x hx)) (.cons (.refl _) <| .nil) (fun p hp => by subst hp; rfl) (wantV_ok rfl) rfl (fun p hp => ?_)
      subst hp
      refine PL.run 4 rfl ?_
      refine PL.nil ?_
      refine PW.ret ?_
      refine RetOk.of rfl (.tup (.cons (.agg (.cons (.same _ rfl) (.cons (.same _ rfl) (.cons (.same _ rfl) (.cons (.same _ rfl) .nil))))) (.cons (.leaf (.row _ _ 25 τ rfl)) (.cons (.leaf (.same _ rfl)) .nil)))) (by simp) (by simp) ?_
      have ht := takeQ_at (r := r) hi.2 hx (by simpa using h2)
      simp [takeX, takeR, ht, eItem]
    ·
      refine PW.skip ?_
      refine PW.region ?_
      refine PL.run 3 rfl ?_
      refine PL.nil ?_
      refine ⟨i + 1, Le.boxes ⟨⟨rfl, rfl⟩, trivial⟩ ⟨⟨rfl, rfl⟩, ⟨rfl, rfl⟩, ⟨rfl, rfl⟩, ⟨inc_ok (by omega), rfl⟩, trivial⟩, ⟨hlt, fun j y hj hy => ?_⟩, by omega⟩
      by_cases e : j = i
      · subst e; rw [hx] at hy; cases hy; simpa using h2
      · exact hi.2 j y (by omega) hy
  ·
    have hge : q.length ≤ i := by simpa using h1
    have hno : takeQ r q = none := takeQ_none (fun j y hy => hi.2 j y (by have := (List.getElem?_eq_some_iff.1 hy).1; omega) hy)
    refine PW.exit ?_
    refine PW.seq ?_
    refine PW.region ?_
    refine PL.val (OpV.build rfl rfl rfl rfl rfl rfl) (wantV_ok rfl) rfl ?_
    refine PL.run 1 rfl ?_
    refine PL.call rfl rfl rfl (spec_l13Queue_spec q hq 1001) (.cons (.refl _) <| .nil) (fun p hp => by subst hp; rfl) (wantV_ok rfl) rfl (fun p hp => ?_)
    subst hp
    refine PL.run 3 rfl ?_
    refine PL.nil ?_
    refine PW.ret ?_
    refine RetOk.of rfl (.tup (.cons (.agg (.cons (.same _ rfl) (.cons (.same _ rfl) (.cons (.same _ rfl) (.cons (.nil0 1) .nil))))) (.cons (.leaf (.row _ _ 1001 τ rfl)) (.cons (.leaf (.same _ rfl)) .nil)))) (by simp) (by simp) ?_
    simp [takeX, takeR, hno, eItem, item0, eBs]
    rfl
end Go.Wl
set_option linter.unusedVariables false
set_option linter.unusedSimpArgs false
set_option maxRecDepth 100000
namespace Go.Wl
open Go Go.RowKit Go.Pw Go.Proofs
theorem strOf_inj {a b : List UInt8} : strOf a = strOf b ↔ a = b := by
  constructor
  · intro h
    have := congrArg (fun s : ByteArray => s.data.toList) h
    simpa [strOf] using this
  · rintro rfl; rfl
/- spec.Same -/
theorem spec_Same_spec (a b : List UInt8) : Pw.Spec Tryz.prog 69 [eBs a, eBs b] (fun res_ => res_ = eT (decide (a = b))) := by
  refine spec_of (n := 10) Tryz.call69 Tryz.func69 rfl rfl (by simp) rfl rfl fun W Z => ?_
  refine PW.seq ?_
  refine PW.region ?_
  refine PL.run 1 rfl ?_
  refine PL.nil ?_
  refine PW.seq ?_
  refine PW.region ?_
  refine PL.run 1 rfl ?_
  refine PL.val (OpV.toStr a rfl rfl rfl rfl rfl rfl rfl rfl rfl) (wantV_ok rfl) rfl ?_
  refine PL.run 1 rfl ?_
  refine PL.val (OpV.toStr b rfl rfl rfl rfl rfl rfl rfl rfl rfl) (wantV_ok rfl) rfl ?_
  refine PL.run 2 rfl ?_
  refine PL.nil ?_
  refine PW.ret ?_
  refine RetOk.free rfl rfl ?_
  simp [strOf_inj]
def signs : ByteArray := { data := #[48, 49, 50, 51, 52, 53, 54, 55, 56, 57, 97, 98, 99, 100, 101, 102] }
def hexC (n : Nat) : UInt8 := UInt8.ofNat (if n < 10 then 48 + n else 87 + n)
def hexB (b : UInt8) : List UInt8 := [hexC (b.toNat / 16), hexC (b.toNat % 16)]
def hexL (l : List UInt8) : List UInt8 := l.flatMap hexB
def hex (l : List UInt8) : ByteArray := strOf (hexL l)
theorem signs_at : ∀ n, n < 16 → signs.data.toList[n]? = some (hexC n) := by decide
theorem hi_at (b : UInt8) : signs.data.toList[((b.toNat : Int) / 2 ^ min (4 : Int).toNat IntKind.u8.bits).toNat]? = some (hexC (b.toNat / 16)) := by
  have h := b.toNat_lt
  have e : ((b.toNat : Int) / 2 ^ min (4 : Int).toNat IntKind.u8.bits).toNat = b.toNat / 16 := by
    have : (2 : Int) ^ min (4 : Int).toNat IntKind.u8.bits = 16 := by decide
    rw [this]; omega
  rw [e]
  exact signs_at _ (by omega)
theorem and15 : ∀ n : Nat, n < 256 → bits .and .u8 (n : Int) 15 = ((n % 16 : Nat) : Int) := by decide
theorem lo_at (b : UInt8) : signs.data.toList[(bits .and .u8 (b.toNat : Int) 15).toNat]? = some (hexC (b.toNat % 16)) := by
  rw [and15 _ b.toNat_lt, Int.toNat_natCast]
  exact signs_at _ (by omega)
theorem hexL_len (l : List UInt8) : (hexL l).length = 2 * l.length := by
  induction l with
  | nil => rfl
  | cons b l ih => simp [hexL, hexB] at ih ⊢; omega
theorem hexL_step {l : List UInt8} {i : Nat} {b : UInt8} (h : l[i]? = some b) : (hexL (l.take i)).map eb ++ (hexB b).map eb = (hexL (l.take (i + 1))).map eb := by
  rw [take_step h]; simp [hexL, List.flatMap_append]
/- spec.Hex -/
theorem spec_Hex_spec (l : List UInt8) (hl : l.length ≤ 1099511627776) : Pw.Spec Tryz.prog 137 [eBs l] (fun res_ => res_ = eS (hex l)) := by
  refine spec_of (n := 32) Tryz.call137 Tryz.func137 rfl rfl (by simp) rfl rfl fun W Z => ?_
  refine PW.seq ?_
  refine PW.region ?_
  refine PL.run 1 rfl ?_
  refine PL.nil ?_
  refine PW.seq ?_
  refine PW.region ?_
  refine PL.run 1 rfl ?_
  refine PL.nil ?_
  refine PW.seq ?_
  refine PW.region ?_
  refine PL.run 2 rfl ?_
  refine PL.nil ?_
  refine PW.seq ?_
  refine PW.seq ?_
  refine PW.region ?_
  refine PL.run 1 rfl ?_
  refine PL.nil ?_
  refine PW.block ?_
  refine PW.loopAt (α := Nat) (fun i => ⟨[(4, .sl 1 ((hexL (l.take i)).map eb) (some 6)), (0, eBs l), (3, eS signs), (5, eI (i : Int))], ⟨[], [(6, (1, ((hexL (l.take i)).map eb).length))]⟩⟩) (fun i => i ≤ l.length) (fun i => l.length - i) 0 (Le.row ⟨⟨rfl, rfl⟩, ⟨rfl, rfl⟩, ⟨rfl, rfl⟩, trivial⟩ rfl rfl rfl) (Nat.zero_le _) (fun i hi => ?_)
  refine PW.seq ?_
  refine PW.seq ?_
  refine PW.region ?_
  refine PL.run 4 rfl ?_
  refine PL.nil ?_
  refine PW.cond rfl (fun h1 => ?_) (fun h1 => ?_)
  ·
    have hlt : i < l.length := by simpa using h1
    obtain ⟨x, hx⟩ : ∃ y, l[i]? = some y := ⟨_, List.getElem?_eq_getElem hlt⟩
    have hn := hexL_len (l.take i)
    rw [List.length_take] at hn
    refine PW.skip ?_
    refine PW.seq ?_
    refine PW.block ?_
    refine PW.drawn ((some 13, _) :: (some 14, _) :: (some 15, _) :: (some 16, _) :: (some 17, _) :: (some 18, _) :: (some 19, _) :: (some 20, _) :: (some 21, _) :: (some 22, _) :: (some 23, _) :: (some 24, _) :: (some 25, _) :: (some 26, _) :: (some 27, _) :: (some 28, _) :: (some 29, _) :: (some 4, _) :: []) (0 :: 0 :: 0 :: 0 :: 12 :: 28 :: 60 :: 126 :: 0 :: 0 :: 0 :: 1536 :: 3584 :: 7680 :: 16128 :: 32766 :: 65535 :: 131071 :: []) (phs [] _ [(16, _), (15, _)] _) mixed rfl rfl rfl rfl rfl
      (.cons rfl (fun ρ => PL.run 1 rfl (PL.nil rfl)) <|
      .cons rfl (fun ρ => PL.run 1 rfl (PL.nil rfl)) <|
      .cons rfl (fun ρ => PL.run 1 rfl (PL.nil rfl)) <|
      .cons rfl (fun ρ => PL.run 1 rfl (PL.nil rfl)) <|
      .cons rfl (fun ρ => PL.val (OpV.idx rfl rfl rfl (nat_nonneg i) (map_at' hx) rfl rfl rfl rfl) (wantV_ok rfl) rfl (PL.nil rfl)) <|
      .cons rfl (fun ρ => PL.run 1 rfl (PL.nil rfl)) <|
      .cons rfl (fun ρ => PL.val (OpV.shr rfl rfl rfl (by decide)) (wantV_ok rfl) rfl (PL.nil rfl)) <|
      .cons rfl (fun ρ => PL.val (OpV.idxS rfl rfl rfl (b := hexC (x.toNat / 16)) (Int.ediv_nonneg (nat_nonneg _) (by decide)) (hi_at x) rfl rfl) (wantV_ok rfl) rfl (PL.nil rfl)) <|
      .cons rfl (fun ρ => PL.run 1 rfl (PL.nil rfl)) <|
      .cons rfl (fun ρ => PL.run 1 rfl (PL.nil rfl)) <|
      .cons rfl (fun ρ => PL.run 1 rfl (PL.nil rfl)) <|
      .cons rfl (fun ρ => PL.val (OpV.idx rfl rfl rfl (nat_nonneg i) (map_at' hx) rfl rfl rfl rfl) (wantV_ok rfl) rfl (PL.nil rfl)) <|
      .cons rfl (fun ρ => PL.run 1 rfl (PL.nil rfl)) <|
      .cons rfl (fun ρ => PL.run 1 rfl (PL.nil rfl)) <|
      .cons rfl (fun ρ => PL.val (OpV.idxS rfl rfl rfl (b := hexC (x.toNat % 16)) (by rw [and15 _ x.toNat_lt]; exact nat_nonneg _) (lo_at x) rfl rfl) (wantV_ok rfl) rfl (PL.nil rfl)) <|
      .cons rfl (fun ρ => PL.run 1 rfl (PL.nil rfl)) <|
      .cons rfl (fun ρ => PL.app rfl rfl rfl rfl rfl rfl rfl rfl rfl rfl (by simp <;> omega) (by simp <;> omega) (wantV_ok rfl) rfl (PL.nil rfl)) <|
      .cons rfl (fun ρ => PL.run 1 rfl (PL.nil rfl)) <|
      .nil _) ?_
    refine PW.region ?_
    refine PL.run 3 rfl ?_
    refine PL.nil ?_
    exact ⟨i + 1, Le.row ⟨⟨rfl, rfl⟩, ⟨rfl, rfl⟩, ⟨inc_ok (by omega), rfl⟩, trivial⟩ rfl rfl (hexL_step hx), hlt, by omega⟩
  ·
    have hge : l.length ≤ i := by simpa using h1
    refine PW.exit ?_
    refine PW.seq ?_
    refine PW.region ?_
    refine PL.run 1 rfl ?_
    refine PL.val (OpV.toStr (hexL (l.take i)) rfl rfl rfl rfl rfl rfl rfl rfl rfl) (wantV_ok rfl) rfl ?_
    refine PL.run 1 rfl ?_
    refine PL.nil ?_
    refine PW.ret ?_
    refine RetOk.free rfl rfl ?_
    rw [List.take_of_length_le hge]; rfl
end Go.Wl
set_option linter.unusedVariables false
set_option linter.unusedSimpArgs false
set_option maxRecDepth 100000
namespace Go.Wl
open Go Go.RowKit Go.Pw Go.Proofs
theorem wraps63 (n : Int) (h₀ : 0 ≤ n) (h₁ : n < 2 ^ 63) : IntKind.i64.wrap n = n := wrap_id (by omega) (by omega)
theorem and255 {n : Nat} (h : n < 9223372036854775808) : bits .and .i64 (n : Int) 255 = ((n % 256 : Nat) : Int) := by
  have h := bits_mask .i64 63 (by decide) wraps63 8 (by decide) (n : Int) (by omega) (by omega)
  have e : ((2 : Int) ^ 8 - 1) = 255 := by decide
  have e2 : ((2 : Int) ^ 8) = 256 := by decide
  rw [e, e2] at h
  rw [h]
  omega
def littleL (n : Nat) : Nat → List UInt8
  | 0 => []
  | k + 1 => littleL n k ++ [UInt8.ofNat (n / 256 ^ k % 256)]
def little (n many : Int) : List UInt8 := if n < 0 ∨ many < 1 ∨ 8 < many then [] else littleL n.toNat many.toNat
def great (n many : Int) : List UInt8 := (little n many).reverse
theorem littleL_len (n : Nat) : ∀ k, (littleL n k).length = k
  | 0 => rfl
  | k + 1 => by simp [littleL, littleL_len n k]
theorem little_len (n many : Int) : (little n many).length ≤ 8 := by
  unfold little
  split
  · simp
  · rw [littleL_len]; omega
theorem u8_wrap {n : Nat} (h : n < 256) : IntKind.u8.wrap (n : Int) = (n : Int) := by
  have hb : IntKind.u8.bits = 8 := rfl
  have hs : IntKind.u8.signed = false := rfl
  simp [IntKind.wrap, hb, hs]
  omega
theorem div_le_self' (n k : Nat) : n / 256 ^ k ≤ n := Nat.div_le_self _ _
theorem little_es {n : Nat} (hn : n < 9223372036854775808) (i : Nat) : (littleL n i).map eb ++ [[PV.lit (.int .u8 (IntKind.u8.wrap (bits .and .i64 ((n / 256 ^ i : Nat) : Int) 255)))]] = (littleL n (i + 1)).map eb := by
  have h1 := div_le_self' n i
  rw [and255 (by omega), u8_wrap (Nat.mod_lt _ (by decide))]
  simp only [littleL, List.map_append, List.map_cons, List.map_nil, eb]
  congr 5
  rw [UInt8.toNat_ofNat', show (2 : Nat) ^ 8 = 256 from rfl, Nat.mod_mod]
theorem little_sh {n : Nat} (i : Nat) : some (PV.lit (.int .i64 (((n / 256 ^ i : Nat) : Int) / 2 ^ min (8 : Int).toNat IntKind.i64.bits))) = some (eI ((n / 256 ^ (i + 1) : Nat) : Int)) := by
  have : (2 : Int) ^ min (8 : Int).toNat IntKind.i64.bits = 256 := by decide
  rw [this, Nat.pow_succ, ← Nat.div_div_eq_div_mul]
  rfl
/- spec.Little -/
theorem spec_Little_spec (n many : Int) (hn : n < 9223372036854775808) (τ : Nat) : Pw.Spec Tryz.prog 155 [eI n, eI many] (fun res_ => res_ = .sl 1 ((little n many).map eb) (some τ)) := by
  refine spec_of (n := 30) Tryz.call155 Tryz.func155 rfl rfl (by simp) rfl rfl fun W Z => ?_
  refine PW.seq ?_
  refine PW.region ?_
  refine PL.run 1 rfl ?_
  refine PL.nil ?_
  refine PW.seq ?_
  refine PW.region ?_
  refine PL.run 2 rfl ?_
  refine PL.nil ?_
  refine PW.seq ?_
  refine PW.seq ?_
  refine PW.region ?_
  refine PL.run 3 rfl ?_
  refine PL.split (t := 10) rfl (fun h1 => ?_) (fun h1 => ?_)
  ·
    refine PL.run 4 rfl ?_
    refine PL.nil ?_
    refine PW.condT rfl ?_
    refine PW.seq ?_
    refine PW.region ?_
    refine PL.run 2 rfl ?_
    refine PL.nil ?_
    refine PW.ret ?_
    refine RetOk.of rfl (.one (.leaf (.row _ _ 7 τ rfl))) (by simp) (by simp) ?_
    have : n < 0 := by simpa using h1
    simp [little, this]
  ·
    refine PL.run 1 rfl ?_
    refine PL.call rfl rfl rfl (spec_l1In_spec many 1 8) (.cons (.refl _) <| .cons (.refl _) <| .cons (.refl _) <| .nil) (fun p hp => by subst hp; rfl) (wantV_ok rfl) rfl (fun p hp => ?_)
    subst hp
    refine PL.run 2 rfl ?_
    refine PL.nil ?_
    refine PW.cond rfl (fun h2 => ?_) (fun h2 => ?_)
    ·
      refine PW.seq ?_
      refine PW.region ?_
      refine PL.run 2 rfl ?_
      refine PL.nil ?_
      refine PW.ret ?_
      refine RetOk.of rfl (.one (.leaf (.row _ _ 7 τ rfl))) (by simp) (by simp) ?_
      have : n < 0 ∨ many < 1 ∨ 8 < many := by simp [inB] at h2; omega
      simp [little, this]
    ·
      have h0 : 0 ≤ n := by simpa using h1
      have hm : 1 ≤ many ∧ many ≤ 8 := by simp [inB] at h2; omega
      refine PW.skip ?_
      refine PW.seq ?_
      refine PW.seq ?_
      refine PW.region ?_
      refine PL.run 1 rfl ?_
      refine PL.nil ?_
      refine PW.block ?_
      refine PW.loopAt (α := Nat) (fun i => ⟨[(5, .sl 1 ((littleL n.toNat i).map eb) (some 7)), (0, eI ((n.toNat / 256 ^ i : Nat) : Int)), (1, eI many), (6, eI (i : Int))], ⟨[], [(7, (1, ((littleL n.toNat i).map eb).length))]⟩⟩) (fun i => i ≤ many.toNat) (fun i => many.toNat - i) 0 (Le.row ⟨⟨congrArg (fun n => some (eI n)) (by simp; omega), rfl⟩, ⟨rfl, rfl⟩, ⟨rfl, rfl⟩, trivial⟩ rfl rfl rfl) (Nat.zero_le _) (fun i hi => ?_)
      refine PW.seq ?_
      refine PW.seq ?_
      refine PW.region ?_
      refine PL.run 3 rfl ?_
      refine PL.nil ?_
      refine PW.cond rfl (fun h3 => ?_) (fun h3 => ?_)
      ·
        have hlt : (i : Int) < many := by simpa using h3
        have hl := littleL_len n.toNat i
        refine PW.skip ?_
        refine PW.seq ?_
        refine PW.block ?_
        refine PW.seq ?_
        refine PW.region ?_
        refine PL.run 5 rfl ?_
        refine PL.app rfl rfl rfl rfl rfl rfl rfl rfl rfl rfl (by simp <;> omega) (by simp <;> omega) (wantV_ok rfl) rfl ?_
        refine PL.run 1 rfl ?_
        refine PL.nil ?_
        refine PW.region ?_
        refine PL.run 1 rfl ?_
        refine PL.val (OpV.shr rfl rfl rfl (by decide)) (wantV_ok rfl) rfl ?_
        refine PL.run 1 rfl ?_
        refine PL.nil ?_
        refine PW.region ?_
        refine PL.run 3 rfl ?_
        refine PL.nil ?_
        exact ⟨i + 1, Le.row ⟨⟨little_sh i, rfl⟩, ⟨rfl, rfl⟩, ⟨inc_ok (by omega), rfl⟩, trivial⟩ rfl rfl (little_es (by omega) i), by omega, by omega⟩
      ·
        have hge : many ≤ (i : Int) := by simpa using h3
        refine PW.exit ?_
        refine PW.seq ?_
        refine PW.region ?_
        refine PL.run 2 rfl ?_
        refine PL.nil ?_
        refine PW.ret ?_
        refine RetOk.of rfl (.one (.leaf (.row _ _ 7 τ rfl))) (by simp) (by simp) ?_
        have e : ¬ (n < 0 ∨ many < 1 ∨ 8 < many) := by omega
        have e2 : i = many.toNat := by omega
        rw [little, if_neg e, e2]
theorem spec_Little_ro (n many : Int) (hn : n < 9223372036854775808) : Pw.Spec Tryz.prog 155 [eI n, eI many] (fun p => p = eBs (little n many)) :=
  (spec_Little_spec n many hn 0).weak fun p hp => ⟨_, rfl, by subst hp; exact .row _ _ _, rfl⟩
theorem rev_at {l : List UInt8} {k : Nat} {b : UInt8} (h : l[k]? = some b) : (l.drop (k + 1)).reverse ++ [b] = (l.drop k).reverse := by
  rw [List.drop_eq_getElem_cons (List.getElem?_eq_some_iff.1 h).1, (List.getElem?_eq_some_iff.1 h).2, List.reverse_cons]
/- spec.Great -/
theorem spec_Great_spec (n many : Int) (hn : n < 9223372036854775808) (τ : Nat) : Pw.Spec Tryz.prog 132 [eI n, eI many] (fun res_ => res_ = .sl 1 ((great n many).map eb) (some τ)) := by
  refine spec_of (n := 27) Tryz.call132 Tryz.func132 rfl rfl (by simp) rfl rfl fun W Z => ?_
  have hlen := little_len n many
  refine PW.seq ?_
  refine PW.region ?_
  refine PL.run 1 rfl ?_
  refine PL.nil ?_
  refine PW.seq ?_
  refine PW.region ?_
  refine PL.run 2 rfl ?_
  refine PL.call rfl rfl rfl (spec_Little_ro n many hn) (.cons (.refl _) <| .cons (.refl _) <| .nil) (fun p hp => by subst hp; rfl) (wantV_ok rfl) rfl (fun p hp => ?_)
  subst hp
  refine PL.run 1 rfl ?_
  refine PL.nil ?_
  refine PW.seq ?_
  refine PW.region ?_
  refine PL.run 2 rfl ?_
  refine PL.nil ?_
  refine PW.seq ?_
  refine PW.seq ?_
  refine PW.region ?_
  refine PL.run 4 rfl ?_
  refine PL.nil ?_
  refine PW.block ?_
  refine PW.loopAt (α := Nat) (fun k => ⟨[(6, .sl 1 ((((little n many).drop k).reverse).map eb) (some 11)), (5, eBs (little n many)), (7, eI ((k : Int) - 1))], ⟨[], [(11, (1, ((((little n many).drop k).reverse).map eb).length))]⟩⟩) (fun k => k ≤ (little n many).length) (fun k => k) (little n many).length
    (Le.row ⟨⟨rfl, rfl⟩, ⟨congrArg (fun n => some (eI n)) (by rw [wrap_id (by simp; omega) (by simp; omega)]; simp), rfl⟩, trivial⟩ rfl rfl (by simp)) (Nat.le_refl _) (fun k hk => ?_)
  refine PW.seq ?_
  refine PW.seq ?_
  refine PW.region ?_
  refine PL.run 2 rfl ?_
  refine PL.nil ?_
  refine PW.cond rfl (fun h1 => ?_) (fun h1 => ?_)
  ·
    obtain ⟨j, rfl⟩ : ∃ j, k = j + 1 := ⟨k - 1, by simp at h1; omega⟩
    obtain ⟨x, hx⟩ : ∃ x, (little n many)[j]? = some x := ⟨_, List.getElem?_eq_getElem (by omega)⟩
    have ej : (((j + 1 : Nat) : Int) - 1) = (j : Int) := by omega
    refine PW.skip ?_
    refine PW.seq ?_
    refine PW.block ?_
    refine PW.region ?_
    refine PL.run 3 rfl ?_
    refine PL.val (OpV.idx rfl rfl rfl (by rw [ej]; exact nat_nonneg _) (map_at (by rw [ej, Int.toNat_natCast]; exact hx)) rfl rfl rfl rfl) (wantV_ok rfl) rfl ?_
    refine PL.run 2 rfl ?_
    refine PL.app rfl rfl rfl rfl rfl rfl rfl rfl rfl rfl (by simp <;> omega) (by simp <;> omega) (wantV_ok rfl) rfl ?_
    refine PL.run 1 rfl ?_
    refine PL.nil ?_
    refine PW.region ?_
    refine PL.run 3 rfl ?_
    refine PL.nil ?_
    refine ⟨j, Le.row ⟨⟨rfl, rfl⟩, ⟨congrArg (fun n => some (eI n)) ?_, rfl⟩, trivial⟩ rfl rfl ?_, by omega, by omega⟩
    · rw [wrap_id (by omega) (by omega)]; omega
    · rw [← rev_at hx, List.map_append]; rfl
  ·
    have k0 : k = 0 := by simp at h1; omega
    refine PW.exit ?_
    refine PW.seq ?_
    refine PW.region ?_
    refine PL.run 2 rfl ?_
    refine PL.nil ?_
    refine PW.ret ?_
    refine RetOk.of rfl (.one (.leaf (.row _ _ 11 τ rfl))) (by simp) (by simp) ?_
    subst k0; rfl
end Go.Wl
set_option linter.unusedVariables false
set_option linter.unusedSimpArgs false
set_option maxRecDepth 100000
namespace Go.Wl
open Go Go.RowKit Go.Pw Go.Proofs
def sh (x : UInt8) (n : Int) : Int := IntKind.i64.wrap (IntKind.i64.wrap (x.toNat : Int) * 2 ^ min n.toNat IntKind.i64.bits)
def or4 (a b c d : UInt8) : Int := bits .or .i64 (bits .or .i64 (bits .or .i64 (sh a 24) (sh b 16)) (sh c 8)) (IntKind.i64.wrap (d.toNat : Int))
def wordAt (great : Bool) (b : List UInt8) (k : Nat) : Int := if great then or4 (b.getD (4 * k) 0) (b.getD (4 * k + 1) 0) (b.getD (4 * k + 2) 0) (b.getD (4 * k + 3) 0) else or4 (b.getD (4 * k + 3) 0) (b.getD (4 * k + 2) 0) (b.getD (4 * k + 1) 0) (b.getD (4 * k) 0)
def wordsL (great : Bool) (b : List UInt8) : List Int := (List.range (b.length / 4)).map (wordAt great b)
def eI1 (n : Int) : List PV := [eI n]
theorem getD_at {b : List UInt8} {i : Nat} (h : i < b.length) : b[i]? = some (b.getD i 0) := by
  rw [List.getD_eq_getElem?_getD, List.getElem?_eq_getElem h]; rfl
theorem words_step {g : Bool} {b : List UInt8} {k : Nat} {n : Int} (h : wordAt g b k = n) : ((List.range k).map (wordAt g b)).map eI1 ++ [[eI n]] = ((List.range (k + 1)).map (wordAt g b)).map eI1 := by
  subst h
  rw [List.range_succ]; simp [eI1]
theorem wadd {a : Nat} (k : Nat) (h : a + k < 9223372036854775808) : IntKind.i64.wrap ((a : Int) + (k : Int)) = ((a + k : Nat) : Int) := by
  rw [wrap_id (by omega) (by omega)]; omega
/- spec.Words -/
theorem spec_Words_spec (b : List UInt8) (g : Bool) (hb : b.length ≤ 1099511627776) (τ : Nat) : Pw.Spec Tryz.prog 136 [eBs b, eT g] (fun res_ => res_ = .sl 1 ((wordsL g b).map eI1) (some τ)) := by
  refine spec_of (n := 81) Tryz.call136 Tryz.func136 rfl rfl (by simp) rfl rfl fun W Z => ?_
  refine PW.seq ?_
  refine PW.region ?_
  refine PL.run 1 rfl ?_
  refine PL.nil ?_
  refine PW.seq ?_
  refine PW.region ?_
  refine PL.run 2 rfl ?_
  refine PL.nil ?_
  refine PW.seq ?_
  refine PW.seq ?_
  refine PW.region ?_
  refine PL.run 1 rfl ?_
  refine PL.nil ?_
  refine PW.block ?_
  refine PW.loopAt (α := Nat) (fun k => ⟨[(5, .sl 1 (((List.range k).map (wordAt g b)).map eI1) (some 7)), (0, eBs b), (1, eT g), (6, eI ((4 * k : Nat) : Int))], ⟨[], [(7, (1, (((List.range k).map (wordAt g b)).map eI1).length))]⟩⟩) (fun k => 4 * k ≤ b.length) (fun k => b.length - 4 * k) 0 (Le.row ⟨⟨rfl, rfl⟩, ⟨rfl, rfl⟩, ⟨rfl, rfl⟩, trivial⟩ rfl rfl rfl) (Nat.zero_le _) (fun k hk => ?_)
  have e1 : IntKind.i64.wrap (((4 * k : Nat) : Int) + 1) = ((4 * k + 1 : Nat) : Int) := wadd 1 (by omega)
  have e2 : IntKind.i64.wrap (((4 * k : Nat) : Int) + 2) = ((4 * k + 2 : Nat) : Int) := wadd 2 (by omega)
  have e3 : IntKind.i64.wrap (((4 * k : Nat) : Int) + 3) = ((4 * k + 3 : Nat) : Int) := wadd 3 (by omega)
  have e4 : some (PV.lit (.int .i64 (IntKind.i64.wrap (((4 * k : Nat) : Int) + 4)))) = some (eI ((4 * (k + 1) : Nat) : Int)) := congrArg (fun n => some (eI n)) (by rw [wrap_id (by omega) (by omega)]; omega)
  refine PW.seq ?_
  refine PW.seq ?_
  refine PW.region ?_
  refine PL.run 5 rfl ?_
  refine PL.nil ?_
  refine PW.cond rfl (fun h1 => ?_) (fun h1 => ?_)
  ·
    have hlt : 4 * k + 3 < b.length := by
     have := of_decide_eq_true h1
     rw [e3] at this
     simp at this
     omega
    refine PW.skip ?_
    refine PW.seq ?_
    refine PW.block ?_
    refine PW.seq ?_
    refine PW.region ?_
    refine PL.run 1 rfl ?_
    refine PL.nil ?_
    refine PW.cond rfl (fun h2 => ?_) (fun h2 => ?_)
    ·
      subst h2
      refine PW.drawn ((some 16, _) :: (some 17, _) :: (some 18, _) :: (some 19, _) :: (some 20, _) :: (some 21, _) :: (some 22, _) :: (some 23, _) :: (some 24, _) :: (some 25, _) :: (some 26, _) :: (some 27, _) :: (some 28, _) :: (some 29, _) :: (some 30, _) :: (some 31, _) :: (some 32, _) :: (some 33, _) :: (some 34, _) :: (some 35, _) :: (some 36, _) :: (some 37, _) :: (some 38, _) :: (some 39, _) :: (some 40, _) :: (some 41, _) :: (some 42, _) :: (some 43, _) :: (some 44, _) :: (some 45, _) :: (some 46, _) :: (some 47, _) :: (some 5, _) :: []) (0 :: 0 :: 0 :: 6 :: 14 :: 30 :: 62 :: 0 :: 0 :: 256 :: 896 :: 1920 :: 3968 :: 8064 :: 16382 :: 0 :: 0 :: 65536 :: 229376 :: 491520 :: 1015808 :: 2064384 :: 4194302 :: 0 :: 0 :: 16777216 :: 58720256 :: 125829120 :: 260046848 :: 536870910 :: 1073741822 :: 2147483647 :: 4294967295 :: []) (phs [] _ [(31, _), (30, _)] _) mixed rfl rfl rfl rfl rfl
        (.cons rfl (fun ρ => PL.run 1 rfl (PL.nil rfl)) <|
        .cons rfl (fun ρ => PL.run 1 rfl (PL.nil rfl)) <|
        .cons rfl (fun ρ => PL.run 1 rfl (PL.nil rfl)) <|
        .cons rfl (fun ρ => PL.val (OpV.idx rfl rfl rfl (nat_nonneg _) (map_at' (getD_at (by omega))) rfl rfl rfl rfl) (wantV_ok rfl) rfl (PL.nil rfl)) <|
        .cons rfl (fun ρ => PL.run 1 rfl (PL.nil rfl)) <|
        .cons rfl (fun ρ => PL.run 1 rfl (PL.nil rfl)) <|
        .cons rfl (fun ρ => PL.val (OpV.shl rfl rfl rfl (by decide)) (wantV_ok rfl) rfl (PL.nil rfl)) <|
        .cons rfl (fun ρ => PL.run 1 rfl (PL.nil rfl)) <|
        .cons rfl (fun ρ => PL.run 1 rfl (PL.nil rfl)) <|
        .cons rfl (fun ρ => PL.run 1 rfl (PL.nil rfl)) <|
        .cons rfl (fun ρ => PL.val (OpV.idx rfl rfl rfl (by rw [e1]; exact nat_nonneg _) (by rw [e1]; exact map_at' (getD_at (by omega))) rfl rfl rfl rfl) (wantV_ok rfl) rfl (PL.nil rfl)) <|
        .cons rfl (fun ρ => PL.run 1 rfl (PL.nil rfl)) <|
        .cons rfl (fun ρ => PL.run 1 rfl (PL.nil rfl)) <|
        .cons rfl (fun ρ => PL.val (OpV.shl rfl rfl rfl (by decide)) (wantV_ok rfl) rfl (PL.nil rfl)) <|
        .cons rfl (fun ρ => PL.run 1 rfl (PL.nil rfl)) <|
        .cons rfl (fun ρ => PL.run 1 rfl (PL.nil rfl)) <|
        .cons rfl (fun ρ => PL.run 1 rfl (PL.nil rfl)) <|
        .cons rfl (fun ρ => PL.run 1 rfl (PL.nil rfl)) <|
        .cons rfl (fun ρ => PL.val (OpV.idx rfl rfl rfl (by rw [e2]; exact nat_nonneg _) (by rw [e2]; exact map_at' (getD_at (by omega))) rfl rfl rfl rfl) (wantV_ok rfl) rfl (PL.nil rfl)) <|
        .cons rfl (fun ρ => PL.run 1 rfl (PL.nil rfl)) <|
        .cons rfl (fun ρ => PL.run 1 rfl (PL.nil rfl)) <|
        .cons rfl (fun ρ => PL.val (OpV.shl rfl rfl rfl (by decide)) (wantV_ok rfl) rfl (PL.nil rfl)) <|
        .cons rfl (fun ρ => PL.run 1 rfl (PL.nil rfl)) <|
        .cons rfl (fun ρ => PL.run 1 rfl (PL.nil rfl)) <|
        .cons rfl (fun ρ => PL.run 1 rfl (PL.nil rfl)) <|
        .cons rfl (fun ρ => PL.run 1 rfl (PL.nil rfl)) <|
        .cons rfl (fun ρ => PL.val (OpV.idx rfl rfl rfl (by rw [e3]; exact nat_nonneg _) (by rw [e3]; exact map_at' (getD_at (by omega))) rfl rfl rfl rfl) (wantV_ok rfl) rfl (PL.nil rfl)) <|
        .cons rfl (fun ρ => PL.run 1 rfl (PL.nil rfl)) <|
        .cons rfl (fun ρ => PL.run 1 rfl (PL.nil rfl)) <|
        .cons rfl (fun ρ => PL.run 1 rfl (PL.nil rfl)) <|
        .cons rfl (fun ρ => PL.run 1 rfl (PL.nil rfl)) <|
        .cons rfl (fun ρ => PL.app rfl rfl rfl rfl rfl rfl rfl rfl rfl rfl (by simp <;> omega) (by simp <;> omega) (wantV_ok rfl) rfl (PL.nil rfl)) <|
        .cons rfl (fun ρ => PL.run 1 rfl (PL.nil rfl)) <|
        .nil _) ?_
      refine PW.region ?_
      refine PL.run 3 rfl ?_
      refine PL.nil ?_
      exact ⟨k + 1, Le.row ⟨⟨rfl, rfl⟩, ⟨rfl, rfl⟩, ⟨e4, rfl⟩, trivial⟩ rfl rfl (words_step rfl), by omega, by omega⟩
    ·
      subst h2
      refine PW.drawn ((some 48, _) :: (some 49, _) :: (some 50, _) :: (some 51, _) :: (some 52, _) :: (some 53, _) :: (some 54, _) :: (some 55, _) :: (some 56, _) :: (some 57, _) :: (some 58, _) :: (some 59, _) :: (some 60, _) :: (some 61, _) :: (some 62, _) :: (some 63, _) :: (some 64, _) :: (some 65, _) :: (some 66, _) :: (some 67, _) :: (some 68, _) :: (some 69, _) :: (some 70, _) :: (some 71, _) :: (some 72, _) :: (some 73, _) :: (some 74, _) :: (some 75, _) :: (some 76, _) :: (some 77, _) :: (some 78, _) :: (some 79, _) :: (some 5, _) :: []) (0 :: 0 :: 0 :: 4 :: 14 :: 30 :: 62 :: 126 :: 0 :: 0 :: 512 :: 1792 :: 3840 :: 7936 :: 16128 :: 32766 :: 0 :: 0 :: 131072 :: 458752 :: 983040 :: 2031616 :: 4128768 :: 8388606 :: 0 :: 0 :: 50331648 :: 117440512 :: 251658240 :: 536870910 :: 1073741822 :: 2147483647 :: 4294967295 :: []) (phs [] _ [(31, _), (30, _)] _) mixed rfl rfl rfl rfl rfl
        (.cons rfl (fun ρ => PL.run 1 rfl (PL.nil rfl)) <|
        .cons rfl (fun ρ => PL.run 1 rfl (PL.nil rfl)) <|
        .cons rfl (fun ρ => PL.run 1 rfl (PL.nil rfl)) <|
        .cons rfl (fun ρ => PL.run 1 rfl (PL.nil rfl)) <|
        .cons rfl (fun ρ => PL.val (OpV.idx rfl rfl rfl (by rw [e3]; exact nat_nonneg _) (by rw [e3]; exact map_at' (getD_at (by omega))) rfl rfl rfl rfl) (wantV_ok rfl) rfl (PL.nil rfl)) <|
        .cons rfl (fun ρ => PL.run 1 rfl (PL.nil rfl)) <|
        .cons rfl (fun ρ => PL.run 1 rfl (PL.nil rfl)) <|
        .cons rfl (fun ρ => PL.val (OpV.shl rfl rfl rfl (by decide)) (wantV_ok rfl) rfl (PL.nil rfl)) <|
        .cons rfl (fun ρ => PL.run 1 rfl (PL.nil rfl)) <|
        .cons rfl (fun ρ => PL.run 1 rfl (PL.nil rfl)) <|
        .cons rfl (fun ρ => PL.run 1 rfl (PL.nil rfl)) <|
        .cons rfl (fun ρ => PL.val (OpV.idx rfl rfl rfl (by rw [e2]; exact nat_nonneg _) (by rw [e2]; exact map_at' (getD_at (by omega))) rfl rfl rfl rfl) (wantV_ok rfl) rfl (PL.nil rfl)) <|
        .cons rfl (fun ρ => PL.run 1 rfl (PL.nil rfl)) <|
        .cons rfl (fun ρ => PL.run 1 rfl (PL.nil rfl)) <|
        .cons rfl (fun ρ => PL.val (OpV.shl rfl rfl rfl (by decide)) (wantV_ok rfl) rfl (PL.nil rfl)) <|
        .cons rfl (fun ρ => PL.run 1 rfl (PL.nil rfl)) <|
        .cons rfl (fun ρ => PL.run 1 rfl (PL.nil rfl)) <|
        .cons rfl (fun ρ => PL.run 1 rfl (PL.nil rfl)) <|
        .cons rfl (fun ρ => PL.run 1 rfl (PL.nil rfl)) <|
        .cons rfl (fun ρ => PL.val (OpV.idx rfl rfl rfl (by rw [e1]; exact nat_nonneg _) (by rw [e1]; exact map_at' (getD_at (by omega))) rfl rfl rfl rfl) (wantV_ok rfl) rfl (PL.nil rfl)) <|
        .cons rfl (fun ρ => PL.run 1 rfl (PL.nil rfl)) <|
        .cons rfl (fun ρ => PL.run 1 rfl (PL.nil rfl)) <|
        .cons rfl (fun ρ => PL.val (OpV.shl rfl rfl rfl (by decide)) (wantV_ok rfl) rfl (PL.nil rfl)) <|
        .cons rfl (fun ρ => PL.run 1 rfl (PL.nil rfl)) <|
        .cons rfl (fun ρ => PL.run 1 rfl (PL.nil rfl)) <|
        .cons rfl (fun ρ => PL.run 1 rfl (PL.nil rfl)) <|
        .cons rfl (fun ρ => PL.val (OpV.idx rfl rfl rfl (nat_nonneg _) (map_at' (getD_at (by omega))) rfl rfl rfl rfl) (wantV_ok rfl) rfl (PL.nil rfl)) <|
        .cons rfl (fun ρ => PL.run 1 rfl (PL.nil rfl)) <|
        .cons rfl (fun ρ => PL.run 1 rfl (PL.nil rfl)) <|
        .cons rfl (fun ρ => PL.run 1 rfl (PL.nil rfl)) <|
        .cons rfl (fun ρ => PL.run 1 rfl (PL.nil rfl)) <|
        .cons rfl (fun ρ => PL.app rfl rfl rfl rfl rfl rfl rfl rfl rfl rfl (by simp <;> omega) (by simp <;> omega) (wantV_ok rfl) rfl (PL.nil rfl)) <|
        .cons rfl (fun ρ => PL.run 1 rfl (PL.nil rfl)) <|
        .nil _) ?_
      refine PW.region ?_
      refine PL.run 3 rfl ?_
      refine PL.nil ?_
      exact ⟨k + 1, Le.row ⟨⟨rfl, rfl⟩, ⟨rfl, rfl⟩, ⟨e4, rfl⟩, trivial⟩ rfl rfl (words_step rfl), by omega, by omega⟩
  ·
    have hge : k = b.length / 4 := by
     have := of_decide_eq_false h1
     rw [e3] at this
     simp at this
     omega
    refine PW.exit ?_
    refine PW.seq ?_
    refine PW.region ?_
    refine PL.run 2 rfl ?_
    refine PL.nil ?_
    refine PW.ret ?_
    refine RetOk.of rfl (.one (.leaf (.row _ _ 7 τ rfl))) (by simp) (by simp) ?_
    subst hge; rfl
theorem spec_Words_ro (b : List UInt8) (g : Bool) (hb : b.length ≤ 1099511627776) : Pw.Spec Tryz.prog 136 [eBs b, eT g] (fun p => p = .sl 1 ((wordsL g b).map eI1) none) :=
  (spec_Words_spec b g hb 0).weak fun p hp => ⟨_, rfl, by subst hp; exact .row _ _ _, rfl⟩
theorem spec_Great_ro (n many : Int) (hn : n < 9223372036854775808) : Pw.Spec Tryz.prog 132 [eI n, eI many] (fun p => p = eBs (great n many)) :=
  (spec_Great_spec n many hn 0).weak fun p hp => ⟨_, rfl, by subst hp; exact .row _ _ _, rfl⟩
def itemOf (l : Line) : Item := ⟨l.route, l.topic, l.due, l.bytes⟩
/- spec.l14Item -/
theorem spec_l14Item_spec (l : Line) (h : l.bytes.length ≤ 16777216) : Pw.Spec Tryz.prog 140 [.agg (eLine l)] (fun res_ => res_ = .agg (eItem (itemOf l))) := by
  refine spec_of (n := 14) Tryz.call140 Tryz.func140 rfl rfl (by simp) rfl rfl fun W Z => ?_
  refine PW.seq ?_
  refine PW.region ?_
  refine PL.run 2 rfl ?_
  refine PL.nil ?_
  refine PW.seq ?_
  refine PW.drawn ((some 3, _) :: (some 4, _) :: (some 5, _) :: (some 6, _) :: (some 7, _) :: (some 8, _) :: (some 9, _) :: (some 10, _) :: (some 11, _) :: (some 12, _) :: (some 13, _) :: (none, .junk) :: []) (0 :: 1 :: 0 :: 4 :: 0 :: 16 :: 0 :: 0 :: 128 :: 448 :: 1023 :: 2047 :: []) (phs [(11, _)] _ [(9, _), (6, _)] _) mixed rfl rfl rfl rfl rfl
    (.cons rfl (fun ρ => PL.run 1 rfl (PL.nil rfl)) <|
    .cons rfl (fun ρ => PL.run 1 rfl (PL.nil rfl)) <|
    .cons rfl (fun ρ => PL.run 1 rfl (PL.nil rfl)) <|
    .cons rfl (fun ρ => PL.run 1 rfl (PL.nil rfl)) <|
    .cons rfl (fun ρ => PL.run 1 rfl (PL.nil rfl)) <|
    .cons rfl (fun ρ => PL.run 1 rfl (PL.nil rfl)) <|
    .cons rfl (fun ρ => PL.run 1 rfl (PL.nil rfl)) <|
    .cons rfl (fun ρ => PL.run 1 rfl (PL.nil rfl)) <|
    .cons rfl (fun ρ => PL.run 1 rfl (PL.nil rfl)) <|
    .cons rfl (fun ρ => PL.app rfl rfl rfl rfl rfl rfl rfl rfl rfl rfl (by simp <;> omega) (by simp <;> omega) (wantV_ok rfl) rfl (PL.nil rfl)) <|
    .cons rfl (fun ρ => PL.val (OpV.build rfl rfl rfl rfl rfl rfl) (wantV_ok rfl) rfl (PL.nil rfl)) <|
    .cons rfl (fun ρ => PL.run 1 rfl (PL.nil rfl)) <|
    .nil _) ?_
  refine PW.ret ?_
  refine RetOk.of rfl (.one (.agg (.cons (.same _ rfl) (.cons (.same _ rfl) (.cons (.same _ rfl) (.cons (.ro _ _ _) .nil)))))) (by simp) (by simp) ?_
  simp [eItem, eBs, itemOf]
def noText : ByteArray := { data := #[] }
def lineOk (l : Line) : Bool :=
  if l.kind = 1 then itemOk (itemOf l)
  else if l.kind = 2 then isRoute l.route && (decide (l.topic = 0) && (decide (l.due = 0) && decide (l.bytes.length = 0)))
  else if l.kind = 3 then decide (l.route = noText) && (decide (l.topic = 0) && (inB l.due 0 100000 && decide (l.bytes.length = 0)))
  else false
/- spec.LineOk -/
theorem spec_LineOk_spec (l : Line) (h : l.bytes.length ≤ 16777216) (hs : l.route.size ≤ 1099511627776) : Pw.Spec Tryz.prog 159 [.agg (eLine l)] (fun res_ => res_ = eT (lineOk l)) := by
  refine spec_of (n := 52) Tryz.call159 Tryz.func159 rfl rfl (by simp) rfl rfl fun W Z => ?_
  refine PW.seq ?_
  refine PW.region ?_
  refine PL.run 2 rfl ?_
  refine PL.nil ?_
  refine PW.seq ?_
  refine PW.seq ?_
  refine PW.region ?_
  refine PL.run 2 rfl ?_
  refine PL.nil ?_
  refine PW.block ?_
  refine PW.seq ?_
  refine PW.region ?_
  refine PL.run 2 rfl ?_
  refine PL.nil ?_
  refine PW.cond rfl (fun h1 => ?_) (fun h1 => ?_)
  ·
    refine PW.seq ?_
    refine PW.region ?_
    refine PL.run 1 rfl ?_
    refine PL.call rfl rfl rfl (spec_l14Item_spec l h) (.cons (.refl _) <| .nil) (fun p hp => by subst hp; rfl) (wantV_ok rfl) rfl (fun p hp => ?_)
    subst hp
    refine PL.call rfl rfl rfl (spec_ItemOk_spec (itemOf l) hs) (.cons (.refl _) <| .nil) (fun p hp => by subst hp; rfl) (wantV_ok rfl) rfl (fun p hp => ?_)
    subst hp
    refine PL.run 1 rfl ?_
    refine PL.nil ?_
    refine PW.ret ?_
    refine RetOk.free rfl rfl ?_
    simp_all [lineOk, noText]
  ·
    refine PW.seq ?_
    refine PW.region ?_
    refine PL.run 2 rfl ?_
    refine PL.nil ?_
    refine PW.cond rfl (fun h2 => ?_) (fun h2 => ?_)
    ·
      refine PW.seq ?_
      refine PW.region ?_
      refine PL.run 2 rfl ?_
      refine PL.call rfl rfl rfl (spec_l13Route_spec l.route hs) (.cons (.refl _) <| .nil) (fun p hp => by subst hp; rfl) (wantV_ok rfl) rfl (fun p hp => ?_)
      subst hp
      refine PL.run 1 rfl ?_
      refine PL.split (t := 15) rfl (fun h3 => ?_) (fun h3 => ?_)
      ·
        refine PL.run 5 rfl ?_
        refine PL.split (t := 20) rfl (fun h4 => ?_) (fun h4 => ?_)
        ·
          refine PL.run 5 rfl ?_
          refine PL.split (t := 25) rfl (fun h5 => ?_) (fun h5 => ?_)
          ·
            refine PL.run 6 rfl ?_
            refine PL.nil ?_
            refine PW.ret ?_
            refine RetOk.free rfl rfl ?_
            simp_all [lineOk, noText]
          ·
            refine PL.run 6 rfl ?_
            refine PL.nil ?_
            refine PW.ret ?_
            refine RetOk.free rfl rfl ?_
            simp_all [lineOk, noText]
        ·
          refine PL.run 11 rfl ?_
          refine PL.nil ?_
          refine PW.ret ?_
          refine RetOk.free rfl rfl ?_
          simp_all [lineOk, noText]
      ·
        refine PL.run 16 rfl ?_
        refine PL.nil ?_
        refine PW.ret ?_
        refine RetOk.free rfl rfl ?_
        simp_all [lineOk, noText]
    ·
      refine PW.seq ?_
      refine PW.region ?_
      refine PL.run 2 rfl ?_
      refine PL.nil ?_
      refine PW.cond rfl (fun h6 => ?_) (fun h6 => ?_)
      ·
        refine PW.seq ?_
        refine PW.region ?_
        refine PL.run 4 rfl ?_
        refine PL.split (t := 36) rfl (fun h7 => ?_) (fun h7 => ?_)
        ·
          refine PL.run 5 rfl ?_
          refine PL.split (t := 41) rfl (fun h8 => ?_) (fun h8 => ?_)
          ·
            refine PL.run 2 rfl ?_
            refine PL.call rfl rfl rfl (spec_l1In_spec l.due 0 100000) (.cons (.refl _) <| .cons (.refl _) <| .cons (.refl _) <| .nil) (fun p hp => by subst hp; rfl) (wantV_ok rfl) rfl (fun p hp => ?_)
            subst hp
            refine PL.run 2 rfl ?_
            refine PL.split (t := 46) rfl (fun h9 => ?_) (fun h9 => ?_)
            ·
              refine PL.run 6 rfl ?_
              refine PL.nil ?_
              refine PW.ret ?_
              refine RetOk.free rfl rfl ?_
              simp_all [lineOk, noText]
            ·
              refine PL.run 6 rfl ?_
              refine PL.nil ?_
              refine PW.ret ?_
              refine RetOk.free rfl rfl ?_
              simp_all [lineOk, noText]
          ·
            refine PL.run 11 rfl ?_
            refine PL.nil ?_
            refine PW.ret ?_
            refine RetOk.free rfl rfl ?_
            simp_all [lineOk, noText]
        ·
          refine PL.run 16 rfl ?_
          refine PL.nil ?_
          refine PW.ret ?_
          refine RetOk.free rfl rfl ?_
          simp_all [lineOk, noText]
      ·
        refine PW.skip ?_
        refine PW.seq ?_
        refine PW.region ?_
        refine PL.run 1 rfl ?_
        refine PL.nil ?_
        refine PW.ret ?_
        refine RetOk.free rfl rfl ?_
        simp_all [lineOk, noText]
end Go.Wl
set_option linter.unusedVariables false
set_option linter.unusedSimpArgs false
set_option maxRecDepth 100000
namespace Go.Wl
open Go Go.RowKit Go.Pw Go.Proofs
def u8 (n : Int) : UInt8 := UInt8.ofNat (IntKind.u8.wrap n).toNat
theorem u8_eb (n : Int) : eb (u8 n) = [.lit (.int .u8 (IntKind.u8.wrap n))] := by
  have hb : IntKind.u8.bits = 8 := rfl
  have hs : IntKind.u8.signed = false := rfl
  have h : IntKind.u8.wrap n = n % 256 := by simp [IntKind.wrap, hb, hs]
  simp only [eb, u8, h]
  have h0 : 0 ≤ n % 256 := Int.emod_nonneg _ (by decide)
  have h1 : n % 256 < 256 := Int.emod_lt_of_pos _ (by decide)
  rw [UInt8.toNat_ofNat', show (2 : Nat) ^ 8 = 256 from rfl, Nat.mod_eq_of_lt (by omega)]
  rw [Int.toNat_of_nonneg h0]
def lineRoute (l : Line) : List UInt8 := if l.kind = 3 then List.replicate 8 0 else (unhex l.route).getD []
def lineBody (l : Line) : List UInt8 := u8 l.kind :: (lineRoute l ++ (u8 l.topic :: (great l.due 4 ++ (great (l.bytes.length : Nat) 2 ++ l.bytes))))
def lineBytes (l : Line) : List UInt8 := if lineOk l then lineBody l ++ great ((lineBody l).length : Nat) 2 else []
theorem unhexL_len : ∀ (b l : List UInt8), unhexL b = some l → l.length ≤ b.length
  | [], l, h => by simp [unhexL] at h; subst h; exact Nat.le_refl _
  | [_], l, h => by simp [unhexL] at h
  | x :: y :: r, l, h => by
    simp only [unhexL] at h
    split at h
    · cases h
    · split at h
      · rename_i l' hl
        cases h
        have := unhexL_len r l' hl
        simp; omega
      · cases h
theorem lineOk_due {l : Line} (h : lineOk l = true) : 0 ≤ l.due ∧ l.due ≤ 100000 := by
  unfold lineOk at h
  split at h
  · simp [itemOk, inB, itemOf] at h; exact ⟨of_decide_eq_true h.2.2.1.1, of_decide_eq_true h.2.2.1.2⟩
  · split at h
    · simp at h; omega
    · split at h
      · simp [inB] at h; omega
      · cases h
theorem great_len (n many : Int) : (great n many).length ≤ 8 := by
  unfold great; rw [List.length_reverse]; exact little_len n many
theorem bndG {k m c : Nat} {n many : Int} (h : (k + 8) * m ≤ c) : (k + ((great n many).map eb).length) * m ≤ c :=
  Nat.le_trans (Nat.mul_le_mul_right _ (Nat.add_le_add_left (by rw [List.length_map]; exact great_len _ _) _)) h
theorem bndG' {k c : Nat} {n many : Int} (h : k + 8 ≤ c) : k + ((great n many).map eb).length ≤ c :=
  Nat.le_trans (Nat.add_le_add_left (by rw [List.length_map]; exact great_len _ _) _) h
theorem unhex_len (s : ByteArray) : ((unhex s).getD []).length ≤ s.size := by
  cases h : unhex s with
  | none => simp
  | some l => exact unhexL_len _ l h
theorem lineRoute_len {l : Line} (h : l.route.size ≤ 1099511627776) : (lineRoute l).length ≤ 1099511627776 := by
  unfold lineRoute
  split
  · simp
  · exact Nat.le_trans (unhex_len _) h
/- spec.LineBytes -/
theorem spec_LineBytes_spec (l : Line) (h : l.bytes.length ≤ 16777216) (hs : l.route.size ≤ 1099511627776) : Pw.Spec Tryz.prog 138 [.agg (eLine l)] (fun res_ => res_ = eBs (lineBytes l)) := by
  refine spec_of (n := 52) Tryz.call138 Tryz.func138 rfl rfl (by simp) rfl rfl fun W Z => ?_
  refine PW.seq ?_
  refine PW.region ?_
  refine PL.run 2 rfl ?_
  refine PL.nil ?_
  refine PW.seq ?_
  refine PW.seq ?_
  refine PW.region ?_
  refine PL.run 1 rfl ?_
  refine PL.call rfl rfl rfl (spec_LineOk_spec l h hs) (.cons (.refl _) <| .nil) (fun p hp => by subst hp; rfl) (wantV_ok rfl) rfl (fun p hp => ?_)
  subst hp
  refine PL.run 1 rfl ?_
  refine PL.nil ?_
  refine PW.cond rfl (fun h1 => ?_) (fun h1 => ?_)
  ·
    refine PW.seq ?_
    refine PW.region ?_
    refine PL.run 2 rfl ?_
    refine PL.nil ?_
    refine PW.ret ?_
    refine RetOk.of rfl (.one (.leaf (.ro _ _ _))) (by simp) (by simp) ?_
    have : lineOk l = false := by simpa using h1
    simp [lineBytes, this, eBs]
  ·
    have hok : lineOk l = true := by simpa using h1
    have hdue := lineOk_due hok
    have g4 := great_len l.due 4
    have g2 := great_len (l.bytes.length : Nat) 2
    have hr := lineRoute_len hs
    refine PW.skip ?_
    refine PW.seq ?_
    refine PW.region ?_
    refine PL.run 2 rfl ?_
    refine PL.call rfl rfl rfl (spec_Unhex_spec l.route hs) (.cons (.refl _) <| .nil) (fun p hp => by subst hp; rfl) (wantV_ok rfl) rfl (fun p hp => ?_)
    subst hp
    refine PL.run 5 rfl ?_
    refine PL.nil ?_
    refine PW.seq ?_
    refine PW.seq ?_
    refine PW.region ?_
    refine PL.run 3 rfl ?_
    refine PL.nil ?_
    refine PW.cond rfl (fun h2 => ?_) (fun h2 => ?_)
    ·
      have hk : l.kind = 3 := by simpa using h2
      have er : lineRoute l = List.replicate 8 0 := by simp [lineRoute, hk]
      refine PW.region ?_
      refine PL.make rfl rfl rfl rfl rfl rfl rfl rfl rfl (by decide) (by decide) rfl (wantV_ok rfl) rfl ?_
      refine PL.le (Le.freezeBS (tv := 19) (sz := 1) (es := (List.replicate 8 (0 : UInt8)).map eb) (r := []) (b := [(1, (120, eLine l))]) (e := [(1, .bx 1 0)]) rfl rfl rfl rfl rfl (by simp [eb]) (by decide) rfl) ?_
      refine PL.run 1 rfl ?_
      refine PL.nil ?_
      refine PW.seq ?_
      refine PW.region ?_
      refine PL.run 5 rfl ?_
      refine PL.app rfl rfl rfl rfl rfl rfl rfl rfl rfl rfl (by simp <;> omega) (by simp <;> omega) (wantV_ok rfl) rfl ?_
      refine PL.run 1 rfl ?_
      refine PL.nil ?_
      refine PW.seq ?_
      refine PW.region ?_
      refine PL.run 5 rfl ?_
      refine PL.app rfl rfl rfl rfl rfl rfl rfl rfl rfl rfl (by simp <;> omega) (by simp <;> omega) (wantV_ok rfl) rfl ?_
      refine PL.run 1 rfl ?_
      refine PL.nil ?_
      refine PW.seq ?_
      refine PW.region ?_
      refine PL.run 3 rfl ?_
      refine PL.call rfl rfl rfl (spec_Great_ro l.due 4 (by omega)) (.cons (.refl _) <| .cons (.refl _) <| .nil) (fun p hp => by subst hp; rfl) (wantV_ok rfl) rfl (fun p hp => ?_)
      subst hp
      refine PL.app rfl rfl rfl rfl rfl rfl rfl rfl rfl rfl (by simp <;> omega) (by simp <;> omega) (wantV_ok rfl) rfl ?_
      refine PL.run 1 rfl ?_
      refine PL.nil ?_
      refine PW.seq ?_
      refine PW.region ?_
      refine PL.run 4 rfl ?_
      refine PL.call rfl rfl rfl (spec_Great_ro (((l.bytes.map eb).length : Nat) : Int) 2 (by simp; omega)) (.cons (.refl _) <| .cons (.refl _) <| .nil) (fun p hp => by subst hp; rfl) (wantV_ok rfl) rfl (fun p hp => ?_)
      subst hp
      refine PL.app rfl rfl rfl rfl rfl rfl rfl rfl rfl rfl (by simp <;> omega) (by simp <;> omega) (wantV_ok rfl) rfl ?_
      refine PL.run 1 rfl ?_
      refine PL.nil ?_
      refine PW.seq ?_
      refine PW.region ?_
      refine PL.run 3 rfl ?_
      refine PL.app rfl rfl rfl rfl rfl rfl rfl rfl rfl rfl (by simp <;> omega) (by simp <;> omega) (wantV_ok rfl) rfl ?_
      refine PL.run 1 rfl ?_
      refine PL.nil ?_
      refine PW.seq ?_
      refine PW.region ?_
      refine PL.run 3 rfl ?_
      refine PL.call rfl rfl rfl (spec_Great_ro _ 2 (by simp; omega)) (.cons (.refl _) <| .cons (.refl _) <| .nil) (fun p hp => by subst hp; rfl) (wantV_ok rfl) rfl (fun p hp => ?_)
      subst hp
      refine PL.app rfl rfl rfl rfl rfl rfl rfl rfl rfl rfl (bndG (by simp <;> omega)) (bndG' (by simp <;> omega)) (wantV_ok rfl) rfl ?_
      refine PL.run 1 rfl ?_
      refine PL.nil ?_
      refine PW.ret ?_
      refine RetOk.of rfl (.one (.leaf (.ro _ _ _))) (by simp) (by simp) ?_
      simp only [lineBytes, hok, if_true]
      have e : ([[PV.lit (.int .u8 (IntKind.u8.wrap l.kind))]] ++ (lineRoute l).map eb ++ [[PV.lit (.int .u8 (IntKind.u8.wrap l.topic))]] ++ (great l.due 4).map eb ++ (great (l.bytes.length : Nat) 2).map eb ++ l.bytes.map eb) = (lineBody l).map eb := by simp [lineBody, u8_eb]
      rw [er] at e
      simp only [eBs, List.length_map] at e ⊢
      rw [e]
      simp [List.map_append]
    ·
      have hk : l.kind ≠ 3 := by simpa using h2
      have er : lineRoute l = (unhex l.route).getD [] := by simp [lineRoute, hk]
      rw [er] at hr
      refine PW.skip ?_
      refine PW.seq ?_
      refine PW.region ?_
      refine PL.run 5 rfl ?_
      refine PL.app rfl rfl rfl rfl rfl rfl rfl rfl rfl rfl (by simp <;> omega) (by simp <;> omega) (wantV_ok rfl) rfl ?_
      refine PL.run 1 rfl ?_
      refine PL.nil ?_
      refine PW.seq ?_
      refine PW.region ?_
      refine PL.run 5 rfl ?_
      refine PL.app rfl rfl rfl rfl rfl rfl rfl rfl rfl rfl (by simp <;> omega) (by simp <;> omega) (wantV_ok rfl) rfl ?_
      refine PL.run 1 rfl ?_
      refine PL.nil ?_
      refine PW.seq ?_
      refine PW.region ?_
      refine PL.run 3 rfl ?_
      refine PL.call rfl rfl rfl (spec_Great_ro l.due 4 (by omega)) (.cons (.refl _) <| .cons (.refl _) <| .nil) (fun p hp => by subst hp; rfl) (wantV_ok rfl) rfl (fun p hp => ?_)
      subst hp
      refine PL.app rfl rfl rfl rfl rfl rfl rfl rfl rfl rfl (by simp <;> omega) (by simp <;> omega) (wantV_ok rfl) rfl ?_
      refine PL.run 1 rfl ?_
      refine PL.nil ?_
      refine PW.seq ?_
      refine PW.region ?_
      refine PL.run 4 rfl ?_
      refine PL.call rfl rfl rfl (spec_Great_ro (((l.bytes.map eb).length : Nat) : Int) 2 (by simp; omega)) (.cons (.refl _) <| .cons (.refl _) <| .nil) (fun p hp => by subst hp; rfl) (wantV_ok rfl) rfl (fun p hp => ?_)
      subst hp
      refine PL.app rfl rfl rfl rfl rfl rfl rfl rfl rfl rfl (by simp <;> omega) (by simp <;> omega) (wantV_ok rfl) rfl ?_
      refine PL.run 1 rfl ?_
      refine PL.nil ?_
      refine PW.seq ?_
      refine PW.region ?_
      refine PL.run 3 rfl ?_
      refine PL.app rfl rfl rfl rfl rfl rfl rfl rfl rfl rfl (by simp <;> omega) (by simp <;> omega) (wantV_ok rfl) rfl ?_
      refine PL.run 1 rfl ?_
      refine PL.nil ?_
      refine PW.seq ?_
      refine PW.region ?_
      refine PL.run 3 rfl ?_
      refine PL.call rfl rfl rfl (spec_Great_ro _ 2 (by simp; omega)) (.cons (.refl _) <| .cons (.refl _) <| .nil) (fun p hp => by subst hp; rfl) (wantV_ok rfl) rfl (fun p hp => ?_)
      subst hp
      refine PL.app rfl rfl rfl rfl rfl rfl rfl rfl rfl rfl (bndG (by simp <;> omega)) (bndG' (by simp <;> omega)) (wantV_ok rfl) rfl ?_
      refine PL.run 1 rfl ?_
      refine PL.nil ?_
      refine PW.ret ?_
      refine RetOk.of rfl (.one (.leaf (.ro _ _ _))) (by simp) (by simp) ?_
      simp only [lineBytes, hok, if_true]
      have e : ([[PV.lit (.int .u8 (IntKind.u8.wrap l.kind))]] ++ (lineRoute l).map eb ++ [[PV.lit (.int .u8 (IntKind.u8.wrap l.topic))]] ++ (great l.due 4).map eb ++ (great (l.bytes.length : Nat) 2).map eb ++ l.bytes.map eb) = (lineBody l).map eb := by simp [lineBody, u8_eb]
      rw [er] at e
      simp only [eBs, List.length_map] at e ⊢
      rw [e]
      simp [List.map_append]
end Go.Wl
set_option linter.unusedVariables false
set_option linter.unusedSimpArgs false
set_option maxRecDepth 100000
set_option maxHeartbeats 8000000
namespace Go.Wl
open Go Go.RowKit Go.Pw Go.Proofs
def lineN (b : List UInt8) (i : Nat) : Nat := 256 * (b.getD (i + 14) 0).toNat + (b.getD (i + 15) 0).toNat
def lineAt (b : List UInt8) (i : Nat) : Line :=
  ⟨((b.getD i 0).toNat : Nat), if (b.getD i 0).toNat = 3 then noText else hex ((b.take (i + 9)).drop (i + 1)), ((b.getD (i + 9) 0).toNat : Nat), or4 (b.getD (i + 10) 0) (b.getD (i + 11) 0) (b.getD (i + 12) 0) (b.getD (i + 13) 0), (b.take (i + 16 + lineN b i)).drop (i + 16)⟩
def lineOf (b : List UInt8) (i : Nat) : Option (Line × Nat) :=
  if i + 18 ≤ b.length then
    if i + 18 + lineN b i ≤ b.length then
      if lineBytes (lineAt b i) = (b.take (i + 18 + lineN b i)).drop i then some (lineAt b i, i + 18 + lineN b i) else none
    else none
  else none
def line0 : Line := ⟨0, noText, 0, 0, []⟩
def lineR (o : Option (Line × Nat)) : PV := .tup [.agg (eLine (o.getD (line0, 0)).1), eI ((o.getD (line0, 0)).2 : Nat), eT o.isSome]
theorem u8_wrap64 (x : UInt8) : IntKind.i64.wrap (x.toNat : Int) = (x.toNat : Int) := by
  have := x.toNat_lt
  exact wrap_id (by omega) (by omega)
theorem lineN_wrap (b : List UInt8) (i : Nat) : IntKind.i64.wrap (IntKind.i64.wrap (256 * IntKind.i64.wrap ((b.getD (i + 14) 0).toNat : Int)) + IntKind.i64.wrap ((b.getD (i + 15) 0).toNat : Int)) = ((lineN b i : Nat) : Int) := by
  have h1 := (b.getD (i + 14) 0).toNat_lt
  have h2 := (b.getD (i + 15) 0).toNat_lt
  rw [u8_wrap64, u8_wrap64, wrap_id (x := 256 * _) (by omega) (by omega), wrap_id (by omega) (by omega)]
  simp [lineN]
theorem lineN_lt (b : List UInt8) (i : Nat) : lineN b i < 65536 := by
  have h1 := (b.getD (i + 14) 0).toNat_lt
  have h2 := (b.getD (i + 15) 0).toNat_lt
  unfold lineN; omega
theorem words_four {b : List UInt8} {i : Nat} (h : i + 14 ≤ b.length) : wordsL true ((b.take (i + 14)).drop (i + 10)) = [or4 (b.getD (i + 10) 0) (b.getD (i + 11) 0) (b.getD (i + 12) 0) (b.getD (i + 13) 0)] := by
  have hl : ((b.take (i + 14)).drop (i + 10)).length = 4 := by rw [List.length_drop, List.length_take]; omega
  have hg : ∀ j, j < 4 → ((b.take (i + 14)).drop (i + 10)).getD j 0 = b.getD (i + 10 + j) 0 := fun j hj => by
    simp only [List.getD_eq_getElem?_getD, List.getElem?_drop]
    rw [List.getElem?_take_of_lt (by omega)]
  simp only [wordsL, hl]
  simp only [show 4 / 4 = 1 from rfl, List.range_one, List.map_cons, List.map_nil, wordAt, if_true]
  rw [hg _ (by decide), hg _ (by decide), hg _ (by decide), hg _ (by decide)]
theorem cut_map (b : List UInt8) (h l : Nat) : ((b.map eb).take h).drop l = (((b.take h).drop l)).map eb := by simp [List.map_take, List.map_drop]
theorem lineAt_len (b : List UInt8) (i : Nat) : (lineAt b i).bytes.length ≤ b.length := by
  simp only [lineAt, List.length_drop, List.length_take]; omega
theorem hex_size (l : List UInt8) : (hex l).size = 2 * l.length := by
  rw [← hexL_len]; simp [hex, strOf, ByteArray.size]
theorem lineAt_size (b : List UInt8) (i : Nat) (h : i + 9 ≤ b.length) : (lineAt b i).route.size ≤ 16 := by
  simp only [lineAt]
  split
  · simp [noText, ByteArray.size]
  · rw [hex_size, List.length_drop, List.length_take]; omega
theorem wkeq {p q : PV} (h : p = q) : Wk p q := h ▸ .refl _
/- spec.LineOf -/
theorem spec_LineOf_spec (b : List UInt8) (i : Nat) (hb : b.length ≤ 16777216) (hat : i ≤ b.length) : Pw.Spec Tryz.prog 116 [eBs b, eI (i : Int)] (fun res_ => res_ = lineR (lineOf b i)) := by
  refine spec_of (n := 102) Tryz.call116 Tryz.func116 rfl rfl (by simp) rfl rfl fun W Z => ?_
  have a1 : Eqq (IntKind.i64.wrap ((i : Int) + 1)) ((i + 1 : Nat) : Int) := ⟨wadd 1 (by omega)⟩
  have a9 : Eqq (IntKind.i64.wrap ((i : Int) + 9)) ((i + 9 : Nat) : Int) := ⟨wadd 9 (by omega)⟩
  have a10 : Eqq (IntKind.i64.wrap ((i : Int) + 10)) ((i + 10 : Nat) : Int) := ⟨wadd 10 (by omega)⟩
  have a14 : Eqq (IntKind.i64.wrap ((i : Int) + 14)) ((i + 14 : Nat) : Int) := ⟨wadd 14 (by omega)⟩
  have a15 : Eqq (IntKind.i64.wrap ((i : Int) + 15)) ((i + 15 : Nat) : Int) := ⟨wadd 15 (by omega)⟩
  have a16 : Eqq (IntKind.i64.wrap ((i : Int) + 16)) ((i + 16 : Nat) : Int) := ⟨wadd 16 (by omega)⟩
  have a18 : Eqq (IntKind.i64.wrap ((i : Int) + 18)) ((i + 18 : Nat) : Int) := ⟨wadd 18 (by omega)⟩
  have hN := lineN_lt b i
  have b16 : Eqq (IntKind.i64.wrap (IntKind.i64.wrap ((i : Int) + 16) + ((lineN b i : Nat) : Int))) ((i + 16 + lineN b i : Nat) : Int) := ⟨by rw [a16.h]; exact wadd _ (by omega)⟩
  have b18 : Eqq (IntKind.i64.wrap (IntKind.i64.wrap ((i : Int) + 18) + ((lineN b i : Nat) : Int))) ((i + 18 + lineN b i : Nat) : Int) := ⟨by rw [a18.h]; exact wadd _ (by omega)⟩
  refine PW.seq ?_
  refine PW.region ?_
  refine PL.run 3 rfl ?_
  refine PL.nil ?_
  refine PW.seq ?_
  refine PW.seq ?_
  refine PW.region ?_
  refine PL.run 3 rfl ?_
  refine PL.split (t := 12) rfl (fun h1 => ?_) (fun h1 => ?_)
  ·
    refine PL.run 6 rfl ?_
    refine PL.nil ?_
    refine PW.condT rfl ?_
    refine PW.seq ?_
    refine PW.region ?_
    refine PL.val (OpV.build rfl rfl rfl rfl rfl rfl) (wantV_ok rfl) rfl ?_
    refine PL.run 3 rfl ?_
    refine PL.nil ?_
    refine PW.ret ?_
    exact absurd (of_decide_eq_true h1) (by omega)
  ·
    refine PL.run 6 rfl ?_
    refine PL.nil ?_
    refine PW.cond rfl (fun h2 => ?_) (fun h2 => ?_)
    ·
      refine PW.seq ?_
      refine PW.region ?_
      refine PL.val (OpV.build rfl rfl rfl rfl rfl rfl) (wantV_ok rfl) rfl ?_
      refine PL.run 3 rfl ?_
      refine PL.nil ?_
      refine PW.ret ?_
      have h2 := of_decide_eq_true h2
      rw [List.length_map, wrap_id (by omega) (by omega)] at h2
      have e : lineOf b i = none := by unfold lineOf; rw [if_neg (by omega)]
      refine RetOk.of rfl (.tup (.cons (.agg (.cons (.same _ rfl) (.cons (.same _ rfl) (.cons (.same _ rfl) (.cons (.same _ rfl) (.cons (.nil0 1) .nil)))))) (.cons (.leaf (.same _ rfl)) (.cons (.leaf (.same _ rfl)) .nil)))) (by simp) (by simp) ?_
      rw [e]; rfl
    ·
      have h2' : i + 18 ≤ b.length := by
       have h2 := of_decide_eq_false h2
       rw [List.length_map, wrap_id (by omega) (by omega)] at h2
       omega
      clear h1 h2
      have q0 : i < b.length := by omega
      have q9 : i + 9 < b.length := by omega
      have q14 : i + 14 < b.length := by omega
      have q15 : i + 15 < b.length := by omega
      have s1 : i + 1 ≤ i + 9 := by omega
      have s10 : i + 10 ≤ i + 14 := by omega
      have s16 : i + 16 ≤ i + 16 + lineN b i := by omega
      have s18 : i ≤ i + 18 + lineN b i := by omega
      have lw : ((b.take (i + 14)).drop (i + 10)).length ≤ 1099511627776 := by rw [List.length_drop, List.length_take]; omega
      have lh : ((b.take (i + 9)).drop (i + 1)).length ≤ 1099511627776 := by rw [List.length_drop, List.length_take]; omega
      refine PW.skip ?_
      refine PW.seq ?_
      refine PW.drawn ((some 20, _) :: (some 21, _) :: (some 22, _) :: (some 23, _) :: (some 24, _) :: (some 25, _) :: (some 26, _) :: (some 27, _) :: (some 28, _) :: (some 29, _) :: (some 30, _) :: (some 31, _) :: (some 32, _) :: (some 33, _) :: (some 7, _) :: []) (0 :: 0 :: 2 :: 7 :: 15 :: 31 :: 63 :: 0 :: 0 :: 256 :: 896 :: 1920 :: 3968 :: 8191 :: 16383 :: []) (fun _ => _) mixed rfl rfl rfl rfl rfl
        (.cons rfl (fun ρ => PL.run 1 rfl (PL.nil rfl)) <|
        .cons rfl (fun ρ => PL.run 1 rfl (PL.nil rfl)) <|
        .cons rfl (fun ρ => PL.run 1 rfl (PL.nil rfl)) <|
        .cons rfl (fun ρ => PL.val (OpV.idx rfl rfl rfl (idx0 a14) (idx1 a14 (map_at (getD_at q14))) rfl rfl rfl rfl) (wantV_ok rfl) rfl (PL.nil rfl)) <|
        .cons rfl (fun ρ => PL.run 1 rfl (PL.nil rfl)) <|
        .cons rfl (fun ρ => PL.run 1 rfl (PL.nil rfl)) <|
        .cons rfl (fun ρ => PL.run 1 rfl (PL.nil rfl)) <|
        .cons rfl (fun ρ => PL.run 1 rfl (PL.nil rfl)) <|
        .cons rfl (fun ρ => PL.run 1 rfl (PL.nil rfl)) <|
        .cons rfl (fun ρ => PL.run 1 rfl (PL.nil rfl)) <|
        .cons rfl (fun ρ => PL.val (OpV.idx rfl rfl rfl (idx0 a15) (idx1 a15 (map_at (getD_at q15))) rfl rfl rfl rfl) (wantV_ok rfl) rfl (PL.nil rfl)) <|
        .cons rfl (fun ρ => PL.run 1 rfl (PL.nil rfl)) <|
        .cons rfl (fun ρ => PL.run 1 rfl (PL.nil rfl)) <|
        .cons rfl (fun ρ => PL.run 1 rfl (PL.nil rfl)) <|
        .cons rfl (fun ρ => PL.run 1 rfl (PL.nil rfl)) <|
        .nil _) ?_
      refine PW.seq ?_
      refine PW.seq ?_
      refine PW.region ?_
      refine PL.run 7 rfl ?_
      refine PL.nil ?_
      refine PW.cond rfl (fun h3 => ?_) (fun h3 => ?_)
      ·
        have h3' : ¬ i + 18 + lineN b i ≤ b.length := by
         have h3 := of_decide_eq_true h3
         rw [lineN_wrap, List.length_map, wrap_id (x := (_ : Int) - (i : Int)) (by omega) (by omega), wrap_id (by omega) (by omega)] at h3
         omega
        refine PW.seq ?_
        refine PW.region ?_
        refine PL.val (OpV.build rfl rfl rfl rfl rfl rfl) (wantV_ok rfl) rfl ?_
        refine PL.run 3 rfl ?_
        refine PL.nil ?_
        refine PW.ret ?_
        have e : lineOf b i = none := by unfold lineOf; rw [if_pos h2', if_neg h3']
        refine RetOk.of rfl (.tup (.cons (.agg (.cons (.same _ rfl) (.cons (.same _ rfl) (.cons (.same _ rfl) (.cons (.same _ rfl) (.cons (.nil0 1) .nil)))))) (.cons (.leaf (.same _ rfl)) (.cons (.leaf (.same _ rfl)) .nil)))) (by simp) (by simp) ?_
        rw [e]; rfl
      ·
        have h3' : i + 18 + lineN b i ≤ b.length := by
         have h3 := of_decide_eq_false h3
         rw [lineN_wrap, List.length_map, wrap_id (x := (_ : Int) - (i : Int)) (by omega) (by omega), wrap_id (by omega) (by omega)] at h3
         omega
        clear h3
        have q16 : i + 16 + lineN b i ≤ b.length := by omega
        have c16 : Eqq _ _ := ⟨(congrArg (fun n => IntKind.i64.wrap (IntKind.i64.wrap ((i : Int) + 16) + n)) (lineN_wrap b i)).trans b16.h⟩
        have c18 : Eqq _ _ := ⟨(congrArg (fun n => IntKind.i64.wrap (IntKind.i64.wrap ((i : Int) + 18) + n)) (lineN_wrap b i)).trans b18.h⟩
        have hlo := lineAt_len b i
        have hls := lineAt_size b i (by omega)
        have hlo' : (lineAt b i).bytes.length ≤ 16777216 := by omega
        have hls' : (lineAt b i).route.size ≤ 1099511627776 := by omega
        refine PW.skip ?_
        refine PW.seq ?_
        refine PW.region ?_
        refine PL.run 5 rfl ?_
        refine PL.val (OpV.cut rfl rfl rfl rfl rfl rfl (l := i + 10) (h := i + 14) (eqS a10) (eqS a14) s10 (mapLe (Nat.le_of_lt q14))) (wantV_ok rfl) rfl ?_
        refine PL.call rfl rfl rfl (spec_Words_ro ((b.take (i + 14)).drop (i + 10)) true lw) (.cons (wkrow (cut_map _ _ _)) <| .cons (.refl _) <| .nil) (fun p hp => by subst hp; rfl) (wantV_ok rfl) rfl (fun p hp => ?_)
        subst hp
        refine PL.run 1 rfl ?_
        refine PL.nil ?_
        refine PW.seq ?_
        refine PW.drawn ((some 49, _) :: (some 50, _) :: (some 51, _) :: (some 52, _) :: (some 53, _) :: (some 54, _) :: (some 55, _) :: (some 56, _) :: (some 57, _) :: (some 58, _) :: (some 59, _) :: (some 60, _) :: (some 61, _) :: (some 62, _) :: (some 63, _) :: (some 64, _) :: (some 65, _) :: (some 66, _) :: (some 67, _) :: (some 68, _) :: (some 69, _) :: (some 70, _) :: (some 71, _) :: (some 72, _) :: (some 73, _) :: (some 74, _) :: (some 75, _) :: (some 76, _) :: (some 77, _) :: (some 78, _) :: (some 79, _) :: (some 80, _) :: (some 9, _) :: (none, .junk) :: []) (0 :: 0 :: 3 :: 7 :: 15 :: 0 :: 0 :: 64 :: 0 :: 256 :: 992 :: 2016 :: 0 :: 0 :: 8192 :: 28672 :: 61440 :: 126976 :: 0 :: 262144 :: 786432 :: 0 :: 0 :: 0 :: 8388608 :: 0 :: 33554432 :: 0 :: 234881024 :: 532676608 :: 1071648736 :: 2147483647 :: 0 :: 8589934591 :: []) (phs [(33, _), (32, _)] _ [(30, _), (21, _)] _) mixed rfl rfl rfl rfl rfl
          (.cons rfl (fun ρ => PL.run 1 rfl (PL.nil rfl)) <|
          .cons rfl (fun ρ => PL.run 1 rfl (PL.nil rfl)) <|
          .cons rfl (fun ρ => PL.val (OpV.idx rfl rfl rfl (nat_nonneg _) (map_at' (getD_at q0)) rfl rfl rfl rfl) (wantV_ok rfl) rfl (PL.nil rfl)) <|
          .cons rfl (fun ρ => PL.run 1 rfl (PL.nil rfl)) <|
          .cons rfl (fun ρ => PL.run 1 rfl (PL.nil rfl)) <|
          .cons rfl (fun ρ => PL.run 1 rfl (PL.nil rfl)) <|
          .cons rfl (fun ρ => PL.run 1 rfl (PL.nil rfl)) <|
          .cons rfl (fun ρ => PL.run 1 rfl (PL.nil rfl)) <|
          .cons rfl (fun ρ => PL.run 1 rfl (PL.nil rfl)) <|
          .cons rfl (fun ρ => PL.run 1 rfl (PL.nil rfl)) <|
          .cons rfl (fun ρ => PL.val (OpV.cut rfl rfl rfl rfl rfl rfl (l := i + 1) (h := i + 9) (eqS a1) (eqS a9) s1 (mapLe (Nat.le_of_lt q9))) (wantV_ok rfl) rfl (PL.nil rfl)) <|
          .cons rfl (fun ρ => PL.call rfl rfl rfl (spec_Hex_spec ((b.take (i + 9)).drop (i + 1)) lh) (.cons (wkrow (cut_map _ _ _)) .nil) (fun p hp => by subst hp; rfl) (wantV_ok rfl) rfl (fun p hp => by subst hp; exact PL.nil rfl)) <|
          .cons rfl (fun ρ => PL.run 1 rfl (PL.nil rfl)) <|
          .cons rfl (fun ρ => PL.run 1 rfl (PL.nil rfl)) <|
          .cons rfl (fun ρ => PL.run 1 rfl (PL.nil rfl)) <|
          .cons rfl (fun ρ => PL.val (OpV.idx rfl rfl rfl (idx0 a9) (idx1 a9 (map_at (getD_at q9))) rfl rfl rfl rfl) (wantV_ok rfl) rfl (PL.nil rfl)) <|
          .cons rfl (fun ρ => PL.run 1 rfl (PL.nil rfl)) <|
          .cons rfl (fun ρ => PL.run 1 rfl (PL.nil rfl)) <|
          .cons rfl (fun ρ => PL.run 1 rfl (PL.nil rfl)) <|
          .cons rfl (fun ρ => PL.val (OpV.idx rfl rfl rfl (l := [eI (or4 (b.getD (i + 10) 0) (b.getD (i + 11) 0) (b.getD (i + 12) 0) (b.getD (i + 13) 0))]) (Int.le_refl 0) (by rw [words_four (Nat.le_of_lt q14)]; rfl) rfl rfl rfl rfl) (wantV_ok rfl) rfl (PL.nil rfl)) <|
          .cons rfl (fun ρ => PL.run 1 rfl (PL.nil rfl)) <|
          .cons rfl (fun ρ => PL.run 1 rfl (PL.nil rfl)) <|
          .cons rfl (fun ρ => PL.run 1 rfl (PL.nil rfl)) <|
          .cons rfl (fun ρ => PL.run 1 rfl (PL.nil rfl)) <|
          .cons rfl (fun ρ => PL.run 1 rfl (PL.nil rfl)) <|
          .cons rfl (fun ρ => PL.run 1 rfl (PL.nil rfl)) <|
          .cons rfl (fun ρ => PL.run 1 rfl (PL.nil rfl)) <|
          .cons rfl (fun ρ => PL.run 1 rfl (PL.nil rfl)) <|
          .cons rfl (fun ρ => PL.run 1 rfl (PL.nil rfl)) <|
          .cons rfl (fun ρ => PL.val (OpV.cut rfl rfl rfl rfl rfl rfl (l := i + 16) (h := i + 16 + lineN b i) (eqS a16) (eqS c16) s16 (mapLe q16)) (wantV_ok rfl) rfl (PL.nil rfl)) <|
          .cons rfl (fun ρ => PL.app rfl rfl rfl rfl rfl rfl rfl rfl rfl rfl (by simp <;> omega) (by simp <;> omega) (wantV_ok rfl) rfl (PL.nil rfl)) <|
          .cons rfl (fun ρ => PL.val (OpV.build rfl rfl rfl rfl rfl rfl) (wantV_ok rfl) rfl (PL.nil rfl)) <|
          .cons rfl (fun ρ => PL.run 1 rfl (PL.nil rfl)) <|
          .cons rfl (fun ρ => PL.run 1 rfl (PL.nil rfl)) <|
          .nil _) ?_
        refine PW.seq ?_
        refine PW.seq ?_
        refine PW.region ?_
        refine PL.run 3 rfl ?_
        refine PL.nil ?_
        refine PW.cond rfl (fun h4 => ?_) (fun h4 => ?_)
        ·
          have kr : noText = (lineAt b i).route := by
           have h4 := of_decide_eq_true h4
           rw [u8_wrap64] at h4
           have : (b.getD i 0).toNat = 3 := by omega
           simp only [lineAt]; rw [if_pos this]
          refine PW.region ?_
          refine PL.run 2 rfl ?_
          refine PL.nil ?_
          refine PW.seq ?_
          refine PW.seq ?_
          refine PW.drawn ((some 85, _) :: (some 86, _) :: (some 87, _) :: (some 88, _) :: (some 89, _) :: (some 90, _) :: (some 91, _) :: (some 92, _) :: (some 93, _) :: (some 94, _) :: (some 95, _) :: []) (0 :: 1 :: 0 :: 0 :: 0 :: 16 :: 0 :: 112 :: 252 :: 511 :: 1023 :: []) (fun _ => _) mixed rfl rfl rfl rfl rfl
            (.cons rfl (fun ρ => PL.run 1 rfl (PL.nil rfl)) <|
            .cons rfl (fun ρ => PL.call rfl rfl rfl (spec_LineBytes_spec (lineAt b i) hlo' hls') (.cons (WkL.aggd (.cons (wkeq (congrArg eI (u8_wrap64 _))) <| .cons (wkeq (congrArg eS kr)) <| .cons (wkeq (congrArg eI (u8_wrap64 _))) <| .cons (.refl _) <| .cons (wkrow (cut_map _ _ _)) .nil)) .nil) (fun p hp => by subst hp; rfl) (wantV_ok rfl) rfl (fun p hp => by subst hp; exact PL.nil rfl)) <|
            .cons rfl (fun ρ => PL.run 1 rfl (PL.nil rfl)) <|
            .cons rfl (fun ρ => PL.run 1 rfl (PL.nil rfl)) <|
            .cons rfl (fun ρ => PL.run 1 rfl (PL.nil rfl)) <|
            .cons rfl (fun ρ => PL.run 1 rfl (PL.nil rfl)) <|
            .cons rfl (fun ρ => PL.run 1 rfl (PL.nil rfl)) <|
            .cons rfl (fun ρ => PL.run 1 rfl (PL.nil rfl)) <|
            .cons rfl (fun ρ => PL.val (OpV.cut rfl rfl rfl rfl rfl rfl (l := i) (h := i + 18 + lineN b i) rfl (eqS c18) s18 (mapLe h3')) (wantV_ok rfl) rfl (PL.nil rfl)) <|
            .cons rfl (fun ρ => PL.call rfl rfl rfl (spec_Same_spec (lineBytes (lineAt b i)) ((b.take (i + 18 + lineN b i)).drop i)) (.cons (.refl _) <| .cons (wkrow (cut_map _ _ _)) <| .nil) (fun p hp => by subst hp; rfl) (wantV_ok rfl) rfl (fun p hp => by subst hp; exact PL.nil rfl)) <|
            .cons rfl (fun ρ => PL.run 1 rfl (PL.nil rfl)) <|
            .nil _) ?_
          refine PW.cond rfl (fun h5 => ?_) (fun h5 => ?_)
          ·
            refine PW.seq ?_
            refine PW.region ?_
            refine PL.val (OpV.build rfl rfl rfl rfl rfl rfl) (wantV_ok rfl) rfl ?_
            refine PL.run 3 rfl ?_
            refine PL.nil ?_
            refine PW.ret ?_
            have e : lineOf b i = none := by unfold lineOf; rw [if_pos h2', if_pos h3', if_neg (by simpa using h5)]
            refine RetOk.of rfl (.tup (.cons (.agg (.cons (.same _ rfl) (.cons (.same _ rfl) (.cons (.same _ rfl) (.cons (.same _ rfl) (.cons (.nil0 1) .nil)))))) (.cons (.leaf (.same _ rfl)) (.cons (.leaf (.same _ rfl)) .nil)))) (by simp) (by simp) ?_
            rw [e]; rfl
          ·
            refine PW.skip ?_
            refine PW.seq ?_
            refine PW.region ?_
            refine PL.run 8 rfl ?_
            refine PL.nil ?_
            refine PW.ret ?_
            have e : lineOf b i = some (lineAt b i, i + 18 + lineN b i) := by unfold lineOf; rw [if_pos h2', if_pos h3', if_pos (by simpa using h5)]
            refine RetOk.of rfl (.tup (.cons (.agg (.cons (.same _ rfl) (.cons (.same _ rfl) (.cons (.same _ rfl) (.cons (.same _ rfl) (.cons (.ro _ _ _) .nil)))))) (.cons (.leaf (.same _ rfl)) (.cons (.leaf (.same _ rfl)) .nil)))) (by simp) (by simp) ?_
            rw [e]
            show PV.tup [.agg [eI _, eS noText, eI _, eI _, .sl 1 _ none], eI _, eT true] = PV.tup [.agg (eLine (lineAt b i)), eI _, eT true]
            rw [c18.h, u8_wrap64, u8_wrap64, kr, cut_map]; rfl
        ·
          have kr : hex ((b.take (i + 9)).drop (i + 1)) = (lineAt b i).route := by
           have h4 := of_decide_eq_false h4
           rw [u8_wrap64] at h4
           have : (b.getD i 0).toNat ≠ 3 := by omega
           simp only [lineAt]; rw [if_neg this]
          refine PW.skip ?_
          refine PW.seq ?_
          refine PW.seq ?_
          refine PW.drawn ((some 85, _) :: (some 86, _) :: (some 87, _) :: (some 88, _) :: (some 89, _) :: (some 90, _) :: (some 91, _) :: (some 92, _) :: (some 93, _) :: (some 94, _) :: (some 95, _) :: []) (0 :: 1 :: 0 :: 0 :: 0 :: 16 :: 0 :: 112 :: 252 :: 511 :: 1023 :: []) (fun _ => _) mixed rfl rfl rfl rfl rfl
            (.cons rfl (fun ρ => PL.run 1 rfl (PL.nil rfl)) <|
            .cons rfl (fun ρ => PL.call rfl rfl rfl (spec_LineBytes_spec (lineAt b i) hlo' hls') (.cons (WkL.aggd (.cons (wkeq (congrArg eI (u8_wrap64 _))) <| .cons (wkeq (congrArg eS kr)) <| .cons (wkeq (congrArg eI (u8_wrap64 _))) <| .cons (.refl _) <| .cons (wkrow (cut_map _ _ _)) .nil)) .nil) (fun p hp => by subst hp; rfl) (wantV_ok rfl) rfl (fun p hp => by subst hp; exact PL.nil rfl)) <|
            .cons rfl (fun ρ => PL.run 1 rfl (PL.nil rfl)) <|
            .cons rfl (fun ρ => PL.run 1 rfl (PL.nil rfl)) <|
            .cons rfl (fun ρ => PL.run 1 rfl (PL.nil rfl)) <|
            .cons rfl (fun ρ => PL.run 1 rfl (PL.nil rfl)) <|
            .cons rfl (fun ρ => PL.run 1 rfl (PL.nil rfl)) <|
            .cons rfl (fun ρ => PL.run 1 rfl (PL.nil rfl)) <|
            .cons rfl (fun ρ => PL.val (OpV.cut rfl rfl rfl rfl rfl rfl (l := i) (h := i + 18 + lineN b i) rfl (eqS c18) s18 (mapLe h3')) (wantV_ok rfl) rfl (PL.nil rfl)) <|
            .cons rfl (fun ρ => PL.call rfl rfl rfl (spec_Same_spec (lineBytes (lineAt b i)) ((b.take (i + 18 + lineN b i)).drop i)) (.cons (.refl _) <| .cons (wkrow (cut_map _ _ _)) <| .nil) (fun p hp => by subst hp; rfl) (wantV_ok rfl) rfl (fun p hp => by subst hp; exact PL.nil rfl)) <|
            .cons rfl (fun ρ => PL.run 1 rfl (PL.nil rfl)) <|
            .nil _) ?_
          refine PW.cond rfl (fun h6 => ?_) (fun h6 => ?_)
          ·
            refine PW.seq ?_
            refine PW.region ?_
            refine PL.val (OpV.build rfl rfl rfl rfl rfl rfl) (wantV_ok rfl) rfl ?_
            refine PL.run 3 rfl ?_
            refine PL.nil ?_
            refine PW.ret ?_
            have e : lineOf b i = none := by unfold lineOf; rw [if_pos h2', if_pos h3', if_neg (by simpa using h6)]
            refine RetOk.of rfl (.tup (.cons (.agg (.cons (.same _ rfl) (.cons (.same _ rfl) (.cons (.same _ rfl) (.cons (.same _ rfl) (.cons (.nil0 1) .nil)))))) (.cons (.leaf (.same _ rfl)) (.cons (.leaf (.same _ rfl)) .nil)))) (by simp) (by simp) ?_
            rw [e]; rfl
          ·
            refine PW.skip ?_
            refine PW.seq ?_
            refine PW.region ?_
            refine PL.run 8 rfl ?_
            refine PL.nil ?_
            refine PW.ret ?_
            have e : lineOf b i = some (lineAt b i, i + 18 + lineN b i) := by unfold lineOf; rw [if_pos h2', if_pos h3', if_pos (by simpa using h6)]
            refine RetOk.of rfl (.tup (.cons (.agg (.cons (.same _ rfl) (.cons (.same _ rfl) (.cons (.same _ rfl) (.cons (.same _ rfl) (.cons (.ro _ _ _) .nil)))))) (.cons (.leaf (.same _ rfl)) (.cons (.leaf (.same _ rfl)) .nil)))) (by simp) (by simp) ?_
            rw [e]
            show PV.tup [.agg [eI _, eS (hex ((b.take (i + 9)).drop (i + 1))), eI _, eI _, .sl 1 _ none], eI _, eT true] = PV.tup [.agg (eLine (lineAt b i)), eI _, eT true]
            rw [c18.h, u8_wrap64, u8_wrap64, kr, cut_map]; rfl
end Go.Wl
