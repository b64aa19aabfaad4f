/- The table of the program's types, for the engine. -/
import Derived.Test.YtkganhdglmbpoaaGreatPw7
import Derived.Test.YtkganhdglmbpoaaGreatProg
namespace Go.Pw
open Go Go.RowKit Go.Proofs
def tyT : List (Nat × TI) := [
  (2, ⟨.int .i64, 1, false, (Go.Value.int Go.IntKind.i64 0), 8⟩),
  (3, ⟨.int .i64, 1, false, (Go.Value.int Go.IntKind.i64 0), 8⟩),
  (4, ⟨.bool, 1, false, (Go.Value.bool false), 1⟩),
  (5, ⟨.int .u8, 1, false, (Go.Value.int Go.IntKind.u8 0), 1⟩),
  (6, ⟨.int .u8, 1, false, (Go.Value.int Go.IntKind.u8 0), 1⟩),
  (7, ⟨.struct [(0, 2), (1, 3), (2, 4), (3, 6)], 4, true, (Go.Value.agg #[Go.Value.int Go.IntKind.i64 0, Go.Value.int Go.IntKind.i64 0, Go.Value.bool false, Go.Value.int Go.IntKind.u8 0]), 24⟩),
  (8, ⟨.struct [(0, 2), (1, 3), (2, 4), (3, 6)], 4, true, (Go.Value.agg #[Go.Value.int Go.IntKind.i64 0, Go.Value.int Go.IntKind.i64 0, Go.Value.bool false, Go.Value.int Go.IntKind.u8 0]), 24⟩),
  (9, ⟨.str, 1, false, (Go.Value.string { data := #[] }), 16⟩),
  (10, ⟨.str, 1, false, (Go.Value.string { data := #[] }), 16⟩),
  (11, ⟨.str, 1, false, (Go.Value.string { data := #[] }), 16⟩),
  (12, ⟨.int .u64, 1, false, (Go.Value.int Go.IntKind.u64 0), 8⟩),
  (13, ⟨.struct [(0, 9), (1, 12)], 2, true, (Go.Value.agg #[Go.Value.string { data := #[] }, Go.Value.int Go.IntKind.u64 0]), 24⟩),
  (14, ⟨.struct [(0, 9), (1, 12)], 2, true, (Go.Value.agg #[Go.Value.string { data := #[] }, Go.Value.int Go.IntKind.u64 0]), 24⟩),
  (15, ⟨.other, 1, false, (Go.Value.pointer none), 8⟩),
  (16, ⟨.other, 1, false, (Go.Value.pointer none), 8⟩),
  (17, ⟨.other, 1, false, (Go.Value.pointer none), 8⟩),
  (18, ⟨.struct [(0, 17)], 1, true, (Go.Value.agg #[Go.Value.pointer none]), 8⟩),
  (19, ⟨.struct [(0, 17)], 1, true, (Go.Value.agg #[Go.Value.pointer none]), 8⟩),
  (20, ⟨.other, 1, false, Go.Value.nilIface, 16⟩),
  (21, ⟨.int .i32, 1, false, (Go.Value.int Go.IntKind.i32 0), 4⟩),
  (22, ⟨.slice 5, 1, false, (Go.Value.slice none 0 0), 24⟩),
  (23, ⟨.slice 92, 1, false, (Go.Value.slice none 0 0), 24⟩),
  (24, ⟨.struct [(0, 23), (1, 3), (2, 22), (3, 3)], 4, true, (Go.Value.agg #[Go.Value.slice none 0 0, Go.Value.int Go.IntKind.i64 0, Go.Value.slice none 0 0, Go.Value.int Go.IntKind.i64 0]), 64⟩),
  (25, ⟨.struct [(0, 23), (1, 3), (2, 22), (3, 3)], 4, true, (Go.Value.agg #[Go.Value.slice none 0 0, Go.Value.int Go.IntKind.i64 0, Go.Value.slice none 0 0, Go.Value.int Go.IntKind.i64 0]), 64⟩),
  (26, ⟨.slice 22, 1, false, (Go.Value.slice none 0 0), 24⟩),
  (27, ⟨.struct [(0, 22), (1, 3), (2, 26), (3, 26)], 4, true, (Go.Value.agg #[Go.Value.slice none 0 0, Go.Value.int Go.IntKind.i64 0, Go.Value.slice none 0 0, Go.Value.slice none 0 0]), 80⟩),
  (28, ⟨.struct [(0, 22), (1, 3), (2, 26), (3, 26)], 4, true, (Go.Value.agg #[Go.Value.slice none 0 0, Go.Value.int Go.IntKind.i64 0, Go.Value.slice none 0 0, Go.Value.slice none 0 0]), 80⟩),
  (29, ⟨.slice 94, 1, false, (Go.Value.slice none 0 0), 24⟩),
  (30, ⟨.slice 96, 1, false, (Go.Value.slice none 0 0), 24⟩),
  (31, ⟨.struct [(0, 22), (1, 3), (2, 3), (3, 25), (7, 28), (11, 29), (12, 30)], 13, true, (Go.Value.agg #[Go.Value.slice none 0 0, Go.Value.int Go.IntKind.i64 0, Go.Value.int Go.IntKind.i64 0, Go.Value.slice none 0 0, Go.Value.int Go.IntKind.i64 0, Go.Value.slice none 0 0, Go.Value.int Go.IntKind.i64 0, Go.Value.slice none 0 0, Go.Value.int Go.IntKind.i64 0, Go.Value.slice none 0 0, Go.Value.slice none 0 0, Go.Value.slice none 0 0, Go.Value.slice none 0 0]), 232⟩),
  (32, ⟨.struct [(0, 22), (1, 3), (2, 3), (3, 25), (7, 28), (11, 29), (12, 30)], 13, true, (Go.Value.agg #[Go.Value.slice none 0 0, Go.Value.int Go.IntKind.i64 0, Go.Value.int Go.IntKind.i64 0, Go.Value.slice none 0 0, Go.Value.int Go.IntKind.i64 0, Go.Value.slice none 0 0, Go.Value.int Go.IntKind.i64 0, Go.Value.slice none 0 0, Go.Value.int Go.IntKind.i64 0, Go.Value.slice none 0 0, Go.Value.slice none 0 0, Go.Value.slice none 0 0, Go.Value.slice none 0 0]), 232⟩),
  (35, ⟨.slice 64, 1, false, (Go.Value.slice none 0 0), 24⟩),
  (36, ⟨.struct [(0, 35), (1, 3), (2, 22), (3, 3)], 4, true, (Go.Value.agg #[Go.Value.slice none 0 0, Go.Value.int Go.IntKind.i64 0, Go.Value.slice none 0 0, Go.Value.int Go.IntKind.i64 0]), 64⟩),
  (37, ⟨.struct [(0, 35), (1, 3), (2, 22), (3, 3)], 4, true, (Go.Value.agg #[Go.Value.slice none 0 0, Go.Value.int Go.IntKind.i64 0, Go.Value.slice none 0 0, Go.Value.int Go.IntKind.i64 0]), 64⟩),
  (38, ⟨.struct [(0, 22), (1, 3), (2, 26), (3, 26)], 4, true, (Go.Value.agg #[Go.Value.slice none 0 0, Go.Value.int Go.IntKind.i64 0, Go.Value.slice none 0 0, Go.Value.slice none 0 0]), 80⟩),
  (39, ⟨.slice 71, 1, false, (Go.Value.slice none 0 0), 24⟩),
  (40, ⟨.slice 61, 1, false, (Go.Value.slice none 0 0), 24⟩),
  (41, ⟨.struct [(0, 22), (1, 3), (2, 3), (3, 37), (7, 38), (11, 39), (12, 40)], 13, true, (Go.Value.agg #[Go.Value.slice none 0 0, Go.Value.int Go.IntKind.i64 0, Go.Value.int Go.IntKind.i64 0, Go.Value.slice none 0 0, Go.Value.int Go.IntKind.i64 0, Go.Value.slice none 0 0, Go.Value.int Go.IntKind.i64 0, Go.Value.slice none 0 0, Go.Value.int Go.IntKind.i64 0, Go.Value.slice none 0 0, Go.Value.slice none 0 0, Go.Value.slice none 0 0, Go.Value.slice none 0 0]), 232⟩),
  (42, ⟨.struct [(0, 22), (1, 3), (2, 3), (3, 37), (7, 38), (11, 39), (12, 40)], 13, true, (Go.Value.agg #[Go.Value.slice none 0 0, Go.Value.int Go.IntKind.i64 0, Go.Value.int Go.IntKind.i64 0, Go.Value.slice none 0 0, Go.Value.int Go.IntKind.i64 0, Go.Value.slice none 0 0, Go.Value.int Go.IntKind.i64 0, Go.Value.slice none 0 0, Go.Value.int Go.IntKind.i64 0, Go.Value.slice none 0 0, Go.Value.slice none 0 0, Go.Value.slice none 0 0, Go.Value.slice none 0 0]), 232⟩),
  (60, ⟨.struct [(0, 9), (1, 3), (2, 22), (3, 22)], 4, true, (Go.Value.agg #[Go.Value.string { data := #[] }, Go.Value.int Go.IntKind.i64 0, Go.Value.slice none 0 0, Go.Value.slice none 0 0]), 72⟩),
  (61, ⟨.struct [(0, 9), (1, 3), (2, 22), (3, 22)], 4, true, (Go.Value.agg #[Go.Value.string { data := #[] }, Go.Value.int Go.IntKind.i64 0, Go.Value.slice none 0 0, Go.Value.slice none 0 0]), 72⟩),
  (63, ⟨.struct [(0, 9), (1, 3), (2, 3), (3, 22)], 4, true, (Go.Value.agg #[Go.Value.string { data := #[] }, Go.Value.int Go.IntKind.i64 0, Go.Value.int Go.IntKind.i64 0, Go.Value.slice none 0 0]), 56⟩),
  (64, ⟨.struct [(0, 9), (1, 3), (2, 3), (3, 22)], 4, true, (Go.Value.agg #[Go.Value.string { data := #[] }, Go.Value.int Go.IntKind.i64 0, Go.Value.int Go.IntKind.i64 0, Go.Value.slice none 0 0]), 56⟩),
  (70, ⟨.struct [(0, 4), (1, 64), (5, 22)], 6, true, (Go.Value.agg #[Go.Value.bool false, Go.Value.string { data := #[] }, Go.Value.int Go.IntKind.i64 0, Go.Value.int Go.IntKind.i64 0, Go.Value.slice none 0 0, Go.Value.slice none 0 0]), 88⟩),
  (71, ⟨.struct [(0, 4), (1, 64), (5, 22)], 6, true, (Go.Value.agg #[Go.Value.bool false, Go.Value.string { data := #[] }, Go.Value.int Go.IntKind.i64 0, Go.Value.int Go.IntKind.i64 0, Go.Value.slice none 0 0, Go.Value.slice none 0 0]), 88⟩),
  (92, ⟨.struct [(0, 9), (1, 3), (2, 3), (3, 22)], 4, true, (Go.Value.agg #[Go.Value.string { data := #[] }, Go.Value.int Go.IntKind.i64 0, Go.Value.int Go.IntKind.i64 0, Go.Value.slice none 0 0]), 56⟩),
  (93, ⟨.struct [(0, 4), (1, 92), (5, 22)], 6, true, (Go.Value.agg #[Go.Value.bool false, Go.Value.string { data := #[] }, Go.Value.int Go.IntKind.i64 0, Go.Value.int Go.IntKind.i64 0, Go.Value.slice none 0 0, Go.Value.slice none 0 0]), 88⟩),
  (94, ⟨.struct [(0, 4), (1, 92), (5, 22)], 6, true, (Go.Value.agg #[Go.Value.bool false, Go.Value.string { data := #[] }, Go.Value.int Go.IntKind.i64 0, Go.Value.int Go.IntKind.i64 0, Go.Value.slice none 0 0, Go.Value.slice none 0 0]), 88⟩),
  (96, ⟨.struct [(0, 9), (1, 3), (2, 22), (3, 22)], 4, true, (Go.Value.agg #[Go.Value.string { data := #[] }, Go.Value.int Go.IntKind.i64 0, Go.Value.slice none 0 0, Go.Value.slice none 0 0]), 72⟩),
  (119, ⟨.struct [(0, 3), (1, 9), (2, 3), (3, 3), (4, 22)], 5, true, (Go.Value.agg #[Go.Value.int Go.IntKind.i64 0, Go.Value.string { data := #[] }, Go.Value.int Go.IntKind.i64 0, Go.Value.int Go.IntKind.i64 0, Go.Value.slice none 0 0]), 64⟩),
  (120, ⟨.struct [(0, 3), (1, 9), (2, 3), (3, 3), (4, 22)], 5, true, (Go.Value.agg #[Go.Value.int Go.IntKind.i64 0, Go.Value.string { data := #[] }, Go.Value.int Go.IntKind.i64 0, Go.Value.int Go.IntKind.i64 0, Go.Value.slice none 0 0]), 64⟩),
  (140, ⟨.slice 3, 1, false, (Go.Value.slice none 0 0), 24⟩),
  (145, ⟨.int .u64, 1, false, (Go.Value.int Go.IntKind.u64 0), 8⟩),
  (156, ⟨.struct [(0, 17), (1, 17), (2, 17), (3, 9)], 4, true, (Go.Value.agg #[Go.Value.pointer none, Go.Value.pointer none, Go.Value.pointer none, Go.Value.string { data := #[] }]), 40⟩),
  (157, ⟨.struct [(0, 17), (1, 17), (2, 17), (3, 9)], 4, true, (Go.Value.agg #[Go.Value.pointer none, Go.Value.pointer none, Go.Value.pointer none, Go.Value.string { data := #[] }]), 40⟩),
  (158, ⟨.array 0 16, 0, true, (Go.Value.agg #[]), 0⟩),
  (159, ⟨.struct [(0, 158)], 0, true, (Go.Value.agg #[]), 0⟩),
  (160, ⟨.struct [(0, 158)], 0, true, (Go.Value.agg #[]), 0⟩),
  (162, ⟨.int .u32, 1, false, (Go.Value.int Go.IntKind.u32 0), 4⟩),
  (163, ⟨.int .u8, 1, false, (Go.Value.int Go.IntKind.u8 0), 1⟩),
  (164, ⟨.int .u8, 1, false, (Go.Value.int Go.IntKind.u8 0), 1⟩),
  (166, ⟨.other, 1, false, (Go.Value.pointer none), 8⟩),
  (167, ⟨.int .i32, 1, false, (Go.Value.int Go.IntKind.i32 0), 4⟩),
  (168, ⟨.int .i32, 1, false, (Go.Value.int Go.IntKind.i32 0), 4⟩),
  (169, ⟨.struct [(0, 12), (1, 12), (2, 162), (3, 163), (4, 5), (5, 5), (6, 164), (7, 165), (8, 166), (9, 167), (10, 168)], 11, true, (Go.Value.agg #[Go.Value.int Go.IntKind.u64 0, Go.Value.int Go.IntKind.u64 0, Go.Value.int Go.IntKind.u32 0, Go.Value.int Go.IntKind.u8 0, Go.Value.int Go.IntKind.u8 0, Go.Value.int Go.IntKind.u8 0, Go.Value.int Go.IntKind.u8 0, Go.Value.nilFunc, Go.Value.pointer none, Go.Value.int Go.IntKind.i32 0, Go.Value.int Go.IntKind.i32 0]), 48⟩),
  (170, ⟨.struct [(0, 12), (1, 12), (2, 162), (3, 163), (4, 5), (5, 5), (6, 164), (7, 165), (8, 166), (9, 167), (10, 168)], 11, true, (Go.Value.agg #[Go.Value.int Go.IntKind.u64 0, Go.Value.int Go.IntKind.u64 0, Go.Value.int Go.IntKind.u32 0, Go.Value.int Go.IntKind.u8 0, Go.Value.int Go.IntKind.u8 0, Go.Value.int Go.IntKind.u8 0, Go.Value.int Go.IntKind.u8 0, Go.Value.nilFunc, Go.Value.pointer none, Go.Value.int Go.IntKind.i32 0, Go.Value.int Go.IntKind.i32 0]), 48⟩),
  (171, ⟨.other, 1, false, (Go.Value.pointer none), 8⟩)]
theorem tyok0 : TIok Tryz.prog (tyT[0]'(by decide)).1 (tyT[0]'(by decide)).2 := ⟨Tryz.sizeOf2, Tryz.isAgg2, Tryz.zeroValue2, ⟨Tryz.t2, by kernel_rfl, rfl, rfl, rfl⟩, Tryz.underlying2⟩
theorem tyok1 : TIok Tryz.prog (tyT[1]'(by decide)).1 (tyT[1]'(by decide)).2 := ⟨Tryz.sizeOf3, Tryz.isAgg3, Tryz.zeroValue3, ⟨Tryz.t3, by kernel_rfl, rfl, rfl, rfl⟩, Tryz.underlying3⟩
theorem tyok2 : TIok Tryz.prog (tyT[2]'(by decide)).1 (tyT[2]'(by decide)).2 := ⟨Tryz.sizeOf4, Tryz.isAgg4, Tryz.zeroValue4, ⟨Tryz.t4, by kernel_rfl, rfl, rfl, rfl⟩, Tryz.underlying4⟩
theorem tyok3 : TIok Tryz.prog (tyT[3]'(by decide)).1 (tyT[3]'(by decide)).2 := ⟨Tryz.sizeOf5, Tryz.isAgg5, Tryz.zeroValue5, ⟨Tryz.t5, by kernel_rfl, rfl, rfl, rfl⟩, Tryz.underlying5⟩
theorem tyok4 : TIok Tryz.prog (tyT[4]'(by decide)).1 (tyT[4]'(by decide)).2 := ⟨Tryz.sizeOf6, Tryz.isAgg6, Tryz.zeroValue6, ⟨Tryz.t6, by kernel_rfl, rfl, rfl, rfl⟩, Tryz.underlying6⟩
theorem tyok5 : TIok Tryz.prog (tyT[5]'(by decide)).1 (tyT[5]'(by decide)).2 := ⟨Tryz.sizeOf7, Tryz.isAgg7, Tryz.zeroValue7, ⟨Tryz.t7, by kernel_rfl, rfl, rfl, rfl⟩, ⟨_, Tryz.underlying7, rfl⟩⟩
theorem tyok6 : TIok Tryz.prog (tyT[6]'(by decide)).1 (tyT[6]'(by decide)).2 := ⟨Tryz.sizeOf8, Tryz.isAgg8, Tryz.zeroValue8, ⟨Tryz.t8, by kernel_rfl, rfl, rfl, rfl⟩, ⟨_, Tryz.underlying8, rfl⟩⟩
theorem tyok7 : TIok Tryz.prog (tyT[7]'(by decide)).1 (tyT[7]'(by decide)).2 := ⟨Tryz.sizeOf9, Tryz.isAgg9, Tryz.zeroValue9, ⟨Tryz.t9, by kernel_rfl, rfl, rfl, rfl⟩, Tryz.underlying9⟩
theorem tyok8 : TIok Tryz.prog (tyT[8]'(by decide)).1 (tyT[8]'(by decide)).2 := ⟨Tryz.sizeOf10, Tryz.isAgg10, Tryz.zeroValue10, ⟨Tryz.t10, by kernel_rfl, rfl, rfl, rfl⟩, Tryz.underlying10⟩
theorem tyok9 : TIok Tryz.prog (tyT[9]'(by decide)).1 (tyT[9]'(by decide)).2 := ⟨Tryz.sizeOf11, Tryz.isAgg11, Tryz.zeroValue11, ⟨Tryz.t11, by kernel_rfl, rfl, rfl, rfl⟩, Tryz.underlying11⟩
theorem tyok10 : TIok Tryz.prog (tyT[10]'(by decide)).1 (tyT[10]'(by decide)).2 := ⟨Tryz.sizeOf12, Tryz.isAgg12, Tryz.zeroValue12, ⟨Tryz.t12, by kernel_rfl, rfl, rfl, rfl⟩, Tryz.underlying12⟩
theorem tyok11 : TIok Tryz.prog (tyT[11]'(by decide)).1 (tyT[11]'(by decide)).2 := ⟨Tryz.sizeOf13, Tryz.isAgg13, Tryz.zeroValue13, ⟨Tryz.t13, by kernel_rfl, rfl, rfl, rfl⟩, ⟨_, Tryz.underlying13, rfl⟩⟩
theorem tyok12 : TIok Tryz.prog (tyT[12]'(by decide)).1 (tyT[12]'(by decide)).2 := ⟨Tryz.sizeOf14, Tryz.isAgg14, Tryz.zeroValue14, ⟨Tryz.t14, by kernel_rfl, rfl, rfl, rfl⟩, ⟨_, Tryz.underlying14, rfl⟩⟩
theorem tyok13 : TIok Tryz.prog (tyT[13]'(by decide)).1 (tyT[13]'(by decide)).2 := ⟨Tryz.sizeOf15, Tryz.isAgg15, Tryz.zeroValue15, ⟨Tryz.t15, by kernel_rfl, rfl, rfl, rfl⟩, trivial⟩
theorem tyok14 : TIok Tryz.prog (tyT[14]'(by decide)).1 (tyT[14]'(by decide)).2 := ⟨Tryz.sizeOf16, Tryz.isAgg16, Tryz.zeroValue16, ⟨Tryz.t16, by kernel_rfl, rfl, rfl, rfl⟩, trivial⟩
theorem tyok15 : TIok Tryz.prog (tyT[15]'(by decide)).1 (tyT[15]'(by decide)).2 := ⟨Tryz.sizeOf17, Tryz.isAgg17, Tryz.zeroValue17, ⟨Tryz.t17, by kernel_rfl, rfl, rfl, rfl⟩, trivial⟩
theorem tyok16 : TIok Tryz.prog (tyT[16]'(by decide)).1 (tyT[16]'(by decide)).2 := ⟨Tryz.sizeOf18, Tryz.isAgg18, Tryz.zeroValue18, ⟨Tryz.t18, by kernel_rfl, rfl, rfl, rfl⟩, ⟨_, Tryz.underlying18, rfl⟩⟩
theorem tyok17 : TIok Tryz.prog (tyT[17]'(by decide)).1 (tyT[17]'(by decide)).2 := ⟨Tryz.sizeOf19, Tryz.isAgg19, Tryz.zeroValue19, ⟨Tryz.t19, by kernel_rfl, rfl, rfl, rfl⟩, ⟨_, Tryz.underlying19, rfl⟩⟩
theorem tyok18 : TIok Tryz.prog (tyT[18]'(by decide)).1 (tyT[18]'(by decide)).2 := ⟨Tryz.sizeOf20, Tryz.isAgg20, Tryz.zeroValue20, ⟨Tryz.t20, by kernel_rfl, rfl, rfl, rfl⟩, trivial⟩
theorem tyok19 : TIok Tryz.prog (tyT[19]'(by decide)).1 (tyT[19]'(by decide)).2 := ⟨Tryz.sizeOf21, Tryz.isAgg21, Tryz.zeroValue21, ⟨Tryz.t21, by kernel_rfl, rfl, rfl, rfl⟩, Tryz.underlying21⟩
theorem tyok20 : TIok Tryz.prog (tyT[20]'(by decide)).1 (tyT[20]'(by decide)).2 := ⟨Tryz.sizeOf22, Tryz.isAgg22, Tryz.zeroValue22, ⟨Tryz.t22, by kernel_rfl, rfl, rfl, rfl⟩, Tryz.underlying22⟩
theorem tyok21 : TIok Tryz.prog (tyT[21]'(by decide)).1 (tyT[21]'(by decide)).2 := ⟨Tryz.sizeOf23, Tryz.isAgg23, Tryz.zeroValue23, ⟨Tryz.t23, by kernel_rfl, rfl, rfl, rfl⟩, Tryz.underlying23⟩
theorem tyok22 : TIok Tryz.prog (tyT[22]'(by decide)).1 (tyT[22]'(by decide)).2 := ⟨Tryz.sizeOf24, Tryz.isAgg24, Tryz.zeroValue24, ⟨Tryz.t24, by kernel_rfl, rfl, rfl, rfl⟩, ⟨_, Tryz.underlying24, rfl⟩⟩
theorem tyok23 : TIok Tryz.prog (tyT[23]'(by decide)).1 (tyT[23]'(by decide)).2 := ⟨Tryz.sizeOf25, Tryz.isAgg25, Tryz.zeroValue25, ⟨Tryz.t25, by kernel_rfl, rfl, rfl, rfl⟩, ⟨_, Tryz.underlying25, rfl⟩⟩
theorem tyok24 : TIok Tryz.prog (tyT[24]'(by decide)).1 (tyT[24]'(by decide)).2 := ⟨Tryz.sizeOf26, Tryz.isAgg26, Tryz.zeroValue26, ⟨Tryz.t26, by kernel_rfl, rfl, rfl, rfl⟩, Tryz.underlying26⟩
theorem tyok25 : TIok Tryz.prog (tyT[25]'(by decide)).1 (tyT[25]'(by decide)).2 := ⟨Tryz.sizeOf27, Tryz.isAgg27, Tryz.zeroValue27, ⟨Tryz.t27, by kernel_rfl, rfl, rfl, rfl⟩, ⟨_, Tryz.underlying27, rfl⟩⟩
theorem tyok26 : TIok Tryz.prog (tyT[26]'(by decide)).1 (tyT[26]'(by decide)).2 := ⟨Tryz.sizeOf28, Tryz.isAgg28, Tryz.zeroValue28, ⟨Tryz.t28, by kernel_rfl, rfl, rfl, rfl⟩, ⟨_, Tryz.underlying28, rfl⟩⟩
theorem tyok27 : TIok Tryz.prog (tyT[27]'(by decide)).1 (tyT[27]'(by decide)).2 := ⟨Tryz.sizeOf29, Tryz.isAgg29, Tryz.zeroValue29, ⟨Tryz.t29, by kernel_rfl, rfl, rfl, rfl⟩, Tryz.underlying29⟩
theorem tyok28 : TIok Tryz.prog (tyT[28]'(by decide)).1 (tyT[28]'(by decide)).2 := ⟨Tryz.sizeOf30, Tryz.isAgg30, Tryz.zeroValue30, ⟨Tryz.t30, by kernel_rfl, rfl, rfl, rfl⟩, Tryz.underlying30⟩
theorem tyok29 : TIok Tryz.prog (tyT[29]'(by decide)).1 (tyT[29]'(by decide)).2 := ⟨Tryz.sizeOf31, Tryz.isAgg31, Tryz.zeroValue31, ⟨Tryz.t31, by kernel_rfl, rfl, rfl, rfl⟩, ⟨_, Tryz.underlying31, rfl⟩⟩
theorem tyok30 : TIok Tryz.prog (tyT[30]'(by decide)).1 (tyT[30]'(by decide)).2 := ⟨Tryz.sizeOf32, Tryz.isAgg32, Tryz.zeroValue32, ⟨Tryz.t32, by kernel_rfl, rfl, rfl, rfl⟩, ⟨_, Tryz.underlying32, rfl⟩⟩
theorem tyok31 : TIok Tryz.prog (tyT[31]'(by decide)).1 (tyT[31]'(by decide)).2 := ⟨Tryz.sizeOf35, Tryz.isAgg35, Tryz.zeroValue35, ⟨Tryz.t35, by kernel_rfl, rfl, rfl, rfl⟩, Tryz.underlying35⟩
theorem tyok32 : TIok Tryz.prog (tyT[32]'(by decide)).1 (tyT[32]'(by decide)).2 := ⟨Tryz.sizeOf36, Tryz.isAgg36, Tryz.zeroValue36, ⟨Tryz.t36, by kernel_rfl, rfl, rfl, rfl⟩, ⟨_, Tryz.underlying36, rfl⟩⟩
theorem tyok33 : TIok Tryz.prog (tyT[33]'(by decide)).1 (tyT[33]'(by decide)).2 := ⟨Tryz.sizeOf37, Tryz.isAgg37, Tryz.zeroValue37, ⟨Tryz.t37, by kernel_rfl, rfl, rfl, rfl⟩, ⟨_, Tryz.underlying37, rfl⟩⟩
theorem tyok34 : TIok Tryz.prog (tyT[34]'(by decide)).1 (tyT[34]'(by decide)).2 := ⟨Tryz.sizeOf38, Tryz.isAgg38, Tryz.zeroValue38, ⟨Tryz.t38, by kernel_rfl, rfl, rfl, rfl⟩, ⟨_, Tryz.underlying38, rfl⟩⟩
theorem tyok35 : TIok Tryz.prog (tyT[35]'(by decide)).1 (tyT[35]'(by decide)).2 := ⟨Tryz.sizeOf39, Tryz.isAgg39, Tryz.zeroValue39, ⟨Tryz.t39, by kernel_rfl, rfl, rfl, rfl⟩, Tryz.underlying39⟩
theorem tyok36 : TIok Tryz.prog (tyT[36]'(by decide)).1 (tyT[36]'(by decide)).2 := ⟨Tryz.sizeOf40, Tryz.isAgg40, Tryz.zeroValue40, ⟨Tryz.t40, by kernel_rfl, rfl, rfl, rfl⟩, Tryz.underlying40⟩
theorem tyok37 : TIok Tryz.prog (tyT[37]'(by decide)).1 (tyT[37]'(by decide)).2 := ⟨Tryz.sizeOf41, Tryz.isAgg41, Tryz.zeroValue41, ⟨Tryz.t41, by kernel_rfl, rfl, rfl, rfl⟩, ⟨_, Tryz.underlying41, rfl⟩⟩
theorem tyok38 : TIok Tryz.prog (tyT[38]'(by decide)).1 (tyT[38]'(by decide)).2 := ⟨Tryz.sizeOf42, Tryz.isAgg42, Tryz.zeroValue42, ⟨Tryz.t42, by kernel_rfl, rfl, rfl, rfl⟩, ⟨_, Tryz.underlying42, rfl⟩⟩
theorem tyok39 : TIok Tryz.prog (tyT[39]'(by decide)).1 (tyT[39]'(by decide)).2 := ⟨Tryz.sizeOf60, Tryz.isAgg60, Tryz.zeroValue60, ⟨Tryz.t60, by kernel_rfl, rfl, rfl, rfl⟩, ⟨_, Tryz.underlying60, rfl⟩⟩
theorem tyok40 : TIok Tryz.prog (tyT[40]'(by decide)).1 (tyT[40]'(by decide)).2 := ⟨Tryz.sizeOf61, Tryz.isAgg61, Tryz.zeroValue61, ⟨Tryz.t61, by kernel_rfl, rfl, rfl, rfl⟩, ⟨_, Tryz.underlying61, rfl⟩⟩
theorem tyok41 : TIok Tryz.prog (tyT[41]'(by decide)).1 (tyT[41]'(by decide)).2 := ⟨Tryz.sizeOf63, Tryz.isAgg63, Tryz.zeroValue63, ⟨Tryz.t63, by kernel_rfl, rfl, rfl, rfl⟩, ⟨_, Tryz.underlying63, rfl⟩⟩
theorem tyok42 : TIok Tryz.prog (tyT[42]'(by decide)).1 (tyT[42]'(by decide)).2 := ⟨Tryz.sizeOf64, Tryz.isAgg64, Tryz.zeroValue64, ⟨Tryz.t64, by kernel_rfl, rfl, rfl, rfl⟩, ⟨_, Tryz.underlying64, rfl⟩⟩
theorem tyok43 : TIok Tryz.prog (tyT[43]'(by decide)).1 (tyT[43]'(by decide)).2 := ⟨Tryz.sizeOf70, Tryz.isAgg70, Tryz.zeroValue70, ⟨Tryz.t70, by kernel_rfl, rfl, rfl, rfl⟩, ⟨_, Tryz.underlying70, rfl⟩⟩
theorem tyok44 : TIok Tryz.prog (tyT[44]'(by decide)).1 (tyT[44]'(by decide)).2 := ⟨Tryz.sizeOf71, Tryz.isAgg71, Tryz.zeroValue71, ⟨Tryz.t71, by kernel_rfl, rfl, rfl, rfl⟩, ⟨_, Tryz.underlying71, rfl⟩⟩
theorem tyok45 : TIok Tryz.prog (tyT[45]'(by decide)).1 (tyT[45]'(by decide)).2 := ⟨Tryz.sizeOf92, Tryz.isAgg92, Tryz.zeroValue92, ⟨Tryz.t92, by kernel_rfl, rfl, rfl, rfl⟩, ⟨_, Tryz.underlying92, rfl⟩⟩
theorem tyok46 : TIok Tryz.prog (tyT[46]'(by decide)).1 (tyT[46]'(by decide)).2 := ⟨Tryz.sizeOf93, Tryz.isAgg93, Tryz.zeroValue93, ⟨Tryz.t93, by kernel_rfl, rfl, rfl, rfl⟩, ⟨_, Tryz.underlying93, rfl⟩⟩
theorem tyok47 : TIok Tryz.prog (tyT[47]'(by decide)).1 (tyT[47]'(by decide)).2 := ⟨Tryz.sizeOf94, Tryz.isAgg94, Tryz.zeroValue94, ⟨Tryz.t94, by kernel_rfl, rfl, rfl, rfl⟩, ⟨_, Tryz.underlying94, rfl⟩⟩
theorem tyok48 : TIok Tryz.prog (tyT[48]'(by decide)).1 (tyT[48]'(by decide)).2 := ⟨Tryz.sizeOf96, Tryz.isAgg96, Tryz.zeroValue96, ⟨Tryz.t96, by kernel_rfl, rfl, rfl, rfl⟩, ⟨_, Tryz.underlying96, rfl⟩⟩
theorem tyok49 : TIok Tryz.prog (tyT[49]'(by decide)).1 (tyT[49]'(by decide)).2 := ⟨Tryz.sizeOf119, Tryz.isAgg119, Tryz.zeroValue119, ⟨Tryz.t119, by kernel_rfl, rfl, rfl, rfl⟩, ⟨_, Tryz.underlying119, rfl⟩⟩
theorem tyok50 : TIok Tryz.prog (tyT[50]'(by decide)).1 (tyT[50]'(by decide)).2 := ⟨Tryz.sizeOf120, Tryz.isAgg120, Tryz.zeroValue120, ⟨Tryz.t120, by kernel_rfl, rfl, rfl, rfl⟩, ⟨_, Tryz.underlying120, rfl⟩⟩
theorem tyok51 : TIok Tryz.prog (tyT[51]'(by decide)).1 (tyT[51]'(by decide)).2 := ⟨Tryz.sizeOf140, Tryz.isAgg140, Tryz.zeroValue140, ⟨Tryz.t140, by kernel_rfl, rfl, rfl, rfl⟩, Tryz.underlying140⟩
theorem tyok52 : TIok Tryz.prog (tyT[52]'(by decide)).1 (tyT[52]'(by decide)).2 := ⟨Tryz.sizeOf145, Tryz.isAgg145, Tryz.zeroValue145, ⟨Tryz.t145, by kernel_rfl, rfl, rfl, rfl⟩, Tryz.underlying145⟩
theorem tyok53 : TIok Tryz.prog (tyT[53]'(by decide)).1 (tyT[53]'(by decide)).2 := ⟨Tryz.sizeOf156, Tryz.isAgg156, Tryz.zeroValue156, ⟨Tryz.t156, by kernel_rfl, rfl, rfl, rfl⟩, ⟨_, Tryz.underlying156, rfl⟩⟩
theorem tyok54 : TIok Tryz.prog (tyT[54]'(by decide)).1 (tyT[54]'(by decide)).2 := ⟨Tryz.sizeOf157, Tryz.isAgg157, Tryz.zeroValue157, ⟨Tryz.t157, by kernel_rfl, rfl, rfl, rfl⟩, ⟨_, Tryz.underlying157, rfl⟩⟩
theorem tyok55 : TIok Tryz.prog (tyT[55]'(by decide)).1 (tyT[55]'(by decide)).2 := ⟨Tryz.sizeOf158, Tryz.isAgg158, Tryz.zeroValue158, ⟨Tryz.t158, by kernel_rfl, rfl, rfl, rfl⟩, Tryz.underlying158⟩
theorem tyok56 : TIok Tryz.prog (tyT[56]'(by decide)).1 (tyT[56]'(by decide)).2 := ⟨Tryz.sizeOf159, Tryz.isAgg159, Tryz.zeroValue159, ⟨Tryz.t159, by kernel_rfl, rfl, rfl, rfl⟩, ⟨_, Tryz.underlying159, rfl⟩⟩
theorem tyok57 : TIok Tryz.prog (tyT[57]'(by decide)).1 (tyT[57]'(by decide)).2 := ⟨Tryz.sizeOf160, Tryz.isAgg160, Tryz.zeroValue160, ⟨Tryz.t160, by kernel_rfl, rfl, rfl, rfl⟩, ⟨_, Tryz.underlying160, rfl⟩⟩
theorem tyok58 : TIok Tryz.prog (tyT[58]'(by decide)).1 (tyT[58]'(by decide)).2 := ⟨Tryz.sizeOf162, Tryz.isAgg162, Tryz.zeroValue162, ⟨Tryz.t162, by kernel_rfl, rfl, rfl, rfl⟩, Tryz.underlying162⟩
theorem tyok59 : TIok Tryz.prog (tyT[59]'(by decide)).1 (tyT[59]'(by decide)).2 := ⟨Tryz.sizeOf163, Tryz.isAgg163, Tryz.zeroValue163, ⟨Tryz.t163, by kernel_rfl, rfl, rfl, rfl⟩, Tryz.underlying163⟩
theorem tyok60 : TIok Tryz.prog (tyT[60]'(by decide)).1 (tyT[60]'(by decide)).2 := ⟨Tryz.sizeOf164, Tryz.isAgg164, Tryz.zeroValue164, ⟨Tryz.t164, by kernel_rfl, rfl, rfl, rfl⟩, Tryz.underlying164⟩
theorem tyok61 : TIok Tryz.prog (tyT[61]'(by decide)).1 (tyT[61]'(by decide)).2 := ⟨Tryz.sizeOf166, Tryz.isAgg166, Tryz.zeroValue166, ⟨Tryz.t166, by kernel_rfl, rfl, rfl, rfl⟩, trivial⟩
theorem tyok62 : TIok Tryz.prog (tyT[62]'(by decide)).1 (tyT[62]'(by decide)).2 := ⟨Tryz.sizeOf167, Tryz.isAgg167, Tryz.zeroValue167, ⟨Tryz.t167, by kernel_rfl, rfl, rfl, rfl⟩, Tryz.underlying167⟩
theorem tyok63 : TIok Tryz.prog (tyT[63]'(by decide)).1 (tyT[63]'(by decide)).2 := ⟨Tryz.sizeOf168, Tryz.isAgg168, Tryz.zeroValue168, ⟨Tryz.t168, by kernel_rfl, rfl, rfl, rfl⟩, Tryz.underlying168⟩
theorem tyok64 : TIok Tryz.prog (tyT[64]'(by decide)).1 (tyT[64]'(by decide)).2 := ⟨Tryz.sizeOf169, Tryz.isAgg169, Tryz.zeroValue169, ⟨Tryz.t169, by kernel_rfl, rfl, rfl, rfl⟩, ⟨_, Tryz.underlying169, rfl⟩⟩
theorem tyok65 : TIok Tryz.prog (tyT[65]'(by decide)).1 (tyT[65]'(by decide)).2 := ⟨Tryz.sizeOf170, Tryz.isAgg170, Tryz.zeroValue170, ⟨Tryz.t170, by kernel_rfl, rfl, rfl, rfl⟩, ⟨_, Tryz.underlying170, rfl⟩⟩
theorem tyok66 : TIok Tryz.prog (tyT[66]'(by decide)).1 (tyT[66]'(by decide)).2 := ⟨Tryz.sizeOf171, Tryz.isAgg171, Tryz.zeroValue171, ⟨Tryz.t171, by kernel_rfl, rfl, rfl, rfl⟩, trivial⟩
theorem tyAll : ∀ x ∈ tyT, TIok Tryz.prog x.1 x.2 :=
  List.forall_mem_cons.2 ⟨tyok0, List.forall_mem_cons.2 ⟨tyok1, List.forall_mem_cons.2 ⟨tyok2, List.forall_mem_cons.2 ⟨tyok3, List.forall_mem_cons.2 ⟨tyok4, List.forall_mem_cons.2 ⟨tyok5, List.forall_mem_cons.2 ⟨tyok6, List.forall_mem_cons.2 ⟨tyok7, List.forall_mem_cons.2 ⟨tyok8, List.forall_mem_cons.2 ⟨tyok9, List.forall_mem_cons.2 ⟨tyok10, List.forall_mem_cons.2 ⟨tyok11, List.forall_mem_cons.2 ⟨tyok12, List.forall_mem_cons.2 ⟨tyok13, List.forall_mem_cons.2 ⟨tyok14, List.forall_mem_cons.2 ⟨tyok15, List.forall_mem_cons.2 ⟨tyok16, List.forall_mem_cons.2 ⟨tyok17, List.forall_mem_cons.2 ⟨tyok18, List.forall_mem_cons.2 ⟨tyok19, List.forall_mem_cons.2 ⟨tyok20, List.forall_mem_cons.2 ⟨tyok21, List.forall_mem_cons.2 ⟨tyok22, List.forall_mem_cons.2 ⟨tyok23, List.forall_mem_cons.2 ⟨tyok24, List.forall_mem_cons.2 ⟨tyok25, List.forall_mem_cons.2 ⟨tyok26, List.forall_mem_cons.2 ⟨tyok27, List.forall_mem_cons.2 ⟨tyok28, List.forall_mem_cons.2 ⟨tyok29, List.forall_mem_cons.2 ⟨tyok30, List.forall_mem_cons.2 ⟨tyok31, List.forall_mem_cons.2 ⟨tyok32, List.forall_mem_cons.2 ⟨tyok33, List.forall_mem_cons.2 ⟨tyok34, List.forall_mem_cons.2 ⟨tyok35, List.forall_mem_cons.2 ⟨tyok36, List.forall_mem_cons.2 ⟨tyok37, List.forall_mem_cons.2 ⟨tyok38, List.forall_mem_cons.2 ⟨tyok39, List.forall_mem_cons.2 ⟨tyok40, List.forall_mem_cons.2 ⟨tyok41, List.forall_mem_cons.2 ⟨tyok42, List.forall_mem_cons.2 ⟨tyok43, List.forall_mem_cons.2 ⟨tyok44, List.forall_mem_cons.2 ⟨tyok45, List.forall_mem_cons.2 ⟨tyok46, List.forall_mem_cons.2 ⟨tyok47, List.forall_mem_cons.2 ⟨tyok48, List.forall_mem_cons.2 ⟨tyok49, List.forall_mem_cons.2 ⟨tyok50, List.forall_mem_cons.2 ⟨tyok51, List.forall_mem_cons.2 ⟨tyok52, List.forall_mem_cons.2 ⟨tyok53, List.forall_mem_cons.2 ⟨tyok54, List.forall_mem_cons.2 ⟨tyok55, List.forall_mem_cons.2 ⟨tyok56, List.forall_mem_cons.2 ⟨tyok57, List.forall_mem_cons.2 ⟨tyok58, List.forall_mem_cons.2 ⟨tyok59, List.forall_mem_cons.2 ⟨tyok60, List.forall_mem_cons.2 ⟨tyok61, List.forall_mem_cons.2 ⟨tyok62, List.forall_mem_cons.2 ⟨tyok63, List.forall_mem_cons.2 ⟨tyok64, List.forall_mem_cons.2 ⟨tyok65, List.forall_mem_cons.2 ⟨tyok66, List.forall_mem_nil _⟩⟩⟩⟩⟩⟩⟩⟩⟩⟩⟩⟩⟩⟩⟩⟩⟩⟩⟩⟩⟩⟩⟩⟩⟩⟩⟩⟩⟩⟩⟩⟩⟩⟩⟩⟩⟩⟩⟩⟩⟩⟩⟩⟩⟩⟩⟩⟩⟩⟩⟩⟩⟩⟩⟩⟩⟩⟩⟩⟩⟩⟩⟩⟩⟩⟩⟩
instance tcProg : TC Tryz.prog := ⟨tyT, tyAll⟩
end Go.Pw
