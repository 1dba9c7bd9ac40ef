/- The types of this translation, as the steps of the walks ask for them. Printed by a small program (mktypes.py); each row is checked by the kernel. -/
import Derived.Test.YtbhnplghnhafiaaVcMem
import Derived.Test.YtbhnplghnhafiaaProg
import Derived.KernelRfl
namespace Go.Proofs.Ytbhnplghnhafiaa.Try
open Go Go.Vc
def typeRows : List (Nat × TInfo) := [
  (2, ⟨(.int .i64), none, (.int .i64 0), 1, 8⟩),
  (3, ⟨(.int .i64), none, (.int .i64 0), 1, 8⟩),
  (4, ⟨.bool, none, (.bool false), 1, 1⟩),
  (5, ⟨(.int .u8), none, (.int .u8 0), 1, 1⟩),
  (6, ⟨(.int .u8), none, (.int .u8 0), 1, 1⟩),
  (7, ⟨.invalid, some [(2, 0), (3, 1), (4, 2), (6, 3)], (.agg #[(.int .i64 0), (.int .i64 0), (.bool false), (.int .u8 0)]), 4, 24⟩),
  (8, ⟨.invalid, some [(2, 0), (3, 1), (4, 2), (6, 3)], (.agg #[(.int .i64 0), (.int .i64 0), (.bool false), (.int .u8 0)]), 4, 24⟩),
  (9, ⟨.string, none, (.string ByteArray.empty), 1, 16⟩),
  (10, ⟨.string, none, (.string ByteArray.empty), 1, 16⟩),
  (11, ⟨.string, none, (.string ByteArray.empty), 1, 16⟩),
  (12, ⟨(.int .u64), none, (.int .u64 0), 1, 8⟩),
  (13, ⟨.invalid, some [(9, 0), (12, 1)], (.agg #[(.string ByteArray.empty), (.int .u64 0)]), 2, 24⟩),
  (14, ⟨.invalid, some [(9, 0), (12, 1)], (.agg #[(.string ByteArray.empty), (.int .u64 0)]), 2, 24⟩),
  (15, ⟨(.pointer 98), none, (.pointer none), 1, 8⟩),
  (16, ⟨(.pointer 101), none, (.pointer none), 1, 8⟩),
  (17, ⟨(.pointer 109), none, (.pointer none), 1, 8⟩),
  (18, ⟨.invalid, some [(17, 0)], (.agg #[(.pointer none)]), 1, 8⟩),
  (19, ⟨.invalid, some [(17, 0)], (.agg #[(.pointer none)]), 1, 8⟩),
  (21, ⟨(.int .i32), none, (.int .i32 0), 1, 4⟩),
  (23, ⟨(.pointer 53), none, (.pointer none), 1, 8⟩),
  (25, ⟨(.int .i64), none, (.int .i64 0), 1, 8⟩),
  (29, ⟨(.slice 5), none, (.slice none 0 0), 1, 24⟩),
  (38, ⟨(.slice 3), none, (.slice none 0 0), 1, 24⟩),
  (42, ⟨(.slice 44), none, (.slice none 0 0), 1, 24⟩),
  (43, ⟨.invalid, some [(3, 0), (3, 1), (9, 2), (9, 3), (29, 4), (38, 5), (5, 6)], (.agg #[(.int .i64 0), (.int .i64 0), (.string ByteArray.empty), (.string ByteArray.empty), (.slice none 0 0), (.slice none 0 0), (.int .u8 0)]), 7, 104⟩),
  (44, ⟨.invalid, some [(3, 0), (3, 1), (9, 2), (9, 3), (29, 4), (38, 5), (5, 6)], (.agg #[(.int .i64 0), (.int .i64 0), (.string ByteArray.empty), (.string ByteArray.empty), (.slice none 0 0), (.slice none 0 0), (.int .u8 0)]), 7, 104⟩),
  (46, ⟨(.slice 9), none, (.slice none 0 0), 1, 24⟩),
  (50, ⟨(.map 9 55), none, (.map none), 1, 8⟩),
  (51, ⟨(.slice 60), none, (.slice none 0 0), 1, 24⟩),
  (52, ⟨.invalid, some [(3, 0), (50, 1), (50, 2), (51, 3), (3, 4), (3, 5)], (.agg #[(.int .i64 0), (.map none), (.map none), (.slice none 0 0), (.int .i64 0), (.int .i64 0)]), 6, 64⟩),
  (53, ⟨.invalid, some [(3, 0), (50, 1), (50, 2), (51, 3), (3, 4), (3, 5)], (.agg #[(.int .i64 0), (.map none), (.map none), (.slice none 0 0), (.int .i64 0), (.int .i64 0)]), 6, 64⟩),
  (55, ⟨(.pointer 58), none, (.pointer none), 1, 8⟩),
  (57, ⟨.invalid, some [(29, 0), (3, 1)], (.agg #[(.slice none 0 0), (.int .i64 0)]), 2, 32⟩),
  (58, ⟨.invalid, some [(29, 0), (3, 1)], (.agg #[(.slice none 0 0), (.int .i64 0)]), 2, 32⟩),
  (59, ⟨.invalid, some [(3, 0), (9, 1), (9, 2), (55, 3)], (.agg #[(.int .i64 0), (.string ByteArray.empty), (.string ByteArray.empty), (.pointer none)]), 4, 48⟩),
  (60, ⟨.invalid, some [(3, 0), (9, 1), (9, 2), (55, 3)], (.agg #[(.int .i64 0), (.string ByteArray.empty), (.string ByteArray.empty), (.pointer none)]), 4, 48⟩),
  (73, ⟨(.int .u64), none, (.int .u64 0), 1, 8⟩),
  (75, ⟨(.int .i64), none, (.int .i64 0), 1, 8⟩),
  (84, ⟨(.int .u32), none, (.int .u32 0), 1, 4⟩),
  (86, ⟨(.int .u64), none, (.int .u64 0), 1, 8⟩),
  (87, ⟨(.int .u64), none, (.int .u64 0), 1, 8⟩),
  (91, ⟨(.pointer 3), none, (.pointer none), 1, 8⟩),
  (93, ⟨(.pointer 87), none, (.pointer none), 1, 8⟩),
  (97, ⟨.invalid, some [(17, 0), (17, 1), (17, 2), (9, 3)], (.agg #[(.pointer none), (.pointer none), (.pointer none), (.string ByteArray.empty)]), 4, 40⟩),
  (98, ⟨.invalid, some [(17, 0), (17, 1), (17, 2), (9, 3)], (.agg #[(.pointer none), (.pointer none), (.pointer none), (.string ByteArray.empty)]), 4, 40⟩),
  (99, ⟨(.array 0 16), none, (.agg #[]), 0, 0⟩),
  (100, ⟨.invalid, some [(99, 0)], (.agg #[]), 0, 0⟩),
  (101, ⟨.invalid, some [(99, 0)], (.agg #[]), 0, 0⟩),
  (102, ⟨(.int .u8), none, (.int .u8 0), 1, 1⟩),
  (103, ⟨(.int .u8), none, (.int .u8 0), 1, 1⟩),
  (105, ⟨(.pointer 5), none, (.pointer none), 1, 8⟩),
  (106, ⟨(.int .i32), none, (.int .i32 0), 1, 4⟩),
  (107, ⟨(.int .i32), none, (.int .i32 0), 1, 4⟩),
  (108, ⟨.invalid, some [(12, 0), (12, 1), (84, 2), (102, 3), (5, 4), (5, 5), (103, 6), (104, 7), (105, 8), (106, 9), (107, 10)], (.agg #[(.int .u64 0), (.int .u64 0), (.int .u32 0), (.int .u8 0), (.int .u8 0), (.int .u8 0), (.int .u8 0), .nilFunc, (.pointer none), (.int .i32 0), (.int .i32 0)]), 11, 48⟩),
  (109, ⟨.invalid, some [(12, 0), (12, 1), (84, 2), (102, 3), (5, 4), (5, 5), (103, 6), (104, 7), (105, 8), (106, 9), (107, 10)], (.agg #[(.int .u64 0), (.int .u64 0), (.int .u32 0), (.int .u8 0), (.int .u8 0), (.int .u8 0), (.int .u8 0), .nilFunc, (.pointer none), (.int .i32 0), (.int .i32 0)]), 11, 48⟩),
  (110, ⟨.unsafePointer, none, (.pointer none), 1, 8⟩)]
theorem ty2 : TInfo.ok Go.Proofs.Try.prog 2 ⟨(.int .i64), none, (.int .i64 0), 1, 8⟩ := ⟨Go.Proofs.Try.underlying2, by kernel_rfl⟩
theorem ty3 : TInfo.ok Go.Proofs.Try.prog 3 ⟨(.int .i64), none, (.int .i64 0), 1, 8⟩ := ⟨Go.Proofs.Try.underlying3, by kernel_rfl⟩
theorem ty4 : TInfo.ok Go.Proofs.Try.prog 4 ⟨.bool, none, (.bool false), 1, 1⟩ := ⟨Go.Proofs.Try.underlying4, by kernel_rfl⟩
theorem ty5 : TInfo.ok Go.Proofs.Try.prog 5 ⟨(.int .u8), none, (.int .u8 0), 1, 1⟩ := ⟨Go.Proofs.Try.underlying5, by kernel_rfl⟩
theorem ty6 : TInfo.ok Go.Proofs.Try.prog 6 ⟨(.int .u8), none, (.int .u8 0), 1, 1⟩ := ⟨Go.Proofs.Try.underlying6, by kernel_rfl⟩
theorem ty7 : TInfo.ok Go.Proofs.Try.prog 7 ⟨.invalid, some [(2, 0), (3, 1), (4, 2), (6, 3)], (.agg #[(.int .i64 0), (.int .i64 0), (.bool false), (.int .u8 0)]), 4, 24⟩ := ⟨⟨_, Go.Proofs.Try.underlying7, rfl⟩, by kernel_rfl⟩
theorem ty8 : TInfo.ok Go.Proofs.Try.prog 8 ⟨.invalid, some [(2, 0), (3, 1), (4, 2), (6, 3)], (.agg #[(.int .i64 0), (.int .i64 0), (.bool false), (.int .u8 0)]), 4, 24⟩ := ⟨⟨_, Go.Proofs.Try.underlying8, rfl⟩, by kernel_rfl⟩
theorem ty9 : TInfo.ok Go.Proofs.Try.prog 9 ⟨.string, none, (.string ByteArray.empty), 1, 16⟩ := ⟨Go.Proofs.Try.underlying9, by kernel_rfl⟩
theorem ty10 : TInfo.ok Go.Proofs.Try.prog 10 ⟨.string, none, (.string ByteArray.empty), 1, 16⟩ := ⟨Go.Proofs.Try.underlying10, by kernel_rfl⟩
theorem ty11 : TInfo.ok Go.Proofs.Try.prog 11 ⟨.string, none, (.string ByteArray.empty), 1, 16⟩ := ⟨Go.Proofs.Try.underlying11, by kernel_rfl⟩
theorem ty12 : TInfo.ok Go.Proofs.Try.prog 12 ⟨(.int .u64), none, (.int .u64 0), 1, 8⟩ := ⟨Go.Proofs.Try.underlying12, by kernel_rfl⟩
theorem ty13 : TInfo.ok Go.Proofs.Try.prog 13 ⟨.invalid, some [(9, 0), (12, 1)], (.agg #[(.string ByteArray.empty), (.int .u64 0)]), 2, 24⟩ := ⟨⟨_, Go.Proofs.Try.underlying13, rfl⟩, by kernel_rfl⟩
theorem ty14 : TInfo.ok Go.Proofs.Try.prog 14 ⟨.invalid, some [(9, 0), (12, 1)], (.agg #[(.string ByteArray.empty), (.int .u64 0)]), 2, 24⟩ := ⟨⟨_, Go.Proofs.Try.underlying14, rfl⟩, by kernel_rfl⟩
theorem ty15 : TInfo.ok Go.Proofs.Try.prog 15 ⟨(.pointer 98), none, (.pointer none), 1, 8⟩ := ⟨Go.Proofs.Try.underlying15, by kernel_rfl⟩
theorem ty16 : TInfo.ok Go.Proofs.Try.prog 16 ⟨(.pointer 101), none, (.pointer none), 1, 8⟩ := ⟨Go.Proofs.Try.underlying16, by kernel_rfl⟩
theorem ty17 : TInfo.ok Go.Proofs.Try.prog 17 ⟨(.pointer 109), none, (.pointer none), 1, 8⟩ := ⟨Go.Proofs.Try.underlying17, by kernel_rfl⟩
theorem ty18 : TInfo.ok Go.Proofs.Try.prog 18 ⟨.invalid, some [(17, 0)], (.agg #[(.pointer none)]), 1, 8⟩ := ⟨⟨_, Go.Proofs.Try.underlying18, rfl⟩, by kernel_rfl⟩
theorem ty19 : TInfo.ok Go.Proofs.Try.prog 19 ⟨.invalid, some [(17, 0)], (.agg #[(.pointer none)]), 1, 8⟩ := ⟨⟨_, Go.Proofs.Try.underlying19, rfl⟩, by kernel_rfl⟩
theorem ty21 : TInfo.ok Go.Proofs.Try.prog 21 ⟨(.int .i32), none, (.int .i32 0), 1, 4⟩ := ⟨Go.Proofs.Try.underlying21, by kernel_rfl⟩
theorem ty23 : TInfo.ok Go.Proofs.Try.prog 23 ⟨(.pointer 53), none, (.pointer none), 1, 8⟩ := ⟨Go.Proofs.Try.underlying23, by kernel_rfl⟩
theorem ty25 : TInfo.ok Go.Proofs.Try.prog 25 ⟨(.int .i64), none, (.int .i64 0), 1, 8⟩ := ⟨Go.Proofs.Try.underlying25, by kernel_rfl⟩
theorem ty29 : TInfo.ok Go.Proofs.Try.prog 29 ⟨(.slice 5), none, (.slice none 0 0), 1, 24⟩ := ⟨Go.Proofs.Try.underlying29, by kernel_rfl⟩
theorem ty38 : TInfo.ok Go.Proofs.Try.prog 38 ⟨(.slice 3), none, (.slice none 0 0), 1, 24⟩ := ⟨Go.Proofs.Try.underlying38, by kernel_rfl⟩
theorem ty42 : TInfo.ok Go.Proofs.Try.prog 42 ⟨(.slice 44), none, (.slice none 0 0), 1, 24⟩ := ⟨Go.Proofs.Try.underlying42, by kernel_rfl⟩
theorem ty43 : TInfo.ok Go.Proofs.Try.prog 43 ⟨.invalid, some [(3, 0), (3, 1), (9, 2), (9, 3), (29, 4), (38, 5), (5, 6)], (.agg #[(.int .i64 0), (.int .i64 0), (.string ByteArray.empty), (.string ByteArray.empty), (.slice none 0 0), (.slice none 0 0), (.int .u8 0)]), 7, 104⟩ := ⟨⟨_, Go.Proofs.Try.underlying43, rfl⟩, by kernel_rfl⟩
theorem ty44 : TInfo.ok Go.Proofs.Try.prog 44 ⟨.invalid, some [(3, 0), (3, 1), (9, 2), (9, 3), (29, 4), (38, 5), (5, 6)], (.agg #[(.int .i64 0), (.int .i64 0), (.string ByteArray.empty), (.string ByteArray.empty), (.slice none 0 0), (.slice none 0 0), (.int .u8 0)]), 7, 104⟩ := ⟨⟨_, Go.Proofs.Try.underlying44, rfl⟩, by kernel_rfl⟩
theorem ty46 : TInfo.ok Go.Proofs.Try.prog 46 ⟨(.slice 9), none, (.slice none 0 0), 1, 24⟩ := ⟨Go.Proofs.Try.underlying46, by kernel_rfl⟩
theorem ty50 : TInfo.ok Go.Proofs.Try.prog 50 ⟨(.map 9 55), none, (.map none), 1, 8⟩ := ⟨Go.Proofs.Try.underlying50, by kernel_rfl⟩
theorem ty51 : TInfo.ok Go.Proofs.Try.prog 51 ⟨(.slice 60), none, (.slice none 0 0), 1, 24⟩ := ⟨Go.Proofs.Try.underlying51, by kernel_rfl⟩
theorem ty52 : TInfo.ok Go.Proofs.Try.prog 52 ⟨.invalid, some [(3, 0), (50, 1), (50, 2), (51, 3), (3, 4), (3, 5)], (.agg #[(.int .i64 0), (.map none), (.map none), (.slice none 0 0), (.int .i64 0), (.int .i64 0)]), 6, 64⟩ := ⟨⟨_, Go.Proofs.Try.underlying52, rfl⟩, by kernel_rfl⟩
theorem ty53 : TInfo.ok Go.Proofs.Try.prog 53 ⟨.invalid, some [(3, 0), (50, 1), (50, 2), (51, 3), (3, 4), (3, 5)], (.agg #[(.int .i64 0), (.map none), (.map none), (.slice none 0 0), (.int .i64 0), (.int .i64 0)]), 6, 64⟩ := ⟨⟨_, Go.Proofs.Try.underlying53, rfl⟩, by kernel_rfl⟩
theorem ty55 : TInfo.ok Go.Proofs.Try.prog 55 ⟨(.pointer 58), none, (.pointer none), 1, 8⟩ := ⟨Go.Proofs.Try.underlying55, by kernel_rfl⟩
theorem ty57 : TInfo.ok Go.Proofs.Try.prog 57 ⟨.invalid, some [(29, 0), (3, 1)], (.agg #[(.slice none 0 0), (.int .i64 0)]), 2, 32⟩ := ⟨⟨_, Go.Proofs.Try.underlying57, rfl⟩, by kernel_rfl⟩
theorem ty58 : TInfo.ok Go.Proofs.Try.prog 58 ⟨.invalid, some [(29, 0), (3, 1)], (.agg #[(.slice none 0 0), (.int .i64 0)]), 2, 32⟩ := ⟨⟨_, Go.Proofs.Try.underlying58, rfl⟩, by kernel_rfl⟩
theorem ty59 : TInfo.ok Go.Proofs.Try.prog 59 ⟨.invalid, some [(3, 0), (9, 1), (9, 2), (55, 3)], (.agg #[(.int .i64 0), (.string ByteArray.empty), (.string ByteArray.empty), (.pointer none)]), 4, 48⟩ := ⟨⟨_, Go.Proofs.Try.underlying59, rfl⟩, by kernel_rfl⟩
theorem ty60 : TInfo.ok Go.Proofs.Try.prog 60 ⟨.invalid, some [(3, 0), (9, 1), (9, 2), (55, 3)], (.agg #[(.int .i64 0), (.string ByteArray.empty), (.string ByteArray.empty), (.pointer none)]), 4, 48⟩ := ⟨⟨_, Go.Proofs.Try.underlying60, rfl⟩, by kernel_rfl⟩
theorem ty73 : TInfo.ok Go.Proofs.Try.prog 73 ⟨(.int .u64), none, (.int .u64 0), 1, 8⟩ := ⟨Go.Proofs.Try.underlying73, by kernel_rfl⟩
theorem ty75 : TInfo.ok Go.Proofs.Try.prog 75 ⟨(.int .i64), none, (.int .i64 0), 1, 8⟩ := ⟨Go.Proofs.Try.underlying75, by kernel_rfl⟩
theorem ty84 : TInfo.ok Go.Proofs.Try.prog 84 ⟨(.int .u32), none, (.int .u32 0), 1, 4⟩ := ⟨Go.Proofs.Try.underlying84, by kernel_rfl⟩
theorem ty86 : TInfo.ok Go.Proofs.Try.prog 86 ⟨(.int .u64), none, (.int .u64 0), 1, 8⟩ := ⟨Go.Proofs.Try.underlying86, by kernel_rfl⟩
theorem ty87 : TInfo.ok Go.Proofs.Try.prog 87 ⟨(.int .u64), none, (.int .u64 0), 1, 8⟩ := ⟨Go.Proofs.Try.underlying87, by kernel_rfl⟩
theorem ty91 : TInfo.ok Go.Proofs.Try.prog 91 ⟨(.pointer 3), none, (.pointer none), 1, 8⟩ := ⟨Go.Proofs.Try.underlying91, by kernel_rfl⟩
theorem ty93 : TInfo.ok Go.Proofs.Try.prog 93 ⟨(.pointer 87), none, (.pointer none), 1, 8⟩ := ⟨Go.Proofs.Try.underlying93, by kernel_rfl⟩
theorem ty97 : TInfo.ok Go.Proofs.Try.prog 97 ⟨.invalid, some [(17, 0), (17, 1), (17, 2), (9, 3)], (.agg #[(.pointer none), (.pointer none), (.pointer none), (.string ByteArray.empty)]), 4, 40⟩ := ⟨⟨_, Go.Proofs.Try.underlying97, rfl⟩, by kernel_rfl⟩
theorem ty98 : TInfo.ok Go.Proofs.Try.prog 98 ⟨.invalid, some [(17, 0), (17, 1), (17, 2), (9, 3)], (.agg #[(.pointer none), (.pointer none), (.pointer none), (.string ByteArray.empty)]), 4, 40⟩ := ⟨⟨_, Go.Proofs.Try.underlying98, rfl⟩, by kernel_rfl⟩
theorem ty99 : TInfo.ok Go.Proofs.Try.prog 99 ⟨(.array 0 16), none, (.agg #[]), 0, 0⟩ := ⟨Go.Proofs.Try.underlying99, by kernel_rfl⟩
theorem ty100 : TInfo.ok Go.Proofs.Try.prog 100 ⟨.invalid, some [(99, 0)], (.agg #[]), 0, 0⟩ := ⟨⟨_, Go.Proofs.Try.underlying100, rfl⟩, by kernel_rfl⟩
theorem ty101 : TInfo.ok Go.Proofs.Try.prog 101 ⟨.invalid, some [(99, 0)], (.agg #[]), 0, 0⟩ := ⟨⟨_, Go.Proofs.Try.underlying101, rfl⟩, by kernel_rfl⟩
theorem ty102 : TInfo.ok Go.Proofs.Try.prog 102 ⟨(.int .u8), none, (.int .u8 0), 1, 1⟩ := ⟨Go.Proofs.Try.underlying102, by kernel_rfl⟩
theorem ty103 : TInfo.ok Go.Proofs.Try.prog 103 ⟨(.int .u8), none, (.int .u8 0), 1, 1⟩ := ⟨Go.Proofs.Try.underlying103, by kernel_rfl⟩
theorem ty105 : TInfo.ok Go.Proofs.Try.prog 105 ⟨(.pointer 5), none, (.pointer none), 1, 8⟩ := ⟨Go.Proofs.Try.underlying105, by kernel_rfl⟩
theorem ty106 : TInfo.ok Go.Proofs.Try.prog 106 ⟨(.int .i32), none, (.int .i32 0), 1, 4⟩ := ⟨Go.Proofs.Try.underlying106, by kernel_rfl⟩
theorem ty107 : TInfo.ok Go.Proofs.Try.prog 107 ⟨(.int .i32), none, (.int .i32 0), 1, 4⟩ := ⟨Go.Proofs.Try.underlying107, by kernel_rfl⟩
theorem ty108 : TInfo.ok Go.Proofs.Try.prog 108 ⟨.invalid, some [(12, 0), (12, 1), (84, 2), (102, 3), (5, 4), (5, 5), (103, 6), (104, 7), (105, 8), (106, 9), (107, 10)], (.agg #[(.int .u64 0), (.int .u64 0), (.int .u32 0), (.int .u8 0), (.int .u8 0), (.int .u8 0), (.int .u8 0), .nilFunc, (.pointer none), (.int .i32 0), (.int .i32 0)]), 11, 48⟩ := ⟨⟨_, Go.Proofs.Try.underlying108, rfl⟩, by kernel_rfl⟩
theorem ty109 : TInfo.ok Go.Proofs.Try.prog 109 ⟨.invalid, some [(12, 0), (12, 1), (84, 2), (102, 3), (5, 4), (5, 5), (103, 6), (104, 7), (105, 8), (106, 9), (107, 10)], (.agg #[(.int .u64 0), (.int .u64 0), (.int .u32 0), (.int .u8 0), (.int .u8 0), (.int .u8 0), (.int .u8 0), .nilFunc, (.pointer none), (.int .i32 0), (.int .i32 0)]), 11, 48⟩ := ⟨⟨_, Go.Proofs.Try.underlying109, rfl⟩, by kernel_rfl⟩
theorem ty110 : TInfo.ok Go.Proofs.Try.prog 110 ⟨.unsafePointer, none, (.pointer none), 1, 8⟩ := ⟨Go.Proofs.Try.underlying110, by kernel_rfl⟩
theorem typesOk : AllOk Go.Proofs.Try.prog typeRows := ⟨ty2, ty3, ty4, ty5, ty6, ty7, ty8, ty9, ty10, ty11, ty12, ty13, ty14, ty15, ty16, ty17, ty18, ty19, ty21, ty23, ty25, ty29, ty38, ty42, ty43, ty44, ty46, ty50, ty51, ty52, ty53, ty55, ty57, ty58, ty59, ty60, ty73, ty75, ty84, ty86, ty87, ty91, ty93, ty97, ty98, ty99, ty100, ty101, ty102, ty103, ty105, ty106, ty107, ty108, ty109, ty110, trivial⟩
def T : Types Go.Proofs.Try.prog := Types.of typeRows typesOk
theorem fol : Go.Proofs.Try.prog.follows .mixedOrders = true := by kernel_rfl
end Go.Proofs.Ytbhnplghnhafiaa.Try
