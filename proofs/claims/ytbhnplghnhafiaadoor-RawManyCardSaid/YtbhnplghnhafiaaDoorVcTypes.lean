/- The types of this translation, as the steps of the walks ask for them. Printed by a small program (mktypes.py); each row is checked by the kernel. -/
import Derived.Test.YtbhnplghnhafiaaDoorVcMem
import Derived.Test.YtbhnplghnhafiaaDoorProg
import Derived.KernelRfl
namespace Go.Proofs.YtbhnplghnhafiaaDoor.Tryd
open Go Go.Vc
def typeRows : List (Nat × TInfo) := [
  (2, ⟨(.int .i64), none, (.int .i64 0), 1, 8⟩),
  (3, ⟨(.int .i64), none, (.int .i64 0), 1, 8⟩),
  (4, ⟨.bool, none, (.bool false), 1, 1⟩),
  (5, ⟨(.int .u8), none, (.int .u8 0), 1, 1⟩),
  (6, ⟨(.int .u8), none, (.int .u8 0), 1, 1⟩),
  (7, ⟨.invalid, some [(2, 0), (3, 1), (4, 2), (6, 3)], (.agg #[(.int .i64 0), (.int .i64 0), (.bool false), (.int .u8 0)]), 4, 24⟩),
  (8, ⟨.invalid, some [(2, 0), (3, 1), (4, 2), (6, 3)], (.agg #[(.int .i64 0), (.int .i64 0), (.bool false), (.int .u8 0)]), 4, 24⟩),
  (9, ⟨.string, none, (.string ByteArray.empty), 1, 16⟩),
  (10, ⟨.string, none, (.string ByteArray.empty), 1, 16⟩),
  (11, ⟨.string, none, (.string ByteArray.empty), 1, 16⟩),
  (12, ⟨(.int .u64), none, (.int .u64 0), 1, 8⟩),
  (13, ⟨.invalid, some [(9, 0), (12, 1)], (.agg #[(.string ByteArray.empty), (.int .u64 0)]), 2, 24⟩),
  (14, ⟨.invalid, some [(9, 0), (12, 1)], (.agg #[(.string ByteArray.empty), (.int .u64 0)]), 2, 24⟩),
  (15, ⟨(.pointer 145), none, (.pointer none), 1, 8⟩),
  (16, ⟨(.pointer 148), none, (.pointer none), 1, 8⟩),
  (17, ⟨(.pointer 156), none, (.pointer none), 1, 8⟩),
  (18, ⟨.invalid, some [(17, 0)], (.agg #[(.pointer none)]), 1, 8⟩),
  (19, ⟨.invalid, some [(17, 0)], (.agg #[(.pointer none)]), 1, 8⟩),
  (21, ⟨(.int .i32), none, (.int .i32 0), 1, 4⟩),
  (23, ⟨(.pointer 56), none, (.pointer none), 1, 8⟩),
  (25, ⟨(.pointer 60), none, (.pointer none), 1, 8⟩),
  (26, ⟨(.int .i64), none, (.int .i64 0), 1, 8⟩),
  (31, ⟨(.slice 5), none, (.slice none 0 0), 1, 24⟩),
  (32, ⟨.invalid, some [(3, 0), (2, 1), (9, 2), (9, 3)], (.agg #[(.int .i64 0), (.int .i64 0), (.string ByteArray.empty), (.string ByteArray.empty)]), 4, 48⟩),
  (33, ⟨.invalid, some [(3, 0), (2, 1), (9, 2), (9, 3)], (.agg #[(.int .i64 0), (.int .i64 0), (.string ByteArray.empty), (.string ByteArray.empty)]), 4, 48⟩),
  (40, ⟨(.slice 33), none, (.slice none 0 0), 1, 24⟩),
  (53, ⟨(.map 9 63), none, (.map none), 1, 8⟩),
  (54, ⟨(.slice 81), none, (.slice none 0 0), 1, 24⟩),
  (55, ⟨.invalid, some [(3, 0), (53, 1), (53, 2), (54, 3), (3, 4), (3, 5)], (.agg #[(.int .i64 0), (.map none), (.map none), (.slice none 0 0), (.int .i64 0), (.int .i64 0)]), 6, 64⟩),
  (56, ⟨.invalid, some [(3, 0), (53, 1), (53, 2), (54, 3), (3, 4), (3, 5)], (.agg #[(.int .i64 0), (.map none), (.map none), (.slice none 0 0), (.int .i64 0), (.int .i64 0)]), 6, 64⟩),
  (58, ⟨(.slice 3), none, (.slice none 0 0), 1, 24⟩),
  (59, ⟨.invalid, some [(23, 0), (9, 1), (58, 2), (3, 3)], (.agg #[(.pointer none), (.string ByteArray.empty), (.slice none 0 0), (.int .i64 0)]), 4, 56⟩),
  (60, ⟨.invalid, some [(23, 0), (9, 1), (58, 2), (3, 3)], (.agg #[(.pointer none), (.string ByteArray.empty), (.slice none 0 0), (.int .i64 0)]), 4, 56⟩),
  (63, ⟨(.pointer 65), none, (.pointer none), 1, 8⟩),
  (64, ⟨.invalid, some [(31, 0), (3, 1)], (.agg #[(.slice none 0 0), (.int .i64 0)]), 2, 32⟩),
  (65, ⟨.invalid, some [(31, 0), (3, 1)], (.agg #[(.slice none 0 0), (.int .i64 0)]), 2, 32⟩),
  (71, ⟨(.slice 31), none, (.slice none 0 0), 1, 24⟩),
  (75, ⟨(.int .u32), none, (.int .u32 0), 1, 4⟩),
  (80, ⟨.invalid, some [(3, 0), (9, 1), (9, 2), (63, 3)], (.agg #[(.int .i64 0), (.string ByteArray.empty), (.string ByteArray.empty), (.pointer none)]), 4, 48⟩),
  (81, ⟨.invalid, some [(3, 0), (9, 1), (9, 2), (63, 3)], (.agg #[(.int .i64 0), (.string ByteArray.empty), (.string ByteArray.empty), (.pointer none)]), 4, 48⟩),
  (83, ⟨(.slice 9), none, (.slice none 0 0), 1, 24⟩),
  (91, ⟨(.int .u64), none, (.int .u64 0), 1, 8⟩),
  (94, ⟨(.slice 39), none, (.slice none 0 0), 1, 24⟩),
  (96, ⟨(.int .u64), none, (.int .u64 0), 1, 8⟩),
  (105, ⟨(.pointer 107), none, (.pointer none), 1, 8⟩),
  (106, ⟨.invalid, some [(31, 0), (4, 1)], (.agg #[(.slice none 0 0), (.bool false)]), 2, 32⟩),
  (107, ⟨.invalid, some [(31, 0), (4, 1)], (.agg #[(.slice none 0 0), (.bool false)]), 2, 32⟩),
  (111, ⟨(.array 24 5), none, (.agg (Array.replicate 24 (.int .u8 0))), 24, 24⟩),
  (120, ⟨(.array 20 91), none, (.agg #[(.int .u64 0), (.int .u64 0), (.int .u64 0), (.int .u64 0), (.int .u64 0), (.int .u64 0), (.int .u64 0), (.int .u64 0), (.int .u64 0), (.int .u64 0), (.int .u64 0), (.int .u64 0), (.int .u64 0), (.int .u64 0), (.int .u64 0), (.int .u64 0), (.int .u64 0), (.int .u64 0), (.int .u64 0), (.int .u64 0)]), 20, 160⟩),
  (121, ⟨(.array 65 5), none, (.agg (Array.replicate 65 (.int .u8 0))), 65, 65⟩),
  (124, ⟨(.int .i64), none, (.int .i64 0), 1, 8⟩),
  (133, ⟨(.int .u64), none, (.int .u64 0), 1, 8⟩),
  (137, ⟨(.pointer 3), none, (.pointer none), 1, 8⟩),
  (139, ⟨(.array 32 5), none, (.agg (Array.replicate 32 (.int .u8 0))), 32, 32⟩),
  (140, ⟨(.array 64 5), none, (.agg (Array.replicate 64 (.int .u8 0))), 64, 64⟩),
  (141, ⟨(.pointer 133), none, (.pointer none), 1, 8⟩),
  (144, ⟨.invalid, some [(17, 0), (17, 1), (17, 2), (9, 3)], (.agg #[(.pointer none), (.pointer none), (.pointer none), (.string ByteArray.empty)]), 4, 40⟩),
  (145, ⟨.invalid, some [(17, 0), (17, 1), (17, 2), (9, 3)], (.agg #[(.pointer none), (.pointer none), (.pointer none), (.string ByteArray.empty)]), 4, 40⟩),
  (146, ⟨(.array 0 16), none, (.agg #[]), 0, 0⟩),
  (147, ⟨.invalid, some [(146, 0)], (.agg #[]), 0, 0⟩),
  (148, ⟨.invalid, some [(146, 0)], (.agg #[]), 0, 0⟩),
  (149, ⟨(.int .u8), none, (.int .u8 0), 1, 1⟩),
  (150, ⟨(.int .u8), none, (.int .u8 0), 1, 1⟩),
  (152, ⟨(.pointer 5), none, (.pointer none), 1, 8⟩),
  (153, ⟨(.int .i32), none, (.int .i32 0), 1, 4⟩),
  (154, ⟨(.int .i32), none, (.int .i32 0), 1, 4⟩),
  (155, ⟨.invalid, some [(12, 0), (12, 1), (75, 2), (149, 3), (5, 4), (5, 5), (150, 6), (151, 7), (152, 8), (153, 9), (154, 10)], (.agg #[(.int .u64 0), (.int .u64 0), (.int .u32 0), (.int .u8 0), (.int .u8 0), (.int .u8 0), (.int .u8 0), .nilFunc, (.pointer none), (.int .i32 0), (.int .i32 0)]), 11, 48⟩),
  (156, ⟨.invalid, some [(12, 0), (12, 1), (75, 2), (149, 3), (5, 4), (5, 5), (150, 6), (151, 7), (152, 8), (153, 9), (154, 10)], (.agg #[(.int .u64 0), (.int .u64 0), (.int .u32 0), (.int .u8 0), (.int .u8 0), (.int .u8 0), (.int .u8 0), .nilFunc, (.pointer none), (.int .i32 0), (.int .i32 0)]), 11, 48⟩),
  (157, ⟨.unsafePointer, none, (.pointer none), 1, 8⟩)]
theorem ty2 : TInfo.ok Go.Proofs.Tryd.prog 2 ⟨(.int .i64), none, (.int .i64 0), 1, 8⟩ := ⟨Go.Proofs.Tryd.underlying2, by kernel_rfl⟩
theorem ty3 : TInfo.ok Go.Proofs.Tryd.prog 3 ⟨(.int .i64), none, (.int .i64 0), 1, 8⟩ := ⟨Go.Proofs.Tryd.underlying3, by kernel_rfl⟩
theorem ty4 : TInfo.ok Go.Proofs.Tryd.prog 4 ⟨.bool, none, (.bool false), 1, 1⟩ := ⟨Go.Proofs.Tryd.underlying4, by kernel_rfl⟩
theorem ty5 : TInfo.ok Go.Proofs.Tryd.prog 5 ⟨(.int .u8), none, (.int .u8 0), 1, 1⟩ := ⟨Go.Proofs.Tryd.underlying5, by kernel_rfl⟩
theorem ty6 : TInfo.ok Go.Proofs.Tryd.prog 6 ⟨(.int .u8), none, (.int .u8 0), 1, 1⟩ := ⟨Go.Proofs.Tryd.underlying6, by kernel_rfl⟩
theorem ty7 : TInfo.ok Go.Proofs.Tryd.prog 7 ⟨.invalid, some [(2, 0), (3, 1), (4, 2), (6, 3)], (.agg #[(.int .i64 0), (.int .i64 0), (.bool false), (.int .u8 0)]), 4, 24⟩ := ⟨⟨_, Go.Proofs.Tryd.underlying7, rfl⟩, by kernel_rfl⟩
theorem ty8 : TInfo.ok Go.Proofs.Tryd.prog 8 ⟨.invalid, some [(2, 0), (3, 1), (4, 2), (6, 3)], (.agg #[(.int .i64 0), (.int .i64 0), (.bool false), (.int .u8 0)]), 4, 24⟩ := ⟨⟨_, Go.Proofs.Tryd.underlying8, rfl⟩, by kernel_rfl⟩
theorem ty9 : TInfo.ok Go.Proofs.Tryd.prog 9 ⟨.string, none, (.string ByteArray.empty), 1, 16⟩ := ⟨Go.Proofs.Tryd.underlying9, by kernel_rfl⟩
theorem ty10 : TInfo.ok Go.Proofs.Tryd.prog 10 ⟨.string, none, (.string ByteArray.empty), 1, 16⟩ := ⟨Go.Proofs.Tryd.underlying10, by kernel_rfl⟩
theorem ty11 : TInfo.ok Go.Proofs.Tryd.prog 11 ⟨.string, none, (.string ByteArray.empty), 1, 16⟩ := ⟨Go.Proofs.Tryd.underlying11, by kernel_rfl⟩
theorem ty12 : TInfo.ok Go.Proofs.Tryd.prog 12 ⟨(.int .u64), none, (.int .u64 0), 1, 8⟩ := ⟨Go.Proofs.Tryd.underlying12, by kernel_rfl⟩
theorem ty13 : TInfo.ok Go.Proofs.Tryd.prog 13 ⟨.invalid, some [(9, 0), (12, 1)], (.agg #[(.string ByteArray.empty), (.int .u64 0)]), 2, 24⟩ := ⟨⟨_, Go.Proofs.Tryd.underlying13, rfl⟩, by kernel_rfl⟩
theorem ty14 : TInfo.ok Go.Proofs.Tryd.prog 14 ⟨.invalid, some [(9, 0), (12, 1)], (.agg #[(.string ByteArray.empty), (.int .u64 0)]), 2, 24⟩ := ⟨⟨_, Go.Proofs.Tryd.underlying14, rfl⟩, by kernel_rfl⟩
theorem ty15 : TInfo.ok Go.Proofs.Tryd.prog 15 ⟨(.pointer 145), none, (.pointer none), 1, 8⟩ := ⟨Go.Proofs.Tryd.underlying15, by kernel_rfl⟩
theorem ty16 : TInfo.ok Go.Proofs.Tryd.prog 16 ⟨(.pointer 148), none, (.pointer none), 1, 8⟩ := ⟨Go.Proofs.Tryd.underlying16, by kernel_rfl⟩
theorem ty17 : TInfo.ok Go.Proofs.Tryd.prog 17 ⟨(.pointer 156), none, (.pointer none), 1, 8⟩ := ⟨Go.Proofs.Tryd.underlying17, by kernel_rfl⟩
theorem ty18 : TInfo.ok Go.Proofs.Tryd.prog 18 ⟨.invalid, some [(17, 0)], (.agg #[(.pointer none)]), 1, 8⟩ := ⟨⟨_, Go.Proofs.Tryd.underlying18, rfl⟩, by kernel_rfl⟩
theorem ty19 : TInfo.ok Go.Proofs.Tryd.prog 19 ⟨.invalid, some [(17, 0)], (.agg #[(.pointer none)]), 1, 8⟩ := ⟨⟨_, Go.Proofs.Tryd.underlying19, rfl⟩, by kernel_rfl⟩
theorem ty21 : TInfo.ok Go.Proofs.Tryd.prog 21 ⟨(.int .i32), none, (.int .i32 0), 1, 4⟩ := ⟨Go.Proofs.Tryd.underlying21, by kernel_rfl⟩
theorem ty23 : TInfo.ok Go.Proofs.Tryd.prog 23 ⟨(.pointer 56), none, (.pointer none), 1, 8⟩ := ⟨Go.Proofs.Tryd.underlying23, by kernel_rfl⟩
theorem ty25 : TInfo.ok Go.Proofs.Tryd.prog 25 ⟨(.pointer 60), none, (.pointer none), 1, 8⟩ := ⟨Go.Proofs.Tryd.underlying25, by kernel_rfl⟩
theorem ty26 : TInfo.ok Go.Proofs.Tryd.prog 26 ⟨(.int .i64), none, (.int .i64 0), 1, 8⟩ := ⟨Go.Proofs.Tryd.underlying26, by kernel_rfl⟩
theorem ty31 : TInfo.ok Go.Proofs.Tryd.prog 31 ⟨(.slice 5), none, (.slice none 0 0), 1, 24⟩ := ⟨Go.Proofs.Tryd.underlying31, by kernel_rfl⟩
theorem ty32 : TInfo.ok Go.Proofs.Tryd.prog 32 ⟨.invalid, some [(3, 0), (2, 1), (9, 2), (9, 3)], (.agg #[(.int .i64 0), (.int .i64 0), (.string ByteArray.empty), (.string ByteArray.empty)]), 4, 48⟩ := ⟨⟨_, Go.Proofs.Tryd.underlying32, rfl⟩, by kernel_rfl⟩
theorem ty33 : TInfo.ok Go.Proofs.Tryd.prog 33 ⟨.invalid, some [(3, 0), (2, 1), (9, 2), (9, 3)], (.agg #[(.int .i64 0), (.int .i64 0), (.string ByteArray.empty), (.string ByteArray.empty)]), 4, 48⟩ := ⟨⟨_, Go.Proofs.Tryd.underlying33, rfl⟩, by kernel_rfl⟩
theorem ty40 : TInfo.ok Go.Proofs.Tryd.prog 40 ⟨(.slice 33), none, (.slice none 0 0), 1, 24⟩ := ⟨Go.Proofs.Tryd.underlying40, by kernel_rfl⟩
theorem ty53 : TInfo.ok Go.Proofs.Tryd.prog 53 ⟨(.map 9 63), none, (.map none), 1, 8⟩ := ⟨Go.Proofs.Tryd.underlying53, by kernel_rfl⟩
theorem ty54 : TInfo.ok Go.Proofs.Tryd.prog 54 ⟨(.slice 81), none, (.slice none 0 0), 1, 24⟩ := ⟨Go.Proofs.Tryd.underlying54, by kernel_rfl⟩
theorem ty55 : TInfo.ok Go.Proofs.Tryd.prog 55 ⟨.invalid, some [(3, 0), (53, 1), (53, 2), (54, 3), (3, 4), (3, 5)], (.agg #[(.int .i64 0), (.map none), (.map none), (.slice none 0 0), (.int .i64 0), (.int .i64 0)]), 6, 64⟩ := ⟨⟨_, Go.Proofs.Tryd.underlying55, rfl⟩, by kernel_rfl⟩
theorem ty56 : TInfo.ok Go.Proofs.Tryd.prog 56 ⟨.invalid, some [(3, 0), (53, 1), (53, 2), (54, 3), (3, 4), (3, 5)], (.agg #[(.int .i64 0), (.map none), (.map none), (.slice none 0 0), (.int .i64 0), (.int .i64 0)]), 6, 64⟩ := ⟨⟨_, Go.Proofs.Tryd.underlying56, rfl⟩, by kernel_rfl⟩
theorem ty58 : TInfo.ok Go.Proofs.Tryd.prog 58 ⟨(.slice 3), none, (.slice none 0 0), 1, 24⟩ := ⟨Go.Proofs.Tryd.underlying58, by kernel_rfl⟩
theorem ty59 : TInfo.ok Go.Proofs.Tryd.prog 59 ⟨.invalid, some [(23, 0), (9, 1), (58, 2), (3, 3)], (.agg #[(.pointer none), (.string ByteArray.empty), (.slice none 0 0), (.int .i64 0)]), 4, 56⟩ := ⟨⟨_, Go.Proofs.Tryd.underlying59, rfl⟩, by kernel_rfl⟩
theorem ty60 : TInfo.ok Go.Proofs.Tryd.prog 60 ⟨.invalid, some [(23, 0), (9, 1), (58, 2), (3, 3)], (.agg #[(.pointer none), (.string ByteArray.empty), (.slice none 0 0), (.int .i64 0)]), 4, 56⟩ := ⟨⟨_, Go.Proofs.Tryd.underlying60, rfl⟩, by kernel_rfl⟩
theorem ty63 : TInfo.ok Go.Proofs.Tryd.prog 63 ⟨(.pointer 65), none, (.pointer none), 1, 8⟩ := ⟨Go.Proofs.Tryd.underlying63, by kernel_rfl⟩
theorem ty64 : TInfo.ok Go.Proofs.Tryd.prog 64 ⟨.invalid, some [(31, 0), (3, 1)], (.agg #[(.slice none 0 0), (.int .i64 0)]), 2, 32⟩ := ⟨⟨_, Go.Proofs.Tryd.underlying64, rfl⟩, by kernel_rfl⟩
theorem ty65 : TInfo.ok Go.Proofs.Tryd.prog 65 ⟨.invalid, some [(31, 0), (3, 1)], (.agg #[(.slice none 0 0), (.int .i64 0)]), 2, 32⟩ := ⟨⟨_, Go.Proofs.Tryd.underlying65, rfl⟩, by kernel_rfl⟩
theorem ty71 : TInfo.ok Go.Proofs.Tryd.prog 71 ⟨(.slice 31), none, (.slice none 0 0), 1, 24⟩ := ⟨Go.Proofs.Tryd.underlying71, by kernel_rfl⟩
theorem ty75 : TInfo.ok Go.Proofs.Tryd.prog 75 ⟨(.int .u32), none, (.int .u32 0), 1, 4⟩ := ⟨Go.Proofs.Tryd.underlying75, by kernel_rfl⟩
theorem ty80 : TInfo.ok Go.Proofs.Tryd.prog 80 ⟨.invalid, some [(3, 0), (9, 1), (9, 2), (63, 3)], (.agg #[(.int .i64 0), (.string ByteArray.empty), (.string ByteArray.empty), (.pointer none)]), 4, 48⟩ := ⟨⟨_, Go.Proofs.Tryd.underlying80, rfl⟩, by kernel_rfl⟩
theorem ty81 : TInfo.ok Go.Proofs.Tryd.prog 81 ⟨.invalid, some [(3, 0), (9, 1), (9, 2), (63, 3)], (.agg #[(.int .i64 0), (.string ByteArray.empty), (.string ByteArray.empty), (.pointer none)]), 4, 48⟩ := ⟨⟨_, Go.Proofs.Tryd.underlying81, rfl⟩, by kernel_rfl⟩
theorem ty83 : TInfo.ok Go.Proofs.Tryd.prog 83 ⟨(.slice 9), none, (.slice none 0 0), 1, 24⟩ := ⟨Go.Proofs.Tryd.underlying83, by kernel_rfl⟩
theorem ty91 : TInfo.ok Go.Proofs.Tryd.prog 91 ⟨(.int .u64), none, (.int .u64 0), 1, 8⟩ := ⟨Go.Proofs.Tryd.underlying91, by kernel_rfl⟩
theorem ty94 : TInfo.ok Go.Proofs.Tryd.prog 94 ⟨(.slice 39), none, (.slice none 0 0), 1, 24⟩ := ⟨Go.Proofs.Tryd.underlying94, by kernel_rfl⟩
theorem ty96 : TInfo.ok Go.Proofs.Tryd.prog 96 ⟨(.int .u64), none, (.int .u64 0), 1, 8⟩ := ⟨Go.Proofs.Tryd.underlying96, by kernel_rfl⟩
theorem ty105 : TInfo.ok Go.Proofs.Tryd.prog 105 ⟨(.pointer 107), none, (.pointer none), 1, 8⟩ := ⟨Go.Proofs.Tryd.underlying105, by kernel_rfl⟩
theorem ty106 : TInfo.ok Go.Proofs.Tryd.prog 106 ⟨.invalid, some [(31, 0), (4, 1)], (.agg #[(.slice none 0 0), (.bool false)]), 2, 32⟩ := ⟨⟨_, Go.Proofs.Tryd.underlying106, rfl⟩, by kernel_rfl⟩
theorem ty107 : TInfo.ok Go.Proofs.Tryd.prog 107 ⟨.invalid, some [(31, 0), (4, 1)], (.agg #[(.slice none 0 0), (.bool false)]), 2, 32⟩ := ⟨⟨_, Go.Proofs.Tryd.underlying107, rfl⟩, by kernel_rfl⟩
theorem ty111 : TInfo.ok Go.Proofs.Tryd.prog 111 ⟨(.array 24 5), none, (.agg (Array.replicate 24 (.int .u8 0))), 24, 24⟩ := ⟨Go.Proofs.Tryd.underlying111, by kernel_rfl⟩
theorem ty120 : TInfo.ok Go.Proofs.Tryd.prog 120 ⟨(.array 20 91), none, (.agg #[(.int .u64 0), (.int .u64 0), (.int .u64 0), (.int .u64 0), (.int .u64 0), (.int .u64 0), (.int .u64 0), (.int .u64 0), (.int .u64 0), (.int .u64 0), (.int .u64 0), (.int .u64 0), (.int .u64 0), (.int .u64 0), (.int .u64 0), (.int .u64 0), (.int .u64 0), (.int .u64 0), (.int .u64 0), (.int .u64 0)]), 20, 160⟩ := ⟨Go.Proofs.Tryd.underlying120, by kernel_rfl⟩
theorem ty121 : TInfo.ok Go.Proofs.Tryd.prog 121 ⟨(.array 65 5), none, (.agg (Array.replicate 65 (.int .u8 0))), 65, 65⟩ := ⟨Go.Proofs.Tryd.underlying121, by kernel_rfl⟩
theorem ty124 : TInfo.ok Go.Proofs.Tryd.prog 124 ⟨(.int .i64), none, (.int .i64 0), 1, 8⟩ := ⟨Go.Proofs.Tryd.underlying124, by kernel_rfl⟩
theorem ty133 : TInfo.ok Go.Proofs.Tryd.prog 133 ⟨(.int .u64), none, (.int .u64 0), 1, 8⟩ := ⟨Go.Proofs.Tryd.underlying133, by kernel_rfl⟩
theorem ty137 : TInfo.ok Go.Proofs.Tryd.prog 137 ⟨(.pointer 3), none, (.pointer none), 1, 8⟩ := ⟨Go.Proofs.Tryd.underlying137, by kernel_rfl⟩
theorem ty139 : TInfo.ok Go.Proofs.Tryd.prog 139 ⟨(.array 32 5), none, (.agg (Array.replicate 32 (.int .u8 0))), 32, 32⟩ := ⟨Go.Proofs.Tryd.underlying139, by kernel_rfl⟩
theorem ty140 : TInfo.ok Go.Proofs.Tryd.prog 140 ⟨(.array 64 5), none, (.agg (Array.replicate 64 (.int .u8 0))), 64, 64⟩ := ⟨Go.Proofs.Tryd.underlying140, by kernel_rfl⟩
theorem ty141 : TInfo.ok Go.Proofs.Tryd.prog 141 ⟨(.pointer 133), none, (.pointer none), 1, 8⟩ := ⟨Go.Proofs.Tryd.underlying141, by kernel_rfl⟩
theorem ty144 : TInfo.ok Go.Proofs.Tryd.prog 144 ⟨.invalid, some [(17, 0), (17, 1), (17, 2), (9, 3)], (.agg #[(.pointer none), (.pointer none), (.pointer none), (.string ByteArray.empty)]), 4, 40⟩ := ⟨⟨_, Go.Proofs.Tryd.underlying144, rfl⟩, by kernel_rfl⟩
theorem ty145 : TInfo.ok Go.Proofs.Tryd.prog 145 ⟨.invalid, some [(17, 0), (17, 1), (17, 2), (9, 3)], (.agg #[(.pointer none), (.pointer none), (.pointer none), (.string ByteArray.empty)]), 4, 40⟩ := ⟨⟨_, Go.Proofs.Tryd.underlying145, rfl⟩, by kernel_rfl⟩
theorem ty146 : TInfo.ok Go.Proofs.Tryd.prog 146 ⟨(.array 0 16), none, (.agg #[]), 0, 0⟩ := ⟨Go.Proofs.Tryd.underlying146, by kernel_rfl⟩
theorem ty147 : TInfo.ok Go.Proofs.Tryd.prog 147 ⟨.invalid, some [(146, 0)], (.agg #[]), 0, 0⟩ := ⟨⟨_, Go.Proofs.Tryd.underlying147, rfl⟩, by kernel_rfl⟩
theorem ty148 : TInfo.ok Go.Proofs.Tryd.prog 148 ⟨.invalid, some [(146, 0)], (.agg #[]), 0, 0⟩ := ⟨⟨_, Go.Proofs.Tryd.underlying148, rfl⟩, by kernel_rfl⟩
theorem ty149 : TInfo.ok Go.Proofs.Tryd.prog 149 ⟨(.int .u8), none, (.int .u8 0), 1, 1⟩ := ⟨Go.Proofs.Tryd.underlying149, by kernel_rfl⟩
theorem ty150 : TInfo.ok Go.Proofs.Tryd.prog 150 ⟨(.int .u8), none, (.int .u8 0), 1, 1⟩ := ⟨Go.Proofs.Tryd.underlying150, by kernel_rfl⟩
theorem ty152 : TInfo.ok Go.Proofs.Tryd.prog 152 ⟨(.pointer 5), none, (.pointer none), 1, 8⟩ := ⟨Go.Proofs.Tryd.underlying152, by kernel_rfl⟩
theorem ty153 : TInfo.ok Go.Proofs.Tryd.prog 153 ⟨(.int .i32), none, (.int .i32 0), 1, 4⟩ := ⟨Go.Proofs.Tryd.underlying153, by kernel_rfl⟩
theorem ty154 : TInfo.ok Go.Proofs.Tryd.prog 154 ⟨(.int .i32), none, (.int .i32 0), 1, 4⟩ := ⟨Go.Proofs.Tryd.underlying154, by kernel_rfl⟩
theorem ty155 : TInfo.ok Go.Proofs.Tryd.prog 155 ⟨.invalid, some [(12, 0), (12, 1), (75, 2), (149, 3), (5, 4), (5, 5), (150, 6), (151, 7), (152, 8), (153, 9), (154, 10)], (.agg #[(.int .u64 0), (.int .u64 0), (.int .u32 0), (.int .u8 0), (.int .u8 0), (.int .u8 0), (.int .u8 0), .nilFunc, (.pointer none), (.int .i32 0), (.int .i32 0)]), 11, 48⟩ := ⟨⟨_, Go.Proofs.Tryd.underlying155, rfl⟩, by kernel_rfl⟩
theorem ty156 : TInfo.ok Go.Proofs.Tryd.prog 156 ⟨.invalid, some [(12, 0), (12, 1), (75, 2), (149, 3), (5, 4), (5, 5), (150, 6), (151, 7), (152, 8), (153, 9), (154, 10)], (.agg #[(.int .u64 0), (.int .u64 0), (.int .u32 0), (.int .u8 0), (.int .u8 0), (.int .u8 0), (.int .u8 0), .nilFunc, (.pointer none), (.int .i32 0), (.int .i32 0)]), 11, 48⟩ := ⟨⟨_, Go.Proofs.Tryd.underlying156, rfl⟩, by kernel_rfl⟩
theorem ty157 : TInfo.ok Go.Proofs.Tryd.prog 157 ⟨.unsafePointer, none, (.pointer none), 1, 8⟩ := ⟨Go.Proofs.Tryd.underlying157, by kernel_rfl⟩
theorem typesOk : AllOk Go.Proofs.Tryd.prog typeRows := ⟨ty2, ty3, ty4, ty5, ty6, ty7, ty8, ty9, ty10, ty11, ty12, ty13, ty14, ty15, ty16, ty17, ty18, ty19, ty21, ty23, ty25, ty26, ty31, ty32, ty33, ty40, ty53, ty54, ty55, ty56, ty58, ty59, ty60, ty63, ty64, ty65, ty71, ty75, ty80, ty81, ty83, ty91, ty94, ty96, ty105, ty106, ty107, ty111, ty120, ty121, ty124, ty133, ty137, ty139, ty140, ty141, ty144, ty145, ty146, ty147, ty148, ty149, ty150, ty152, ty153, ty154, ty155, ty156, ty157, trivial⟩
def T : Types Go.Proofs.Tryd.prog := Types.of typeRows typesOk
theorem fol : Go.Proofs.Tryd.prog.follows .mixedOrders = true := by kernel_rfl
end Go.Proofs.YtbhnplghnhafiaaDoor.Tryd
