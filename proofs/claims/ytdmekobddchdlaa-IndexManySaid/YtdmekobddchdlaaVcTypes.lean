/- The types of this translation, as the steps of the walks ask for them. Printed by a small program (mktypes.py); each row is checked by the kernel. -/
import Derived.Test.YtdmekobddchdlaaVcMem
import Derived.Test.YtdmekobddchdlaaProg
import Derived.KernelRfl
namespace Go.Proofs.Ytdmekobddchdlaa.Try
open Go Go.Vc
def typeRows : List (Nat × TInfo) := [
  (2, ⟨(.int .i64), none, (.int .i64 0), 1, 8⟩),
  (3, ⟨(.int .i64), none, (.int .i64 0), 1, 8⟩),
  (4, ⟨.bool, none, (.bool false), 1, 1⟩),
  (5, ⟨(.int .u8), none, (.int .u8 0), 1, 1⟩),
  (6, ⟨(.int .u8), none, (.int .u8 0), 1, 1⟩),
  (7, ⟨.invalid, some [(2, 0), (3, 1), (4, 2), (6, 3)], (.agg #[(.int .i64 0), (.int .i64 0), (.bool false), (.int .u8 0)]), 4, 24⟩),
  (8, ⟨.invalid, some [(2, 0), (3, 1), (4, 2), (6, 3)], (.agg #[(.int .i64 0), (.int .i64 0), (.bool false), (.int .u8 0)]), 4, 24⟩),
  (9, ⟨.string, none, (.string ByteArray.empty), 1, 16⟩),
  (10, ⟨.string, none, (.string ByteArray.empty), 1, 16⟩),
  (11, ⟨.string, none, (.string ByteArray.empty), 1, 16⟩),
  (12, ⟨(.int .u64), none, (.int .u64 0), 1, 8⟩),
  (13, ⟨.invalid, some [(9, 0), (12, 1)], (.agg #[(.string ByteArray.empty), (.int .u64 0)]), 2, 24⟩),
  (14, ⟨.invalid, some [(9, 0), (12, 1)], (.agg #[(.string ByteArray.empty), (.int .u64 0)]), 2, 24⟩),
  (15, ⟨(.pointer 109), none, (.pointer none), 1, 8⟩),
  (16, ⟨(.pointer 112), none, (.pointer none), 1, 8⟩),
  (17, ⟨(.pointer 120), none, (.pointer none), 1, 8⟩),
  (18, ⟨.invalid, some [(17, 0)], (.agg #[(.pointer none)]), 1, 8⟩),
  (19, ⟨.invalid, some [(17, 0)], (.agg #[(.pointer none)]), 1, 8⟩),
  (21, ⟨(.int .i32), none, (.int .i32 0), 1, 4⟩),
  (22, ⟨(.slice 23), none, (.slice none 0 0), 1, 24⟩),
  (23, ⟨(.slice 5), none, (.slice none 0 0), 1, 24⟩),
  (27, ⟨(.slice 3), none, (.slice none 0 0), 1, 24⟩),
  (28, ⟨(.slice 4), none, (.slice none 0 0), 1, 24⟩),
  (37, ⟨(.slice 28), none, (.slice none 0 0), 1, 24⟩),
  (40, ⟨(.slice 2), none, (.slice none 0 0), 1, 24⟩),
  (41, ⟨(.pointer 72), none, (.pointer none), 1, 8⟩),
  (45, ⟨.invalid, some [(2, 0), (3, 1), (2, 2)], (.agg #[(.int .i64 0), (.int .i64 0), (.int .i64 0)]), 3, 24⟩),
  (46, ⟨.invalid, some [(2, 0), (3, 1), (2, 2)], (.agg #[(.int .i64 0), (.int .i64 0), (.int .i64 0)]), 3, 24⟩),
  (50, ⟨(.array 200 4), none, (.agg (Array.replicate 200 (.bool false))), 200, 200⟩),
  (52, ⟨(.slice 9), none, (.slice none 0 0), 1, 24⟩),
  (68, ⟨(.map 2 3), none, (.map none), 1, 8⟩),
  (69, ⟨(.map 9 75), none, (.map none), 1, 8⟩),
  (70, ⟨(.array 4 69), none, (.agg #[(.map none), (.map none), (.map none), (.map none)]), 4, 32⟩),
  (71, ⟨.invalid, some [(70, 0), (68, 4)], (.agg #[(.map none), (.map none), (.map none), (.map none), (.map none)]), 5, 40⟩),
  (72, ⟨.invalid, some [(70, 0), (68, 4)], (.agg #[(.map none), (.map none), (.map none), (.map none), (.map none)]), 5, 40⟩),
  (74, ⟨.invalid, some [(2, 0), (46, 1), (4, 4)], (.agg #[(.int .i64 0), (.int .i64 0), (.int .i64 0), (.int .i64 0), (.bool false)]), 5, 40⟩),
  (75, ⟨.invalid, some [(2, 0), (46, 1), (4, 4)], (.agg #[(.int .i64 0), (.int .i64 0), (.int .i64 0), (.int .i64 0), (.bool false)]), 5, 40⟩),
  (83, ⟨(.int .u64), none, (.int .u64 0), 1, 8⟩),
  (84, ⟨(.int .u32), none, (.int .u32 0), 1, 4⟩),
  (87, ⟨(.int .i64), none, (.int .i64 0), 1, 8⟩),
  (96, ⟨(.int .u64), none, (.int .u64 0), 1, 8⟩),
  (97, ⟨(.int .u64), none, (.int .u64 0), 1, 8⟩),
  (101, ⟨(.pointer 3), none, (.pointer none), 1, 8⟩),
  (104, ⟨(.pointer 97), none, (.pointer none), 1, 8⟩),
  (108, ⟨.invalid, some [(17, 0), (17, 1), (17, 2), (9, 3)], (.agg #[(.pointer none), (.pointer none), (.pointer none), (.string ByteArray.empty)]), 4, 40⟩),
  (109, ⟨.invalid, some [(17, 0), (17, 1), (17, 2), (9, 3)], (.agg #[(.pointer none), (.pointer none), (.pointer none), (.string ByteArray.empty)]), 4, 40⟩),
  (110, ⟨(.array 0 16), none, (.agg #[]), 0, 0⟩),
  (111, ⟨.invalid, some [(110, 0)], (.agg #[]), 0, 0⟩),
  (112, ⟨.invalid, some [(110, 0)], (.agg #[]), 0, 0⟩),
  (113, ⟨(.int .u8), none, (.int .u8 0), 1, 1⟩),
  (114, ⟨(.int .u8), none, (.int .u8 0), 1, 1⟩),
  (116, ⟨(.pointer 5), none, (.pointer none), 1, 8⟩),
  (117, ⟨(.int .i32), none, (.int .i32 0), 1, 4⟩),
  (118, ⟨(.int .i32), none, (.int .i32 0), 1, 4⟩),
  (119, ⟨.invalid, some [(12, 0), (12, 1), (84, 2), (113, 3), (5, 4), (5, 5), (114, 6), (115, 7), (116, 8), (117, 9), (118, 10)], (.agg #[(.int .u64 0), (.int .u64 0), (.int .u32 0), (.int .u8 0), (.int .u8 0), (.int .u8 0), (.int .u8 0), .nilFunc, (.pointer none), (.int .i32 0), (.int .i32 0)]), 11, 48⟩),
  (120, ⟨.invalid, some [(12, 0), (12, 1), (84, 2), (113, 3), (5, 4), (5, 5), (114, 6), (115, 7), (116, 8), (117, 9), (118, 10)], (.agg #[(.int .u64 0), (.int .u64 0), (.int .u32 0), (.int .u8 0), (.int .u8 0), (.int .u8 0), (.int .u8 0), .nilFunc, (.pointer none), (.int .i32 0), (.int .i32 0)]), 11, 48⟩),
  (121, ⟨.unsafePointer, none, (.pointer none), 1, 8⟩)]
theorem ty2 : TInfo.ok Go.Proofs.Try.prog 2 ⟨(.int .i64), none, (.int .i64 0), 1, 8⟩ := ⟨Go.Proofs.Try.underlying2, by kernel_rfl⟩
theorem ty3 : TInfo.ok Go.Proofs.Try.prog 3 ⟨(.int .i64), none, (.int .i64 0), 1, 8⟩ := ⟨Go.Proofs.Try.underlying3, by kernel_rfl⟩
theorem ty4 : TInfo.ok Go.Proofs.Try.prog 4 ⟨.bool, none, (.bool false), 1, 1⟩ := ⟨Go.Proofs.Try.underlying4, by kernel_rfl⟩
theorem ty5 : TInfo.ok Go.Proofs.Try.prog 5 ⟨(.int .u8), none, (.int .u8 0), 1, 1⟩ := ⟨Go.Proofs.Try.underlying5, by kernel_rfl⟩
theorem ty6 : TInfo.ok Go.Proofs.Try.prog 6 ⟨(.int .u8), none, (.int .u8 0), 1, 1⟩ := ⟨Go.Proofs.Try.underlying6, by kernel_rfl⟩
theorem ty7 : TInfo.ok Go.Proofs.Try.prog 7 ⟨.invalid, some [(2, 0), (3, 1), (4, 2), (6, 3)], (.agg #[(.int .i64 0), (.int .i64 0), (.bool false), (.int .u8 0)]), 4, 24⟩ := ⟨⟨_, Go.Proofs.Try.underlying7, rfl⟩, by kernel_rfl⟩
theorem ty8 : TInfo.ok Go.Proofs.Try.prog 8 ⟨.invalid, some [(2, 0), (3, 1), (4, 2), (6, 3)], (.agg #[(.int .i64 0), (.int .i64 0), (.bool false), (.int .u8 0)]), 4, 24⟩ := ⟨⟨_, Go.Proofs.Try.underlying8, rfl⟩, by kernel_rfl⟩
theorem ty9 : TInfo.ok Go.Proofs.Try.prog 9 ⟨.string, none, (.string ByteArray.empty), 1, 16⟩ := ⟨Go.Proofs.Try.underlying9, by kernel_rfl⟩
theorem ty10 : TInfo.ok Go.Proofs.Try.prog 10 ⟨.string, none, (.string ByteArray.empty), 1, 16⟩ := ⟨Go.Proofs.Try.underlying10, by kernel_rfl⟩
theorem ty11 : TInfo.ok Go.Proofs.Try.prog 11 ⟨.string, none, (.string ByteArray.empty), 1, 16⟩ := ⟨Go.Proofs.Try.underlying11, by kernel_rfl⟩
theorem ty12 : TInfo.ok Go.Proofs.Try.prog 12 ⟨(.int .u64), none, (.int .u64 0), 1, 8⟩ := ⟨Go.Proofs.Try.underlying12, by kernel_rfl⟩
theorem ty13 : TInfo.ok Go.Proofs.Try.prog 13 ⟨.invalid, some [(9, 0), (12, 1)], (.agg #[(.string ByteArray.empty), (.int .u64 0)]), 2, 24⟩ := ⟨⟨_, Go.Proofs.Try.underlying13, rfl⟩, by kernel_rfl⟩
theorem ty14 : TInfo.ok Go.Proofs.Try.prog 14 ⟨.invalid, some [(9, 0), (12, 1)], (.agg #[(.string ByteArray.empty), (.int .u64 0)]), 2, 24⟩ := ⟨⟨_, Go.Proofs.Try.underlying14, rfl⟩, by kernel_rfl⟩
theorem ty15 : TInfo.ok Go.Proofs.Try.prog 15 ⟨(.pointer 109), none, (.pointer none), 1, 8⟩ := ⟨Go.Proofs.Try.underlying15, by kernel_rfl⟩
theorem ty16 : TInfo.ok Go.Proofs.Try.prog 16 ⟨(.pointer 112), none, (.pointer none), 1, 8⟩ := ⟨Go.Proofs.Try.underlying16, by kernel_rfl⟩
theorem ty17 : TInfo.ok Go.Proofs.Try.prog 17 ⟨(.pointer 120), none, (.pointer none), 1, 8⟩ := ⟨Go.Proofs.Try.underlying17, by kernel_rfl⟩
theorem ty18 : TInfo.ok Go.Proofs.Try.prog 18 ⟨.invalid, some [(17, 0)], (.agg #[(.pointer none)]), 1, 8⟩ := ⟨⟨_, Go.Proofs.Try.underlying18, rfl⟩, by kernel_rfl⟩
theorem ty19 : TInfo.ok Go.Proofs.Try.prog 19 ⟨.invalid, some [(17, 0)], (.agg #[(.pointer none)]), 1, 8⟩ := ⟨⟨_, Go.Proofs.Try.underlying19, rfl⟩, by kernel_rfl⟩
theorem ty21 : TInfo.ok Go.Proofs.Try.prog 21 ⟨(.int .i32), none, (.int .i32 0), 1, 4⟩ := ⟨Go.Proofs.Try.underlying21, by kernel_rfl⟩
theorem ty22 : TInfo.ok Go.Proofs.Try.prog 22 ⟨(.slice 23), none, (.slice none 0 0), 1, 24⟩ := ⟨Go.Proofs.Try.underlying22, by kernel_rfl⟩
theorem ty23 : TInfo.ok Go.Proofs.Try.prog 23 ⟨(.slice 5), none, (.slice none 0 0), 1, 24⟩ := ⟨Go.Proofs.Try.underlying23, by kernel_rfl⟩
theorem ty27 : TInfo.ok Go.Proofs.Try.prog 27 ⟨(.slice 3), none, (.slice none 0 0), 1, 24⟩ := ⟨Go.Proofs.Try.underlying27, by kernel_rfl⟩
theorem ty28 : TInfo.ok Go.Proofs.Try.prog 28 ⟨(.slice 4), none, (.slice none 0 0), 1, 24⟩ := ⟨Go.Proofs.Try.underlying28, by kernel_rfl⟩
theorem ty37 : TInfo.ok Go.Proofs.Try.prog 37 ⟨(.slice 28), none, (.slice none 0 0), 1, 24⟩ := ⟨Go.Proofs.Try.underlying37, by kernel_rfl⟩
theorem ty40 : TInfo.ok Go.Proofs.Try.prog 40 ⟨(.slice 2), none, (.slice none 0 0), 1, 24⟩ := ⟨Go.Proofs.Try.underlying40, by kernel_rfl⟩
theorem ty41 : TInfo.ok Go.Proofs.Try.prog 41 ⟨(.pointer 72), none, (.pointer none), 1, 8⟩ := ⟨Go.Proofs.Try.underlying41, by kernel_rfl⟩
theorem ty45 : TInfo.ok Go.Proofs.Try.prog 45 ⟨.invalid, some [(2, 0), (3, 1), (2, 2)], (.agg #[(.int .i64 0), (.int .i64 0), (.int .i64 0)]), 3, 24⟩ := ⟨⟨_, Go.Proofs.Try.underlying45, rfl⟩, by kernel_rfl⟩
theorem ty46 : TInfo.ok Go.Proofs.Try.prog 46 ⟨.invalid, some [(2, 0), (3, 1), (2, 2)], (.agg #[(.int .i64 0), (.int .i64 0), (.int .i64 0)]), 3, 24⟩ := ⟨⟨_, Go.Proofs.Try.underlying46, rfl⟩, by kernel_rfl⟩
theorem ty50 : TInfo.ok Go.Proofs.Try.prog 50 ⟨(.array 200 4), none, (.agg (Array.replicate 200 (.bool false))), 200, 200⟩ := ⟨Go.Proofs.Try.underlying50, by kernel_rfl⟩
theorem ty52 : TInfo.ok Go.Proofs.Try.prog 52 ⟨(.slice 9), none, (.slice none 0 0), 1, 24⟩ := ⟨Go.Proofs.Try.underlying52, by kernel_rfl⟩
theorem ty68 : TInfo.ok Go.Proofs.Try.prog 68 ⟨(.map 2 3), none, (.map none), 1, 8⟩ := ⟨Go.Proofs.Try.underlying68, by kernel_rfl⟩
theorem ty69 : TInfo.ok Go.Proofs.Try.prog 69 ⟨(.map 9 75), none, (.map none), 1, 8⟩ := ⟨Go.Proofs.Try.underlying69, by kernel_rfl⟩
theorem ty70 : TInfo.ok Go.Proofs.Try.prog 70 ⟨(.array 4 69), none, (.agg #[(.map none), (.map none), (.map none), (.map none)]), 4, 32⟩ := ⟨Go.Proofs.Try.underlying70, by kernel_rfl⟩
theorem ty71 : TInfo.ok Go.Proofs.Try.prog 71 ⟨.invalid, some [(70, 0), (68, 4)], (.agg #[(.map none), (.map none), (.map none), (.map none), (.map none)]), 5, 40⟩ := ⟨⟨_, Go.Proofs.Try.underlying71, rfl⟩, by kernel_rfl⟩
theorem ty72 : TInfo.ok Go.Proofs.Try.prog 72 ⟨.invalid, some [(70, 0), (68, 4)], (.agg #[(.map none), (.map none), (.map none), (.map none), (.map none)]), 5, 40⟩ := ⟨⟨_, Go.Proofs.Try.underlying72, rfl⟩, by kernel_rfl⟩
theorem ty74 : TInfo.ok Go.Proofs.Try.prog 74 ⟨.invalid, some [(2, 0), (46, 1), (4, 4)], (.agg #[(.int .i64 0), (.int .i64 0), (.int .i64 0), (.int .i64 0), (.bool false)]), 5, 40⟩ := ⟨⟨_, Go.Proofs.Try.underlying74, rfl⟩, by kernel_rfl⟩
theorem ty75 : TInfo.ok Go.Proofs.Try.prog 75 ⟨.invalid, some [(2, 0), (46, 1), (4, 4)], (.agg #[(.int .i64 0), (.int .i64 0), (.int .i64 0), (.int .i64 0), (.bool false)]), 5, 40⟩ := ⟨⟨_, Go.Proofs.Try.underlying75, rfl⟩, by kernel_rfl⟩
theorem ty83 : TInfo.ok Go.Proofs.Try.prog 83 ⟨(.int .u64), none, (.int .u64 0), 1, 8⟩ := ⟨Go.Proofs.Try.underlying83, by kernel_rfl⟩
theorem ty84 : TInfo.ok Go.Proofs.Try.prog 84 ⟨(.int .u32), none, (.int .u32 0), 1, 4⟩ := ⟨Go.Proofs.Try.underlying84, by kernel_rfl⟩
theorem ty87 : TInfo.ok Go.Proofs.Try.prog 87 ⟨(.int .i64), none, (.int .i64 0), 1, 8⟩ := ⟨Go.Proofs.Try.underlying87, by kernel_rfl⟩
theorem ty96 : TInfo.ok Go.Proofs.Try.prog 96 ⟨(.int .u64), none, (.int .u64 0), 1, 8⟩ := ⟨Go.Proofs.Try.underlying96, by kernel_rfl⟩
theorem ty97 : TInfo.ok Go.Proofs.Try.prog 97 ⟨(.int .u64), none, (.int .u64 0), 1, 8⟩ := ⟨Go.Proofs.Try.underlying97, by kernel_rfl⟩
theorem ty101 : TInfo.ok Go.Proofs.Try.prog 101 ⟨(.pointer 3), none, (.pointer none), 1, 8⟩ := ⟨Go.Proofs.Try.underlying101, by kernel_rfl⟩
theorem ty104 : TInfo.ok Go.Proofs.Try.prog 104 ⟨(.pointer 97), none, (.pointer none), 1, 8⟩ := ⟨Go.Proofs.Try.underlying104, by kernel_rfl⟩
theorem ty108 : TInfo.ok Go.Proofs.Try.prog 108 ⟨.invalid, some [(17, 0), (17, 1), (17, 2), (9, 3)], (.agg #[(.pointer none), (.pointer none), (.pointer none), (.string ByteArray.empty)]), 4, 40⟩ := ⟨⟨_, Go.Proofs.Try.underlying108, rfl⟩, by kernel_rfl⟩
theorem ty109 : TInfo.ok Go.Proofs.Try.prog 109 ⟨.invalid, some [(17, 0), (17, 1), (17, 2), (9, 3)], (.agg #[(.pointer none), (.pointer none), (.pointer none), (.string ByteArray.empty)]), 4, 40⟩ := ⟨⟨_, Go.Proofs.Try.underlying109, rfl⟩, by kernel_rfl⟩
theorem ty110 : TInfo.ok Go.Proofs.Try.prog 110 ⟨(.array 0 16), none, (.agg #[]), 0, 0⟩ := ⟨Go.Proofs.Try.underlying110, by kernel_rfl⟩
theorem ty111 : TInfo.ok Go.Proofs.Try.prog 111 ⟨.invalid, some [(110, 0)], (.agg #[]), 0, 0⟩ := ⟨⟨_, Go.Proofs.Try.underlying111, rfl⟩, by kernel_rfl⟩
theorem ty112 : TInfo.ok Go.Proofs.Try.prog 112 ⟨.invalid, some [(110, 0)], (.agg #[]), 0, 0⟩ := ⟨⟨_, Go.Proofs.Try.underlying112, rfl⟩, by kernel_rfl⟩
theorem ty113 : TInfo.ok Go.Proofs.Try.prog 113 ⟨(.int .u8), none, (.int .u8 0), 1, 1⟩ := ⟨Go.Proofs.Try.underlying113, by kernel_rfl⟩
theorem ty114 : TInfo.ok Go.Proofs.Try.prog 114 ⟨(.int .u8), none, (.int .u8 0), 1, 1⟩ := ⟨Go.Proofs.Try.underlying114, by kernel_rfl⟩
theorem ty116 : TInfo.ok Go.Proofs.Try.prog 116 ⟨(.pointer 5), none, (.pointer none), 1, 8⟩ := ⟨Go.Proofs.Try.underlying116, by kernel_rfl⟩
theorem ty117 : TInfo.ok Go.Proofs.Try.prog 117 ⟨(.int .i32), none, (.int .i32 0), 1, 4⟩ := ⟨Go.Proofs.Try.underlying117, by kernel_rfl⟩
theorem ty118 : TInfo.ok Go.Proofs.Try.prog 118 ⟨(.int .i32), none, (.int .i32 0), 1, 4⟩ := ⟨Go.Proofs.Try.underlying118, by kernel_rfl⟩
theorem ty119 : TInfo.ok Go.Proofs.Try.prog 119 ⟨.invalid, some [(12, 0), (12, 1), (84, 2), (113, 3), (5, 4), (5, 5), (114, 6), (115, 7), (116, 8), (117, 9), (118, 10)], (.agg #[(.int .u64 0), (.int .u64 0), (.int .u32 0), (.int .u8 0), (.int .u8 0), (.int .u8 0), (.int .u8 0), .nilFunc, (.pointer none), (.int .i32 0), (.int .i32 0)]), 11, 48⟩ := ⟨⟨_, Go.Proofs.Try.underlying119, rfl⟩, by kernel_rfl⟩
theorem ty120 : TInfo.ok Go.Proofs.Try.prog 120 ⟨.invalid, some [(12, 0), (12, 1), (84, 2), (113, 3), (5, 4), (5, 5), (114, 6), (115, 7), (116, 8), (117, 9), (118, 10)], (.agg #[(.int .u64 0), (.int .u64 0), (.int .u32 0), (.int .u8 0), (.int .u8 0), (.int .u8 0), (.int .u8 0), .nilFunc, (.pointer none), (.int .i32 0), (.int .i32 0)]), 11, 48⟩ := ⟨⟨_, Go.Proofs.Try.underlying120, rfl⟩, by kernel_rfl⟩
theorem ty121 : TInfo.ok Go.Proofs.Try.prog 121 ⟨.unsafePointer, none, (.pointer none), 1, 8⟩ := ⟨Go.Proofs.Try.underlying121, by kernel_rfl⟩
theorem typesOk : AllOk Go.Proofs.Try.prog typeRows := ⟨ty2, ty3, ty4, ty5, ty6, ty7, ty8, ty9, ty10, ty11, ty12, ty13, ty14, ty15, ty16, ty17, ty18, ty19, ty21, ty22, ty23, ty27, ty28, ty37, ty40, ty41, ty45, ty46, ty50, ty52, ty68, ty69, ty70, ty71, ty72, ty74, ty75, ty83, ty84, ty87, ty96, ty97, ty101, ty104, ty108, ty109, ty110, ty111, ty112, ty113, ty114, ty116, ty117, ty118, ty119, ty120, ty121, trivial⟩
def T : Types Go.Proofs.Try.prog := Types.of typeRows typesOk
theorem fol : Go.Proofs.Try.prog.follows .mixedOrders = true := by kernel_rfl
end Go.Proofs.Ytdmekobddchdlaa.Try
