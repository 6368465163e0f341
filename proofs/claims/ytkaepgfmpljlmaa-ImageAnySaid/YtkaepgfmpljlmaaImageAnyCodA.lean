/- Part of the proof of ImageAny: the contracts of the functions. -/
import Derived.Test.YtkaepgfmpljlmaaImageAnyRowA
import Derived.Test.YtkaepgfmpljlmaaProg

set_option linter.unusedVariables false
set_option linter.unusedSimpArgs false
namespace Go.Proofs.Ytkaepgfmpljlmaa
open Go.Ab Go.RowKit

def ttab : List (Nat × TI) := [
  (3, ⟨(.int .i64), (.int .i64 0), 1, 8, false, false⟩),
  (5, ⟨(.int .u8), (.int .u8 0), 1, 1, false, false⟩),
  (4, ⟨(.bool), (.bool false), 1, 1, false, false⟩),
  (9, ⟨(.string), (.string (ByteArray.mk #[])), 1, 16, false, false⟩),
  (23, ⟨(.slice 5), (.slice none 0 0), 1, 24, false, true⟩),
  (25, ⟨(.slice 3), (.slice none 0 0), 1, 24, false, false⟩),
  (2, ⟨(.int .i64), (.int .i64 0), 1, 8, false, false⟩),
  (12, ⟨(.int .u64), (.int .u64 0), 1, 8, false, false⟩),
  (21, ⟨(.int .i32), (.int .i32 0), 1, 4, false, false⟩),
  (22, ⟨(.slice 23), (.slice none 0 0), 1, 24, false, false⟩),
  (26, ⟨(.struct #[(Field.mk "Round" 3 0 false "" "" 0), (Field.mk "Done" 25 1 false "" "" 8), (Field.mk "Count" 3 2 false "" "" 32)]), (.agg #[.int .i64 0, .slice none 0 0, .int .i64 0]), 3, 40, false, false⟩),
  (27, ⟨(.struct #[(Field.mk "Round" 3 0 false "" "" 0), (Field.mk "Done" 25 1 false "" "" 8), (Field.mk "Count" 3 2 false "" "" 32)]), (.agg #[.int .i64 0, .slice none 0 0, .int .i64 0]), 3, 40, false, false⟩),
  (28, ⟨(.slice 57), (.slice none 0 0), 1, 24, false, false⟩),
  (29, ⟨(.slice 55), (.slice none 0 0), 1, 24, false, false⟩),
  (30, ⟨(.struct #[(Field.mk "Pairs" 28 0 false "" "" 0), (Field.mk "Accounts" 29 1 false "" "" 24)]), (.agg #[.slice none 0 0, .slice none 0 0]), 2, 48, false, false⟩),
  (31, ⟨(.struct #[(Field.mk "Pairs" 28 0 false "" "" 0), (Field.mk "Accounts" 29 1 false "" "" 24)]), (.agg #[.slice none 0 0, .slice none 0 0]), 2, 48, false, false⟩),
  (32, ⟨(.struct #[(Field.mk "Table" 31 0 false "" "" 0), (Field.mk "Seen" 25 2 false "" "" 48), (Field.mk "Count" 3 3 false "" "" 72)]), (.agg #[.slice none 0 0, .slice none 0 0, .slice none 0 0, .int .i64 0]), 4, 80, false, false⟩),
  (33, ⟨(.struct #[(Field.mk "Table" 31 0 false "" "" 0), (Field.mk "Seen" 25 2 false "" "" 48), (Field.mk "Count" 3 3 false "" "" 72)]), (.agg #[.slice none 0 0, .slice none 0 0, .slice none 0 0, .int .i64 0]), 4, 80, false, false⟩),
  (34, ⟨(.struct #[(Field.mk "Cursor" 27 0 false "" "" 0), (Field.mk "Exec" 33 3 false "" "" 40)]), (.agg #[.int .i64 0, .slice none 0 0, .int .i64 0, .slice none 0 0, .slice none 0 0, .slice none 0 0, .int .i64 0]), 7, 120, false, false⟩),
  (35, ⟨(.struct #[(Field.mk "Cursor" 27 0 false "" "" 0), (Field.mk "Exec" 33 3 false "" "" 40)]), (.agg #[.int .i64 0, .slice none 0 0, .int .i64 0, .slice none 0 0, .slice none 0 0, .slice none 0 0, .int .i64 0]), 7, 120, false, false⟩),
  (36, ⟨(.int .i64), (.int .i64 0), 1, 8, false, false⟩),
  (47, ⟨(.slice 9), (.slice none 0 0), 1, 24, false, false⟩),
  (51, ⟨(.pointer 3), (.pointer none), 1, 8, false, false⟩),
  (53, ⟨(.pointer 25), (.pointer none), 1, 8, false, false⟩),
  (54, ⟨(.struct #[(Field.mk "Sender" 3 0 false "" "" 0), (Field.mk "Seq" 3 1 false "" "" 8)]), (.agg #[.int .i64 0, .int .i64 0]), 2, 16, false, false⟩),
  (55, ⟨(.struct #[(Field.mk "Sender" 3 0 false "" "" 0), (Field.mk "Seq" 3 1 false "" "" 8)]), (.agg #[.int .i64 0, .int .i64 0]), 2, 16, false, false⟩),
  (56, ⟨(.struct #[(Field.mk "Key" 9 0 false "" "" 0), (Field.mk "Val" 9 1 false "" "" 16)]), (.agg #[.string (ByteArray.mk #[]), .string (ByteArray.mk #[])]), 2, 32, false, false⟩),
  (57, ⟨(.struct #[(Field.mk "Key" 9 0 false "" "" 0), (Field.mk "Val" 9 1 false "" "" 16)]), (.agg #[.string (ByteArray.mk #[]), .string (ByteArray.mk #[])]), 2, 32, false, false⟩),
  (68, ⟨(.pointer 84), (.pointer none), 1, 8, false, false⟩),
  (69, ⟨(.slice 51), (.slice none 0 0), 1, 24, false, false⟩),
  (72, ⟨(.slice 53), (.slice none 0 0), 1, 24, false, false⟩),
  (83, ⟨(.struct #[(Field.mk "b" 23 0 false "" "drover/wire" 0), (Field.mk "bad" 4 1 false "" "drover/wire" 24)]), (.agg #[.slice none 0 0, .bool false]), 2, 32, false, false⟩),
  (84, ⟨(.struct #[(Field.mk "b" 23 0 false "" "drover/wire" 0), (Field.mk "bad" 4 1 false "" "drover/wire" 24)]), (.agg #[.slice none 0 0, .bool false]), 2, 32, false, false⟩),
  (90, ⟨(.map 3 4), (.map none), 1, 8, false, false⟩),
  (91, ⟨(.int .u64), (.int .u64 0), 1, 8, false, false⟩),
  (99, ⟨(.int .u32), (.int .u32 0), 1, 4, false, false⟩),
  (103, ⟨(.pointer 5), (.pointer none), 1, 8, false, false⟩)]
noncomputable def tt : TypeId → Option TI := tget ttab
theorem ttOk : TTok Try.prog tt := TTok_of (by
  unfold ttab ttAll; refine ⟨⟨by kernel_rfl, by kernel_rfl⟩, ⟨by kernel_rfl, by kernel_rfl⟩, ⟨by kernel_rfl, by kernel_rfl⟩, ⟨by kernel_rfl, by kernel_rfl⟩, ⟨by kernel_rfl, by kernel_rfl⟩, ⟨by kernel_rfl, by kernel_rfl⟩, ⟨by kernel_rfl, by kernel_rfl⟩, ⟨by kernel_rfl, by kernel_rfl⟩, ⟨by kernel_rfl, by kernel_rfl⟩, ⟨by kernel_rfl, by kernel_rfl⟩, ⟨by kernel_rfl, by kernel_rfl⟩, ⟨by kernel_rfl, by kernel_rfl⟩, ⟨by kernel_rfl, by kernel_rfl⟩, ⟨by kernel_rfl, by kernel_rfl⟩, ⟨by kernel_rfl, by kernel_rfl⟩, ⟨by kernel_rfl, by kernel_rfl⟩, ⟨by kernel_rfl, by kernel_rfl⟩, ⟨by kernel_rfl, by kernel_rfl⟩, ⟨by kernel_rfl, by kernel_rfl⟩, ⟨by kernel_rfl, by kernel_rfl⟩, ⟨by kernel_rfl, by kernel_rfl⟩, ⟨by kernel_rfl, by kernel_rfl⟩, ⟨by kernel_rfl, by kernel_rfl⟩, ⟨by kernel_rfl, by kernel_rfl⟩, ⟨by kernel_rfl, by kernel_rfl⟩, ⟨by kernel_rfl, by kernel_rfl⟩, ⟨by kernel_rfl, by kernel_rfl⟩, ⟨by kernel_rfl, by kernel_rfl⟩, ⟨by kernel_rfl, by kernel_rfl⟩, ⟨by kernel_rfl, by kernel_rfl⟩, ⟨by kernel_rfl, by kernel_rfl⟩, ⟨by kernel_rfl, by kernel_rfl⟩, ⟨by kernel_rfl, by kernel_rfl⟩, ⟨by kernel_rfl, by kernel_rfl⟩, ⟨by kernel_rfl, by kernel_rfl⟩, ⟨by kernel_rfl, by kernel_rfl⟩, ⟨by kernel_rfl, by kernel_rfl⟩, trivial⟩)
theorem zOk : ZOok tt := ZOok_of (by kernel_rfl)
def ftab : List Nat := [3, 4, 5, 6, 7, 8, 9, 10, 11, 12, 13, 14, 15, 16, 17, 18, 19, 20, 21, 22, 23, 24, 25, 26, 27, 28, 29, 30, 31, 32, 33, 34, 35, 36, 37, 38, 39, 40, 41, 42, 43, 44, 45, 46, 47, 48, 49, 50, 51]
noncomputable def fo : FuncId → Bool := fun g => memB g ftab
theorem foOk : FOok Try.prog fo := FOok_of (by kernel_rfl)
end Go.Proofs.Ytkaepgfmpljlmaa

namespace Go.Proofs.Ytkaepgfmpljlmaa
open Go.Ab
def pl5x10 : Plan := ⟨[[], [0], [0, 1], [1, 0, 2], [], [], [5, 4], [4, 5, 6], [], [], [9], [9, 10, 8], [8, 10, 9, 11], [11, 9, 10, 8, 12, 6, 5, 4, 7], [7, 4, 5, 6, 12, 8, 10, 9, 11, 13], [13, 11, 9, 10, 8, 12, 6, 5, 4, 7, 14, 2, 0, 1, 3], [15, 14, 13, 12, 11, 10, 9, 8, 7, 6, 5, 4, 3, 2, 1, 0], [0, 1, 2, 3, 4, 5, 6, 7, 8, 9, 10, 11, 12, 13, 14, 15, 16], [16, 15, 14, 13, 12, 11, 10, 9, 8, 7, 6, 5, 4, 3, 2, 1, 0, 17], [17, 0, 1, 2, 3, 4, 5, 6, 7, 8, 9, 10, 11, 12, 13, 14, 15, 16, 18]], [0, 1, 2, 3, 4, 5, 6, 7, 8, 9, 10, 11, 12, 13], [(14, []), (15, [16, 17, 18]), (19, [])]⟩
def pl5x14 : Plan := ⟨[[], [0], [0, 1], [1, 0, 2], [], [], [5, 4], [4, 5, 6], [], [], [9], [9, 10, 8], [8, 10, 9, 11], [11, 9, 10, 8, 12, 6, 5, 4, 7], [7, 4, 5, 6, 12, 8, 10, 9, 11, 13], [13, 11, 9, 10, 8, 12, 6, 5, 4, 7, 14, 2, 0, 1, 3], [15, 14, 13, 12, 11, 10, 9, 8, 7, 6, 5, 4, 3, 2, 1, 0], [0, 1, 2, 3, 4, 5, 6, 7, 8, 9, 10, 11, 12, 13, 14, 15, 16], [16, 15, 14, 13, 12, 11, 10, 9, 8, 7, 6, 5, 4, 3, 2, 1, 0, 17], [17, 0, 1, 2, 3, 4, 5, 6, 7, 8, 9, 10, 11, 12, 13, 14, 15, 16, 18]], [0, 1, 2, 3, 4, 5, 6, 7, 8, 9, 10, 11, 12, 13], [(14, []), (15, [16, 17, 18]), (19, [])]⟩
def pl6x6 : Plan := ⟨[[], [], [1, 0], [0, 1, 2], [], [], [5, 4], [4, 5, 6], [6, 5, 4, 7, 2, 1, 0, 3]], [0, 1, 2, 3, 4, 5, 6, 7, 8], []⟩
def pl9x9 : Plan := ⟨[[], [0], [0, 1], [], [3], [3, 4], [], [6], [6, 7], [7, 6, 8, 4, 3, 5, 1, 0, 2], [2, 0, 1, 5, 3, 4, 8, 6, 7, 9], [], [11], [11, 12], [9, 7, 6, 8, 4, 3, 5, 1, 0, 2, 10, 12, 11, 13], [], [15], [15, 16], [13, 11, 12, 10, 2, 0, 1, 5, 3, 4, 8, 6, 7, 9, 14, 16, 15, 17], [], [17, 15, 16, 14, 9, 7, 6, 8, 4, 3, 5, 1, 0, 2, 10, 12, 11, 13, 18, 19], [19, 20, 17, 15, 16, 18, 13, 11, 12, 10, 2, 0, 1, 5, 3, 4, 8, 6, 7, 9, 14], [14, 12, 11, 13, 18, 16, 15, 17, 20, 19, 21, 9, 7, 6, 8, 4, 3, 5, 1, 0, 2, 10], [10, 2, 0, 1, 5, 3, 4, 8, 6, 7, 9, 21, 19, 20, 17, 15, 16, 18, 13, 11, 12, 14, 22]], [0, 1, 2, 3, 4, 5, 6, 7, 8, 11, 12, 13, 15, 16, 17, 19], [(9, []), (10, []), (14, []), (18, []), (20, []), (21, []), (22, [23])]⟩
def pl23x6 : Plan := ⟨[[], [0], [], [2, 0, 1], [], [4], [], [6, 4, 5], [5, 4, 6, 7], [7, 6, 4, 5, 8, 1, 0, 2, 3], [3, 2, 0, 1, 8, 5, 4, 6, 7, 9]], [0, 1, 2, 3, 4, 5, 6, 7, 8], [(9, [10])]⟩
def pl28x6 : Plan := ⟨[[], [], [1, 0], [0, 1, 2], [], [], [5, 4], [4, 5, 6], [6, 5, 4, 7, 2, 1, 0, 3]], [0, 1, 2, 3, 4, 5, 6, 7, 8], []⟩
def pl35x4 : Plan := ⟨[[], [], [1, 0], [0, 1, 2], [], [], [5], [5, 6, 4], [4, 6, 5, 7], [7, 5, 6, 4, 8, 2, 1, 0, 3]], [0, 1, 2, 3, 4, 5, 6, 7, 8, 9], []⟩
def pl37x7 : Plan := ⟨[[], [0], [0, 1], [1, 0, 2], [2, 0, 1, 3], [3, 1, 0, 2, 4], [4, 2, 0, 1, 3, 5], [5, 3, 1, 0, 2, 4, 6], [6, 4, 5, 7, 2, 0, 1, 3], [3, 1, 0, 2, 7, 5, 4, 6, 8], [8, 6, 4, 5, 7, 2, 0, 1, 3, 9], [9, 3, 1, 0, 2, 7, 5, 4, 6, 8, 10], [10, 8, 6, 4, 5, 7, 2, 0, 1, 3, 9, 11], [11, 10, 12, 8, 6, 4, 5, 7, 2, 0, 1, 3, 9], [9, 3, 1, 0, 2, 7, 5, 4, 6, 8, 12, 10, 11, 13], [13, 11, 10, 12, 8, 6, 4, 5, 7, 2, 0, 1, 3, 9, 14], [14, 9, 3, 1, 0, 2, 7, 5, 4, 6, 8, 12, 10, 11, 13, 15], [15, 13, 11, 10, 12, 8, 6, 4, 5, 7, 2, 0, 1, 3, 9, 14, 16], [16, 14, 9, 3, 1, 0, 2, 7, 5, 4, 6, 8, 12, 10, 11, 13, 15, 17], [17, 15, 16, 18, 13, 11, 10, 12, 8, 6, 4, 5, 7, 2, 0, 1, 3, 9, 14], [14, 9, 3, 1, 0, 2, 7, 5, 4, 6, 8, 12, 10, 11, 13, 18, 16, 15, 17, 19], [19, 17, 15, 16, 18, 13, 11, 10, 12, 8, 6, 4, 5, 7, 2, 0, 1, 3, 9, 14, 20], [20, 14, 9, 3, 1, 0, 2, 7, 5, 4, 6, 8, 12, 10, 11, 13, 18, 16, 15, 17, 19, 21], [21, 19, 17, 15, 16, 18, 13, 11, 10, 12, 8, 6, 4, 5, 7, 2, 0, 1, 3, 9, 14, 20, 22], [22, 20, 14, 9, 3, 1, 0, 2, 7, 5, 4, 6, 8, 12, 10, 11, 13, 18, 16, 15, 17, 19, 21, 23], [23, 21, 19, 17, 15, 16, 18, 13, 11, 10, 12, 8, 6, 4, 5, 7, 2, 0, 1, 3, 9, 14, 20, 22, 24], [22, 20, 14, 9, 3, 1, 0, 2, 7, 5, 4, 6, 8, 12, 10, 11, 13, 18, 16, 15, 17, 19, 21, 23], [23, 21, 19, 17, 15, 16, 18, 13, 11, 10, 12, 8, 6, 4, 5, 7, 2, 0, 1, 3, 9, 14, 20, 22, 26], [26, 27, 24, 22, 20, 14, 9, 3, 1, 0, 2, 7, 5, 4, 6, 8, 12, 10, 11, 13, 18, 16, 15, 17, 19, 21, 23, 25], [25, 23, 21, 19, 17, 15, 16, 18, 13, 11, 10, 12, 8, 6, 4, 5, 7, 2, 0, 1, 3, 9, 14, 20, 22, 24, 27, 26, 28], [28, 26, 27, 24, 22, 20, 14, 9, 3, 1, 0, 2, 7, 5, 4, 6, 8, 12, 10, 11, 13, 18, 16, 15, 17, 19, 21, 23, 25, 29], [22, 20, 14, 9, 3, 1, 0, 2, 7, 5, 4, 6, 8, 12, 10, 11, 13, 18, 16, 15, 17, 19, 21, 23], [23, 21, 19, 17, 15, 16, 18, 13, 11, 10, 12, 8, 6, 4, 5, 7, 2, 0, 1, 3, 9, 14, 20, 22, 31], [31, 32, 29, 25, 23, 21, 19, 17, 15, 16, 18, 13, 11, 10, 12, 8, 6, 4, 5, 7, 2, 0, 1, 3, 9, 14, 20, 22, 24, 27, 26, 28, 30], [30, 28, 26, 27, 24, 25, 29, 32, 31, 33, 22, 20, 14, 9, 3, 1, 0, 2, 7, 5, 4, 6, 8, 12, 10, 11, 13, 18, 16, 15, 17, 19, 21, 23], [23, 21, 22, 33, 31, 32, 29, 25, 24, 27, 26, 28, 30, 34, 19, 17, 15, 16, 18, 13, 11, 10, 12, 8, 6, 4, 5, 7, 2, 0, 1, 3, 9, 14, 20]], [0, 1, 2, 3, 4, 5, 6, 7, 8, 9, 10, 11, 12, 13, 14, 15, 16, 17, 18, 19, 20, 21, 22, 23, 24, 25, 26, 27, 28, 29, 30, 31, 32, 33, 34, 35], []⟩
def pl37x13 : Plan := ⟨[[], [0], [0, 1], [1, 0, 2], [2, 0, 1, 3], [3, 1, 0, 2, 4], [4, 2, 0, 1, 3, 5], [5, 3, 1, 0, 2, 4, 6], [6, 4, 2, 0, 1, 3, 5, 7], [7, 5, 6, 8, 3, 1, 0, 2, 4], [4, 2, 0, 1, 3, 8, 6, 5, 7, 9], [9, 7, 5, 6, 8, 3, 1, 0, 2, 4, 10], [10, 4, 2, 0, 1, 3, 8, 6, 5, 7, 9, 11], [11, 9, 7, 5, 6, 8, 3, 1, 0, 2, 4, 10, 12], [12, 10, 4, 2, 0, 1, 3, 8, 6, 5, 7, 9, 11, 13], [13, 11, 9, 7, 5, 6, 8, 3, 1, 0, 2, 4, 10, 12, 14], [12, 10, 4, 2, 0, 1, 3, 8, 6, 5, 7, 9, 11, 13], [13, 11, 9, 7, 5, 6, 8, 3, 1, 0, 2, 4, 10, 12, 16], [16, 17, 14, 12, 10, 4, 2, 0, 1, 3, 8, 6, 5, 7, 9, 11, 13, 15], [15, 13, 11, 9, 7, 5, 6, 8, 3, 1, 0, 2, 4, 10, 12, 14, 17, 16, 18], [18, 16, 17, 14, 12, 10, 4, 2, 0, 1, 3, 8, 6, 5, 7, 9, 11, 13, 15, 19], [12, 10, 4, 2, 0, 1, 3, 8, 6, 5, 7, 9, 11, 13], [13, 11, 9, 7, 5, 6, 8, 3, 1, 0, 2, 4, 10, 12, 21], [21, 22, 19, 15, 13, 11, 9, 7, 5, 6, 8, 3, 1, 0, 2, 4, 10, 12, 14, 17, 16, 18, 20], [20, 18, 16, 17, 14, 15, 19, 22, 21, 23, 12, 10, 4, 2, 0, 1, 3, 8, 6, 5, 7, 9, 11, 13], [13, 11, 12, 23, 21, 22, 19, 15, 14, 17, 16, 18, 20, 24, 9, 7, 5, 6, 8, 3, 1, 0, 2, 4, 10]], [0, 1], [(2, [3, 4, 5, 6]), (7, [8, 9, 10, 11, 12, 13, 14, 15, 16, 17, 18, 19, 20, 21, 22, 23, 24, 25])]⟩
def pl46x4 : Plan := ⟨[[], [0], [0, 1], [1, 0, 2], [2, 0, 1, 3], [3, 1, 0, 2, 4], [4, 2, 0, 1, 3, 5], [5, 3, 1, 0, 2, 4, 6], [6, 4, 2, 0, 1, 3, 5, 7], [7, 5, 6, 8, 3, 1, 0, 2, 4], [4, 2, 0, 1, 3, 8, 6, 5, 7, 9], [9, 7, 5, 6, 8, 3, 1, 0, 2, 4, 10], [10, 4, 2, 0, 1, 3, 8, 6, 5, 7, 9, 11], [11, 9, 7, 5, 6, 8, 3, 1, 0, 2, 4, 10, 12], [12, 10, 4, 2, 0, 1, 3, 8, 6, 5, 7, 9, 11, 13], [13, 11, 9, 7, 5, 6, 8, 3, 1, 0, 2, 4, 10, 12, 14], [12, 10, 4, 2, 0, 1, 3, 8, 6, 5, 7, 9, 11, 13], [13, 11, 9, 7, 5, 6, 8, 3, 1, 0, 2, 4, 10, 12, 16], [16, 17, 14, 12, 10, 4, 2, 0, 1, 3, 8, 6, 5, 7, 9, 11, 13, 15], [15, 13, 11, 9, 7, 5, 6, 8, 3, 1, 0, 2, 4, 10, 12, 14, 17, 16, 18], [18, 16, 17, 14, 12, 10, 4, 2, 0, 1, 3, 8, 6, 5, 7, 9, 11, 13, 15, 19], [12, 10, 4, 2, 0, 1, 3, 8, 6, 5, 7, 9, 11, 13], [13, 11, 9, 7, 5, 6, 8, 3, 1, 0, 2, 4, 10, 12, 21], [21, 22, 19, 15, 13, 11, 9, 7, 5, 6, 8, 3, 1, 0, 2, 4, 10, 12, 14, 17, 16, 18, 20], [20, 18, 16, 17, 14, 15, 19, 22, 21, 23, 12, 10, 4, 2, 0, 1, 3, 8, 6, 5, 7, 9, 11, 13], [13, 11, 12, 23, 21, 22, 19, 15, 14, 17, 16, 18, 20, 24, 9, 7, 5, 6, 8, 3, 1, 0, 2, 4, 10]], [0, 1], [(2, [3, 4, 5, 6]), (7, [8, 9, 10, 11, 12, 13, 14, 15, 16, 17, 18, 19, 20, 21, 22, 23, 24, 25])]⟩
def pl51x4 : Plan := ⟨[[], [0], [0, 1], [1, 0, 2], [2, 0, 1, 3], [3, 1, 0, 2, 4], [4, 2, 0, 1, 3, 5], [5, 3, 1, 0, 2, 4, 6], [6, 4, 5, 7, 2, 0, 1, 3], [3, 1, 0, 2, 7, 5, 4, 6, 8], [8, 6, 4, 5, 7, 2, 0, 1, 3, 9], [9, 3, 1, 0, 2, 7, 5, 4, 6, 8, 10], [10, 8, 6, 4, 5, 7, 2, 0, 1, 3, 9, 11], [11, 10, 12, 8, 6, 4, 5, 7, 2, 0, 1, 3, 9], [9, 3, 1, 0, 2, 7, 5, 4, 6, 8, 12, 10, 11, 13], [13, 11, 10, 12, 8, 6, 4, 5, 7, 2, 0, 1, 3, 9, 14], [14, 9, 3, 1, 0, 2, 7, 5, 4, 6, 8, 12, 10, 11, 13, 15], [15, 13, 11, 10, 12, 8, 6, 4, 5, 7, 2, 0, 1, 3, 9, 14, 16], [16, 14, 9, 3, 1, 0, 2, 7, 5, 4, 6, 8, 12, 10, 11, 13, 15, 17], [17, 15, 16, 18, 13, 11, 10, 12, 8, 6, 4, 5, 7, 2, 0, 1, 3, 9, 14], [14, 9, 3, 1, 0, 2, 7, 5, 4, 6, 8, 12, 10, 11, 13, 18, 16, 15, 17, 19], [19, 17, 15, 16, 18, 13, 11, 10, 12, 8, 6, 4, 5, 7, 2, 0, 1, 3, 9, 14, 20], [20, 14, 9, 3, 1, 0, 2, 7, 5, 4, 6, 8, 12, 10, 11, 13, 18, 16, 15, 17, 19, 21], [21, 19, 17, 15, 16, 18, 13, 11, 10, 12, 8, 6, 4, 5, 7, 2, 0, 1, 3, 9, 14, 20, 22], [22, 20, 14, 9, 3, 1, 0, 2, 7, 5, 4, 6, 8, 12, 10, 11, 13, 18, 16, 15, 17, 19, 21, 23], [22, 20, 14, 9, 3, 1, 0, 2, 7, 5, 4, 6, 8, 12, 10, 11, 13, 18, 16, 15, 17, 19, 21, 23], [23, 21, 19, 17, 15, 16, 18, 13, 11, 10, 12, 8, 6, 4, 5, 7, 2, 0, 1, 3, 9, 14, 20, 22, 25], [25, 26, 23, 21, 19, 17, 15, 16, 18, 13, 11, 10, 12, 8, 6, 4, 5, 7, 2, 0, 1, 3, 9, 14, 20, 22, 24], [24, 22, 20, 14, 9, 3, 1, 0, 2, 7, 5, 4, 6, 8, 12, 10, 11, 13, 18, 16, 15, 17, 19, 21, 23, 26, 25, 27], [27, 25, 26, 23, 21, 19, 17, 15, 16, 18, 13, 11, 10, 12, 8, 6, 4, 5, 7, 2, 0, 1, 3, 9, 14, 20, 22, 24, 28], [22, 20, 14, 9, 3, 1, 0, 2, 7, 5, 4, 6, 8, 12, 10, 11, 13, 18, 16, 15, 17, 19, 21, 23], [23, 21, 19, 17, 15, 16, 18, 13, 11, 10, 12, 8, 6, 4, 5, 7, 2, 0, 1, 3, 9, 14, 20, 22, 30], [30, 31, 28, 24, 22, 20, 14, 9, 3, 1, 0, 2, 7, 5, 4, 6, 8, 12, 10, 11, 13, 18, 16, 15, 17, 19, 21, 23, 26, 25, 27, 29], [29, 27, 25, 26, 24, 28, 31, 30, 32, 22, 20, 14, 9, 3, 1, 0, 2, 7, 5, 4, 6, 8, 12, 10, 11, 13, 18, 16, 15, 17, 19, 21, 23], [23, 21, 22, 32, 30, 31, 28, 24, 26, 25, 27, 29, 33, 19, 17, 15, 16, 18, 13, 11, 10, 12, 8, 6, 4, 5, 7, 2, 0, 1, 3, 9, 14, 20]], [0, 1, 2, 3, 4, 5, 6, 7, 8, 9, 10, 11, 12, 13, 14, 15, 16, 17, 18, 19, 20, 21, 22, 23, 24, 25, 26, 27, 28, 29, 30, 31, 32, 33, 34], []⟩
end Go.Proofs.Ytkaepgfmpljlmaa

namespace Go.Proofs.Ytkaepgfmpljlmaa
open Go.Ab Go.RowKit
theorem mixedOk : Try.prog.follows .mixedOrders = true := by kernel_rfl
def nums (l : List Int) : List (List DV) := l.map fun n => [.int .i64 n]
def strs (l : List ByteArray) : List (List DV) := l.map fun s => [.str s]
theorem nums_length (l : List Int) : (nums l).length = l.length := List.length_map ..
theorem nums_at {l : List Int} {k : Nat} {a : Int} (h : l[k]? = some a) : (nums l)[k]? = some [.int .i64 a] := by simp [nums, h]
theorem nums_apps (l m : List Int) : nums l ++ nums m = nums (l ++ m) := by simp [nums]
theorem strs_length (l : List ByteArray) : (strs l).length = l.length := List.length_map ..
theorem strs_at {l : List ByteArray} {k : Nat} {a : ByteArray} (h : l[k]? = some a) : (strs l)[k]? = some [.str a] := by simp [strs, h]
theorem strs_apps (l m : List ByteArray) : strs l ++ strs m = strs (l ++ m) := by simp [strs]
def few {α : Type} (l : List α) : Prop := l.length ≤ 140737488355328
theorem take_succ_eq {α : Type} {xs ys : List α} {k : Nat} {a b : α} (hx : xs[k]? = some a) (hy : ys[k]? = some b) (h : xs.take k = ys.take k) : xs.take (k + 1) = ys.take (k + 1) ↔ a = b := by
  rw [List.take_add_one, List.take_add_one, h, hx, hy]
  simp only [Option.toList_some, List.append_cancel_left_eq, List.cons.injEq, and_true]
theorem take_snoc {α : Type} {xs : List α} {k : Nat} {a : α} (hx : xs[k]? = some a) : xs.take (k + 1) = xs.take k ++ [a] := by
  rw [List.take_add_one, hx]; rfl
/-! ## a number's bytes -/
def numF : Nat → Nat → List UInt8
  | 0, n => [UInt8.ofNat n]
  | f + 1, n => if 128 ≤ n then UInt8.ofNat (n % 128 + 128) :: numF f (n / 128) else [UInt8.ofNat n]
theorem numF_len : ∀ (f n : Nat), 1 ≤ (numF f n).length ∧ (numF f n).length ≤ f + 1
  | 0, n => by simp [numF]
  | f + 1, n => by
    have := numF_len f (n / 128)
    unfold numF
    split
    · simp; omega
    · simp
theorem or128 : ∀ z : Fin 256, ior .u8 (z.val : Int) 128 = ((z.val % 128 + 128 : Nat) : Int) := by decide +kernel
theorem byteI (n : Nat) (h : n < 256) : ((UInt8.ofNat n).toNat : Int) = n := by
  rw [UInt8.toNat_ofNat', Nat.mod_eq_of_lt (by simpa using h)]
theorem wrapB (n : Nat) : IntKind.u8.wrap (n : Int) = ((n % 256 : Nat) : Int) := by
  unfold IntKind.wrap; simp [IntKind.bits, IntKind.signed]
end Go.Proofs.Ytkaepgfmpljlmaa

namespace Go.Proofs.Ytkaepgfmpljlmaa
open Go.Ab Go.RowKit Go.MapKept
attribute [local irreducible] ACalls AW ADraw Into fltB fnear
set_option maxRecDepth 100000
def rowU (b : List UInt8) : AB := .row 5 1 (u8s b) false
/-- the state: the bytes' row, where it was or behind an append -/
def nst (j : Bool) (b : List UInt8) (n : Int) : AF × List AB :=
  match j with
  | true => ([(0, .arr 0), (1, .d (.int .i64 n))], [rowU b])
  | false => ([(0, .arr 1), (1, .d (.int .i64 n))], [.dead, rowU b])
def nInv (b : List UInt8) (n : Nat) (c : List UInt8) (m f : Nat) : Prop := f ≤ 9 ∧ m < 128 ^ f * 128 ∧ m < 9223372036854775808 ∧ c.length + f ≤ b.length + 9 ∧ c ++ numF f m = b ++ numF 9 n
theorem nInv_0 {b : List UInt8} {n : Nat} (hn : n < 9223372036854775808) : nInv b n b n 9 := by
  refine ⟨Nat.le_refl _, ?_, hn, Nat.le_refl _, rfl⟩
  have : (128 : Nat) ^ 9 * 128 = 1180591620717411303424 := by decide +kernel
  omega
theorem nInv_step {b : List UInt8} {n : Nat} {c : List UInt8} {m f : Nat} (h : nInv b n c m f) (hm : 128 ≤ m) : ∃ g, f = g + 1 ∧ nInv b n (c ++ [UInt8.ofNat (m % 128 + 128)]) (m / 128) g := by
  obtain ⟨h1, h2, h3, h4, h5⟩ := h
  cases f with
  | zero => simp at h2; omega
  | succ g =>
    refine ⟨g, rfl, by omega, ?_, by omega, by simp; omega, ?_⟩
    · rw [Nat.div_lt_iff_lt_mul (by decide)]
      have : 128 ^ (g + 1) = 128 ^ g * 128 := Nat.pow_succ ..
      omega
    · rw [← h5, numF, if_pos hm]; simp
theorem nInv_end {b : List UInt8} {n : Nat} {c : List UInt8} {m f : Nat} (h : nInv b n c m f) (hm : ¬ 128 ≤ m) : c ++ [UInt8.ofNat m] = b ++ numF 9 n := by
  obtain ⟨h1, h2, h3, h4, h5⟩ := h
  rw [← h5]
  cases f with
  | zero => rfl
  | succ g => rw [numF, if_neg hm]
theorem u8s_snoc (c : List UInt8) {x : UInt8} {z : Int} (h : (x.toNat : Int) = z) : u8s (c ++ [x]) = u8s c ++ [[.int .u8 z]] := by subst h; simp [u8s]
theorem ishr7 (m : Nat) : ishr .i64 (m : Int) 7 = ((m / 128 : Nat) : Int) := by
  unfold ishr
  show (m : Int).fdiv (2 ^ 7) = _
  rw [Int.fdiv_eq_ediv_of_nonneg _ (by decide)]
  omega
set_option maxHeartbeats 1000000 in
theorem num_ok (b : List UInt8) (hb : b.length ≤ 1000000000) (n : Nat) (hn : n < 9223372036854775808) : ACalls Try.prog 32 [.arr 0, .d (.int .i64 n)] [rowU b] (fun av L => av = .arr 1 ∧ L = [.dead, rowU (b ++ numF 9 n)]) := by
  refine acalls_go ttOk zOk foOk Try.func32 rfl Try.ntmps32 rfl true rfl ?_
  conv => whnf
  repeat' (first | ((with_reducible apply z_wrap); (focus omega); (conv => whnf)) | ((with_reducible first | apply mt_dec | apply mt_eq | apply mt_ne | apply mt_not | apply mt_any) <;> (intro _; conv => whnf)))
  refine loop_go ttOk zOk foOk (σ := Bool × List UInt8 × Nat × Nat) (fun s => nst s.1 s.2.1 s.2.2.1) (fun s => nInv b n s.2.1 s.2.2.1 s.2.2.2) (fun s => s.2.2.2) [0, 1] ?_ ?_
  · conv => whnf
    exact ⟨(true, b, n, 9), rfl, rfl, nInv_0 hn⟩
  · rintro ⟨j, c, m, f⟩ (hi : nInv b n c m f)
    have hi4 := hi.2.2.2.1
    cases j
    all_goals
      conv => whnf
      repeat' (first | ((with_reducible apply z_wrap); (focus omega); (conv => whnf)) | ((with_reducible first | apply mt_dec | apply mt_eq | apply mt_ne | apply mt_not | apply mt_any) <;> (intro _; conv => whnf)))
      · rename_i h
        replace h : (m : Int) ≥ 128 := h
        refine Exists.elim (nInv_step hi (by omega)) fun g hg => ?_
        intro z hz
        replace hz : z = ((m % 256 : Nat) : Int) := by rw [hz]; exact wrapB m
        subst hz
        conv => whnf
        intro z hz
        replace hz : z = ((m % 256 % 128 + 128 : Nat) : Int) := by rw [hz]; exact or128 ⟨m % 256, Nat.mod_lt _ (by decide)⟩
        rw [show m % 256 % 128 = m % 128 by omega] at hz
        subst hz
        conv => whnf
        refine ⟨by show ((u8s c).length + 1) * 1 ≤ _; rw [u8s_length]; omega, ?_⟩
        conv => whnf
        repeat' (first | ((with_reducible apply z_wrap); (focus omega); (conv => whnf)) | ((with_reducible first | apply mt_dec | apply mt_eq | apply mt_ne | apply mt_not | apply mt_any) <;> (intro _; conv => whnf)))
        refine ⟨by decide, ?_⟩
        intro z hz
        replace hz : z = ((m / 128 : Nat) : Int) := by rw [hz]; exact ishr7 m
        subst hz
        conv => whnf
        repeat' (first | ((with_reducible apply z_wrap); (focus omega); (conv => whnf)) | ((with_reducible first | apply mt_dec | apply mt_eq | apply mt_ne | apply mt_not | apply mt_any) <;> (intro _; conv => whnf)))
        exact ⟨(false, c ++ [UInt8.ofNat (m % 128 + 128)], m / 128, g), rfl, by simp only [nst, rowU, u8s_snoc _ (byteI (m % 128 + 128) (by omega))], hg.2, by have := hg.1; show g < f; omega⟩
      · rename_i h
        replace h : ¬ (m : Int) ≥ 128 := h
        intro z hz
        replace hz : z = ((m : Nat) : Int) := by rw [hz]; refine (wrapB m).trans ?_; rw [Nat.mod_eq_of_lt (by omega)]
        subst hz
        conv => whnf
        refine ⟨by show ((u8s c).length + 1) * 1 ≤ _; rw [u8s_length]; omega, ?_⟩
        conv => whnf
        repeat' (first | ((with_reducible apply z_wrap); (focus omega); (conv => whnf)) | ((with_reducible first | apply mt_dec | apply mt_eq | apply mt_ne | apply mt_not | apply mt_any) <;> (intro _; conv => whnf)))
        refine ⟨rfl, ?_⟩
        rw [← nInv_end hi (by omega)]
        simp only [rowU, u8s_snoc _ (byteI m (by omega))]
end Go.Proofs.Ytkaepgfmpljlmaa

namespace Go.Proofs.Ytkaepgfmpljlmaa
open Go.Ab Go.RowKit Go.MapKept
attribute [local irreducible] ACalls AW ADraw Into fltB fnear
set_option maxRecDepth 100000
/-! ## a number, read -/
def gnF (i acc : Nat) : List UInt8 → Option (Nat × Nat)
  | [] => none
  | c :: r => if i = 9 then none else
    if 128 ≤ c.toNat then gnF (i + 1) (acc + c.toNat % 128 * 2 ^ (7 * i)) r else
    if c.toNat = 0 ∧ 0 < i then none else some (acc + c.toNat % 128 * 2 ^ (7 * i), i + 1)
def gnum (b : List UInt8) : Option (Nat × Nat) := gnF 0 0 b
theorem gnF_size : ∀ {b : List UInt8} {i acc n k : Nat}, gnF i acc b = some (n, k) → i < k ∧ k ≤ i + b.length
  | [], i, acc, n, k, h => by simp [gnF] at h
  | c :: r, i, acc, n, k, h => by
    unfold gnF at h
    split at h
    · cases h
    · split at h
      · have := gnF_size h; simp; omega
      · split at h
        · cases h
        · cases h; simp
theorem pow7 {i acc x : Nat} (h1 : acc < 2 ^ (7 * i)) (hx : x < 128) : acc + x * 2 ^ (7 * i) < 2 ^ (7 * (i + 1)) := by
  have e : 2 ^ (7 * (i + 1)) = 128 * 2 ^ (7 * i) := by rw [show 7 * (i + 1) = 7 * i + 7 by omega, Nat.pow_add]; omega
  have := Nat.mul_le_mul_right (2 ^ (7 * i)) (show x ≤ 127 by omega)
  omega
theorem pow7_le {i : Nat} (h : i ≤ 9) : 2 ^ (7 * i) ≤ 9223372036854775808 := Nat.le_trans (Nat.pow_le_pow_right (by decide) (show 7 * i ≤ 63 by omega)) (by decide +kernel)
theorem gnF_lt : ∀ {b : List UInt8} {i acc n k : Nat}, i ≤ 9 → acc < 2 ^ (7 * i) → gnF i acc b = some (n, k) → n < 9223372036854775808
  | [], i, acc, n, k, hi, ha, h => by simp [gnF] at h
  | c :: r, i, acc, n, k, hi, ha, h => by
    unfold gnF at h
    split at h
    · cases h
    · have hp := pow7 ha (Nat.mod_lt c.toNat (by decide : 0 < 128))
      split at h
      · exact gnF_lt (by omega) hp h
      · split at h
        · cases h
        · cases h
          exact Nat.lt_of_lt_of_le hp (pow7_le (by omega))
theorem gnum_lt {b : List UInt8} {n k : Nat} (h : gnum b = some (n, k)) : n < 9223372036854775808 ∧ 1 ≤ k ∧ k ≤ b.length :=
  ⟨gnF_lt (by decide) (by decide) h, by have := gnF_size h; omega, by have := gnF_size h; omega⟩
theorem wrap64 {n : Nat} (h : n < 9223372036854775808) : IntKind.i64.wrap (n : Int) = n := wrapI (by omega)
theorem shl7 {x i : Nat} (hx : x < 128) (hi : i ≤ 8) : ishl .i64 (x : Int) ((7 * i : Nat) : Int) = ((x * 2 ^ (7 * i) : Nat) : Int) := by
  unfold ishl
  rw [show min (Int.toNat ((7 * i : Nat) : Int)) IntKind.i64.bits = 7 * i by simp [IntKind.bits]; omega]
  have e : (x : Int) * 2 ^ (7 * i) = ((x * 2 ^ (7 * i) : Nat) : Int) := by simp
  rw [e, wrap64]
  have h1 := pow7 (i := i) (acc := 0) (Nat.pow_pos (by decide)) hx
  have h2 := pow7_le (i := i + 1) (by omega)
  omega
theorem or7 {acc x i : Nat} (ha : acc < 2 ^ (7 * i)) (hx : x < 128) (hi : i ≤ 8) : ior .i64 (acc : Int) ((x * 2 ^ (7 * i) : Nat) : Int) = ((acc + x * 2 ^ (7 * i) : Nat) : Int) := by
  have h1 := pow7 ha hx
  have h2 := pow7_le (i := i + 1) (by omega)
  unfold ior
  have e1 : BitVec.ofInt IntKind.i64.bits (acc : Int) = BitVec.ofNat 64 acc := BitVec.ofInt_natCast ..
  have e2 : BitVec.ofInt IntKind.i64.bits ((x * 2 ^ (7 * i) : Nat) : Int) = BitVec.ofNat 64 (x * 2 ^ (7 * i)) := BitVec.ofInt_natCast ..
  have e3 : (BitVec.ofNat 64 acc ||| BitVec.ofNat 64 (x * 2 ^ (7 * i))).toNat = acc + x * 2 ^ (7 * i) := by
    rw [BitVec.toNat_or, BitVec.toNat_ofNat, BitVec.toNat_ofNat, Nat.mod_eq_of_lt (show acc < 2 ^ 64 by omega), Nat.mod_eq_of_lt (show x * 2 ^ (7 * i) < 2 ^ 64 by omega)]
    have := Nat.shiftLeft_add_eq_or_of_lt ha x
    rw [Nat.shiftLeft_eq] at this
    rw [Nat.or_comm, ← this, Nat.add_comm]
  rw [e1, e2]
  show IntKind.i64.wrap ((BitVec.ofNat 64 acc ||| BitVec.ofNat 64 (x * 2 ^ (7 * i))).toNat : Int) = _
  rw [e3, wrap64 (by omega)]
theorem and127 : ∀ z : Fin 256, iand .u8 (z.val : Int) 127 = ((z.val % 128 : Nat) : Int) := by decide +kernel
/-- what GetNum hands back -/
def gnumR (b : List UInt8) : AV := match gnum b with
  | none => .tup [.d (.int .i64 0), .d (.int .i64 0), .d (.int .i64 1)]
  | some (n, k) => .tup [.d (.int .i64 n), .d (.int .i64 k), .d (.int .i64 0)]
theorem gnumR_none {b : List UInt8} (h : gnum b = none) : gnumR b = .tup [.d (.int .i64 0), .d (.int .i64 0), .d (.int .i64 1)] := by unfold gnumR; rw [h]
theorem gnumR_some {b : List UInt8} {n k : Nat} (h : gnum b = some (n, k)) : gnumR b = .tup [.d (.int .i64 n), .d (.int .i64 k), .d (.int .i64 0)] := by unfold gnumR; rw [h]
set_option maxHeartbeats 1000000 in
theorem getNum_ok (b : List UInt8) (hb : b.length ≤ 1000000000) : ACalls Try.prog 26 [.d (.sl 1 (u8s b))] [] (fun av L => av = gnumR b ∧ L = []) := by
  have hub : (u8s b).length = b.length := u8s_length _
  refine acalls_go ttOk zOk foOk Try.func26 rfl Try.ntmps26 rfl false rfl ?_
  conv => whnf
  refine scope_go ttOk zOk foOk (σ := Unit) (fun _ => ([], [])) (fun k _ => k = 0 ∧ gnum b = none) (fun _ _ => 0) ?_ ?_
  · rintro k rest hk _ ⟨rfl, hno⟩
    have e := Option.some.inj (show some _ = some rest from hk)
    subst e
    clear hk
    conv => whnf
    rw [gnumR_none hno]
    exact ⟨rfl, rfl⟩
  · intro pass
    conv => whnf
    refine loop_go ttOk zOk foOk (σ := Nat × Nat) (fun s => ([(2, .d (.int .i64 s.2)), (7, .d (.sl 1 (u8s b))), (8, .d (.int .i64 b.length)), (9, .d (.int .i64 s.1))], [])) (fun s => s.1 ≤ b.length ∧ s.1 ≤ 9 ∧ s.2 < 2 ^ (7 * s.1) ∧ gnum b = gnF s.1 s.2 (b.drop s.1)) (fun s => b.length - s.1) [2, 7, 8, 9] ?_ ?_
    · conv => whnf
      exact ⟨(0, 0), by rw [hub]; rfl, rfl, Nat.zero_le _, Nat.zero_le _, Nat.one_pos, rfl⟩
    · rintro ⟨i, acc⟩ ⟨h1, h2, h3, h4⟩
      simp only at h1 h2 h3 h4
      conv => whnf
      repeat' (first | ((with_reducible apply z_wrap); (focus omega); (conv => whnf)) | ((with_reducible first | apply mt_dec | apply mt_eq | apply mt_ne | apply mt_not | apply mt_any) <;> (intro _; conv => whnf)))
      · rename_i h
        replace h : (i : Int) < b.length := h
        refine Exists.elim (⟨_, List.getElem?_eq_getElem (by omega)⟩ : ∃ c, b[i]? = some c) fun c hc => ?_
        have hdr : b.drop i = c :: b.drop (i + 1) := by
          obtain ⟨hlt, hce⟩ := List.getElem?_eq_some_iff.1 hc
          rw [← hce]; exact List.drop_eq_getElem_cons hlt
        rw [hdr] at h4
        have hcl := c.toNat_lt
        ((with_reducible refine ix_u8 hc ?_ ?_); (focus (first | rfl | omega)); (conv => whnf))
        repeat' (first | ((with_reducible apply z_wrap); (focus omega); (conv => whnf)) | ((with_reducible first | apply mt_dec | apply mt_eq | apply mt_ne | apply mt_not | apply mt_any) <;> (intro _; conv => whnf)))
        · rename_i h9
          replace h9 : (i : Int) = 9 := h9
          refine into_of [] ?_
          conv => whnf
          exact ⟨(), rfl, rfl, rfl, by rw [h4, gnF, if_pos (by omega)]⟩
        · rename_i h9
          replace h9 : (i : Int) ≠ 9 := h9
          have hmod := Nat.mod_lt c.toNat (by decide : 0 < 128)
          have hp := pow7 h3 hmod
          have hp2 := pow7_le (i := i + 1) (by omega)
          have hp3 : c.toNat % 128 * 2 ^ (7 * i) < 9223372036854775808 := by omega
          intro z hz
          replace hz : z = ((c.toNat % 128 : Nat) : Int) := by rw [hz]; exact and127 ⟨c.toNat, by omega⟩
          subst hz
          conv => whnf
          intro z hz
          replace hz : z = ((c.toNat % 128 : Nat) : Int) := by rw [hz]; exact wrap64 (by omega)
          subst hz
          conv => whnf
          intro z hz
          replace hz : z = ((7 * i : Nat) : Int) := by rw [hz]; show IntKind.i64.wrap (7 * (i : Int)) = _; rw [wrapI (by omega)]; omega
          subst hz
          conv => whnf
          refine ⟨by omega, ?_⟩
          intro z hz
          replace hz : z = ((c.toNat % 128 * 2 ^ (7 * i) : Nat) : Int) := by rw [hz]; exact shl7 hmod (by omega)
          subst hz
          conv => whnf
          intro z hz
          replace hz : z = ((acc + c.toNat % 128 * 2 ^ (7 * i) : Nat) : Int) := by rw [hz]; exact or7 h3 hmod (by omega)
          subst hz
          conv => whnf
          rw [gnF, if_neg (by omega)] at h4
          repeat' (first | ((with_reducible apply z_wrap); (focus omega); (conv => whnf)) | ((with_reducible first | apply mt_dec | apply mt_eq | apply mt_ne | apply mt_not | apply mt_any) <;> (intro _; conv => whnf)))
          · rename_i h8
            replace h8 : (c.toNat : Int) ≥ 128 := h8
            exact ⟨(i + 1, acc + c.toNat % 128 * 2 ^ (7 * i)), rfl, rfl, ⟨by show i + 1 ≤ b.length; omega, by show i + 1 ≤ 9; omega, hp, by rw [h4, if_pos (by omega)]⟩, by show b.length - (i + 1) < b.length - i; omega⟩
          · rename_i h8 h0 hi
            replace h8 : ¬ (c.toNat : Int) ≥ 128 := h8
            replace h0 : (c.toNat : Int) = 0 := h0
            replace hi : (i : Int) > 0 := hi
            refine into_of [] ?_
            conv => whnf
            exact ⟨(), rfl, rfl, rfl, by rw [h4, if_neg (by omega), if_pos (by omega)]⟩
          · rename_i h8 h0 hi
            replace h8 : ¬ (c.toNat : Int) ≥ 128 := h8
            replace hi : ¬ (i : Int) > 0 := hi
            rw [gnumR_some (n := acc + c.toNat % 128 * 2 ^ (7 * i)) (k := i + 1) (by rw [h4, if_neg (by omega), if_neg (by omega)])]
            exact ⟨rfl, rfl⟩
          · rename_i h8 h0
            replace h8 : ¬ (c.toNat : Int) ≥ 128 := h8
            replace h0 : ¬ (c.toNat : Int) = 0 := h0
            rw [gnumR_some (n := acc + c.toNat % 128 * 2 ^ (7 * i)) (k := i + 1) (by rw [h4, if_neg (by omega), if_neg (by omega)])]
            exact ⟨rfl, rfl⟩
      · rename_i h
        replace h : ¬ (i : Int) < b.length := h
        refine aw_at (σ := Unit) (fun _ => ([], [])) (fun _ => True) [] ?_ ?_
        · conv => whnf
          exact ⟨(), rfl, rfl, trivial⟩
        · intro _ _
          exact pass 0 _ rfl () ⟨rfl, by rw [h4, List.drop_of_length_le (by omega)]; rfl⟩
end Go.Proofs.Ytkaepgfmpljlmaa

namespace Go.Proofs.Ytkaepgfmpljlmaa
open Go.Ab Go.RowKit Go.MapKept
attribute [local irreducible] ACalls AW ADraw Into fltB fnear
set_option maxRecDepth 100000
/-! ## the reader -/
structure Rd where
  b : List UInt8
  bad : Bool
def Rd.L (r : Rd) : List AB := [.cells [.d (.sl 1 (u8s r.b)), .d (.bool r.bad)]]
def rnum (r : Rd) : Nat × Rd := match gnum r.b with
  | none => (0, { r with bad := true })
  | some (n, k) => if r.bad then (0, { r with bad := true }) else (n, { r with b := r.b.drop k })
def rcount (r : Rd) : Nat × Rd := if (rnum r).2.bad = true ∨ (rnum r).1 > (rnum r).2.b.length then (0, { (rnum r).2 with bad := true }) else rnum r
def rtext (r : Rd) : ByteArray × Rd := (⟨((rcount r).2.b.take (rcount r).1).toArray⟩, { (rcount r).2 with b := (rcount r).2.b.drop (rcount r).1 })
theorem rnum_len (r : Rd) : (rnum r).2.b.length ≤ r.b.length ∧ (rnum r).1 < 9223372036854775808 := by
  unfold rnum
  cases h : gnum r.b with
  | none => exact ⟨Nat.le_refl _, Nat.lt_of_lt_of_le (by decide : 0 < 1) (by decide)⟩
  | some p =>
    obtain ⟨n, k⟩ := p
    simp only
    split
    · exact ⟨Nat.le_refl _, Nat.lt_of_lt_of_le (by decide : 0 < 1) (by decide)⟩
    · exact ⟨by simp, (gnum_lt h).1⟩
theorem rcount_len (r : Rd) : (rcount r).2.b.length ≤ r.b.length ∧ (rcount r).1 ≤ (rcount r).2.b.length := by
  have := rnum_len r
  unfold rcount
  split
  · exact ⟨this.1, Nat.zero_le _⟩
  · rename_i h
    exact ⟨this.1, by omega⟩
theorem rtext_len (r : Rd) : (rtext r).2.b.length ≤ r.b.length ∧ (rtext r).1.size ≤ r.b.length := by
  have := rcount_len r
  unfold rtext
  refine ⟨by simp; omega, ?_⟩
  show (List.toArray _).size ≤ _
  simp; omega
theorem number_ok (r : Rd) (hb : r.b.length ≤ 1000000000) : ACalls Try.prog 41 [.ptr 0 0] r.L (fun av L => av = .d (.int .i64 (rnum r).1) ∧ L = (rnum r).2.L) := by
  obtain ⟨b, bad⟩ := r
  have hub : (u8s b).length = b.length := u8s_length _
  have hg := getNum_ok b hb
  refine acalls_go ttOk zOk foOk Try.func41 rfl Try.ntmps41 rfl false rfl ?_
  conv => whnf
  repeat' (first | ((with_reducible apply z_wrap); (focus omega); (conv => whnf)) | ((with_reducible first | apply mt_dec | apply mt_eq | apply mt_ne | apply mt_not | apply mt_any) <;> (intro _; conv => whnf)))
  refine hg.mono ?_
  rintro _ _ ⟨rfl, rfl⟩
  rcases h : gnum b with _ | ⟨n, k⟩
  · rw [gnumR_none h, rnum, h]
    conv => whnf
    cases bad
    all_goals
      conv => whnf
      repeat' (first | ((with_reducible apply z_wrap); (focus omega); (conv => whnf)) | ((with_reducible first | apply mt_dec | apply mt_eq | apply mt_ne | apply mt_not | apply mt_any) <;> (intro _; conv => whnf)))
      exact ⟨rfl, rfl⟩
  · obtain ⟨h1, h2, h3⟩ := gnum_lt h
    rw [gnumR_some h, rnum, h]
    conv => whnf
    cases bad
    · conv => whnf
      repeat' (first | ((with_reducible apply z_wrap); (focus omega); (conv => whnf)) | ((with_reducible first | apply mt_dec | apply mt_eq | apply mt_ne | apply mt_not | apply mt_any) <;> (intro _; conv => whnf)))
      refine ⟨by omega, by show (k : Int) ≤ ((u8s b).length : Nat); omega, Int.le_refl _, ?_⟩
      conv => whnf
      repeat' (first | ((with_reducible apply z_wrap); (focus omega); (conv => whnf)) | ((with_reducible first | apply mt_dec | apply mt_eq | apply mt_ne | apply mt_not | apply mt_any) <;> (intro _; conv => whnf)))
      refine ⟨rfl, ?_⟩
      have e : ((u8s b).take (((u8s b).length : Nat) : Int).toNat).drop ((k : Nat) : Int).toNat = u8s (b.drop k) := by
        rw [Int.toNat_natCast, Int.toNat_natCast, List.take_length]; simp [u8s]
      exact congrArg (fun x => [AB.cells [.d (.sl 1 x), .d (.bool false)]]) e
    · conv => whnf
      repeat' (first | ((with_reducible apply z_wrap); (focus omega); (conv => whnf)) | ((with_reducible first | apply mt_dec | apply mt_eq | apply mt_ne | apply mt_not | apply mt_any) <;> (intro _; conv => whnf)))
      exact ⟨rfl, rfl⟩
theorem count_ok (r : Rd) (hb : r.b.length ≤ 1000000000) : ACalls Try.prog 39 [.ptr 0 0] r.L (fun av L => av = .d (.int .i64 (rcount r).1) ∧ L = (rcount r).2.L) := by
  have hn := number_ok r hb
  have hl := rnum_len r
  rcases hx : rnum r with ⟨n, ⟨b, bad⟩⟩
  have hub : (u8s b).length = b.length := u8s_length _
  unfold rcount
  rw [hx] at hn hl ⊢
  simp only at hn hl ⊢
  refine acalls_go ttOk zOk foOk Try.func39 rfl Try.ntmps39 rfl false rfl ?_
  conv => whnf
  repeat' (first | ((with_reducible apply z_wrap); (focus omega); (conv => whnf)) | ((with_reducible first | apply mt_dec | apply mt_eq | apply mt_ne | apply mt_not | apply mt_any) <;> (intro _; conv => whnf)))
  refine hn.mono ?_
  rintro _ _ ⟨rfl, rfl⟩
  cases bad
  · conv => whnf
    rw [hub]
    repeat' (first | ((with_reducible apply z_wrap); (focus omega); (conv => whnf)) | ((with_reducible first | apply mt_dec | apply mt_eq | apply mt_ne | apply mt_not | apply mt_any) <;> (intro _; conv => whnf)))
    · rename_i h
      rw [if_pos (.inr (by omega))]
      exact ⟨rfl, by rw [decide_eq_true h]; rfl⟩
    · rename_i h
      rw [if_neg (by rintro (h2 | h2); cases h2; omega)]
      exact ⟨rfl, by rw [decide_eq_false h]; rfl⟩
  · conv => whnf
    repeat' (first | ((with_reducible apply z_wrap); (focus omega); (conv => whnf)) | ((with_reducible first | apply mt_dec | apply mt_eq | apply mt_ne | apply mt_not | apply mt_any) <;> (intro _; conv => whnf)))
    rw [if_pos (.inl rfl)]
    exact ⟨rfl, rfl⟩
theorem text_ok (r : Rd) (hb : r.b.length ≤ 1000000000) : ACalls Try.prog 25 [.ptr 0 0] r.L (fun av L => av = .d (.str (rtext r).1) ∧ L = (rtext r).2.L) := by
  have hn := count_ok r hb
  have hl := rcount_len r
  unfold rtext
  rcases hx : rcount r with ⟨n, ⟨b, bad⟩⟩
  have hub : (u8s b).length = b.length := u8s_length _
  rw [hx] at hn hl
  simp only at hn hl ⊢
  refine acalls_go ttOk zOk foOk Try.func25 rfl Try.ntmps25 rfl false rfl ?_
  conv => whnf
  repeat' (first | ((with_reducible apply z_wrap); (focus omega); (conv => whnf)) | ((with_reducible first | apply mt_dec | apply mt_eq | apply mt_ne | apply mt_not | apply mt_any) <;> (intro _; conv => whnf)))
  refine hn.mono ?_
  rintro _ _ ⟨rfl, rfl⟩
  conv => whnf
  repeat' (first | ((with_reducible apply z_wrap); (focus omega); (conv => whnf)) | ((with_reducible first | apply mt_dec | apply mt_eq | apply mt_ne | apply mt_not | apply mt_any) <;> (intro _; conv => whnf)))
  refine ⟨Int.le_refl _, by omega, by show (n : Int) ≤ ((u8s b).length : Nat); omega, ?_⟩
  conv => whnf
  refine ⟨b.take n, ?_, ?_⟩
  · show ((u8s b).take ((n : Nat) : Int).toNat).drop 0 = _
    simp [u8s]
  conv => whnf
  repeat' (first | ((with_reducible apply z_wrap); (focus omega); (conv => whnf)) | ((with_reducible first | apply mt_dec | apply mt_eq | apply mt_ne | apply mt_not | apply mt_any) <;> (intro _; conv => whnf)))
  refine ⟨by omega, by show (n : Int) ≤ ((u8s b).length : Nat); omega, Int.le_refl _, ?_⟩
  conv => whnf
  repeat' (first | ((with_reducible apply z_wrap); (focus omega); (conv => whnf)) | ((with_reducible first | apply mt_dec | apply mt_eq | apply mt_ne | apply mt_not | apply mt_any) <;> (intro _; conv => whnf)))
  refine ⟨rfl, ?_⟩
  have e : ((u8s b).take (((u8s b).length : Nat) : Int).toNat).drop ((n : Nat) : Int).toNat = u8s (b.drop n) := by
    rw [Int.toNat_natCast, Int.toNat_natCast, List.take_length]; simp [u8s]
  exact congrArg (fun x => [AB.cells [.d (.sl 1 x), .d (.bool bad)]]) e
end Go.Proofs.Ytkaepgfmpljlmaa

namespace Go.Proofs.Ytkaepgfmpljlmaa
open Go.Ab Go.RowKit Go.MapKept
attribute [local irreducible] ACalls AW ADraw Into fltB fnear
set_option maxRecDepth 100000
/-! ## reading things to the end -/
def rlist {α : Type} (f : Rd → α × Rd) : Nat → Rd → Option (List α × Rd)
  | 0, r => some ([], r)
  | n + 1, r => if (f r).2.bad = true then none else (rlist f n (f r).2).map fun p => ((f r).1 :: p.1, p.2)
theorem rlist_succ {α : Type} (f : Rd → α × Rd) (n : Nat) (r : Rd) : rlist f (n + 1) r = if (f r).2.bad = true then none else (rlist f n (f r).2).map fun p => ((f r).1 :: p.1, p.2) := rfl
def listF {α : Type} (f : Rd → α × Rd) (b : List UInt8) : Option (List α) :=
  match rlist f (rcount ⟨b, decide (b.length > 1048576)⟩).1 (rcount ⟨b, decide (b.length > 1048576)⟩).2 with
  | none => none
  | some (l, r) => if r.bad = false ∧ r.b.length = 0 then some l else none
theorem rlist_len {α : Type} {f : Rd → α × Rd} : ∀ {n : Nat} {r : Rd} {p : List α × Rd}, rlist f n r = some p → p.1.length = n
  | 0, r, p, h => by simp only [rlist, Option.some.injEq] at h; subst h; rfl
  | n + 1, r, p, h => by
    unfold rlist at h
    split at h
    · cases h
    · rw [Option.map_eq_some_iff] at h
      obtain ⟨q, h1, rfl⟩ := h
      simp [rlist_len h1]
theorem rlist_all {α : Type} {f : Rd → α × Rd} {B : Nat} (ok : α → Prop) (hf : ∀ r : Rd, r.b.length ≤ B → (f r).2.b.length ≤ B ∧ ok (f r).1) : ∀ {n : Nat} {r : Rd} {p : List α × Rd}, r.b.length ≤ B → rlist f n r = some p → ∀ x ∈ p.1, ok x
  | 0, r, p, hr, h => by simp only [rlist, Option.some.injEq] at h; subst h; simp
  | n + 1, r, p, hr, h => by
    unfold rlist at h
    split at h
    · cases h
    · rw [Option.map_eq_some_iff] at h
      obtain ⟨q, h1, rfl⟩ := h
      intro x hx
      rcases List.mem_cons.1 hx with rfl | hx
      · exact (hf r hr).2
      · exact rlist_all ok hf (hf r hr).1 h1 x hx
def rint (r : Rd) : Int × Rd := (((rnum r).1 : Int), (rnum r).2)
theorem listF_len {α : Type} {f : Rd → α × Rd} {b : List UInt8} {l : List α} (h : listF f b = some l) : l.length ≤ b.length := by
  unfold listF at h
  have hc := rcount_len ⟨b, decide (b.length > 1048576)⟩
  split at h
  · cases h
  · rename_i l' r' h1
    split at h
    · cases h
      have := rlist_len h1
      simp only at this hc
      omega
    · cases h
theorem listF_all {α : Type} {f : Rd → α × Rd} {b : List UInt8} (ok : α → Prop) (hf : ∀ r : Rd, r.b.length ≤ b.length → (f r).2.b.length ≤ b.length ∧ ok (f r).1) {l : List α} (h : listF f b = some l) : ∀ x ∈ l, ok x := by
  unfold listF at h
  have hc := rcount_len ⟨b, decide (b.length > 1048576)⟩
  split at h
  · cases h
  · rename_i l' r' h1
    split at h
    · cases h
      exact rlist_all ok hf hc.1 h1
    · cases h
/-- what the strL list hands back -/
def strLR (b : List UInt8) : AV := match listF rtext b with
  | some l => .tup [.d (.sl 1 (strs l)), .d (.int .i64 0)]
  | none => .tup [.d (.sl 1 []), .d (.int .i64 1)]
set_option maxHeartbeats 2000000 in
theorem strL_ok (b : List UInt8) (hb : b.length ≤ 1000000) : ACalls Try.prog 24 [.d (.sl 1 (u8s b)), .fn 25 []] [] (fun av L => av = strLR b ∧ L = []) := by
  have hub : (u8s b).length = b.length := u8s_length _
  have hlf : listF rtext b = listF rtext b := rfl
  conv at hlf => rhs; unfold listF
  have hR : ∀ l, listF rtext b = some l → strLR b = .tup [.d (.sl 1 (strs l)), .d (.int .i64 0)] := fun l h => by unfold strLR; rw [h]
  have hN : listF rtext b = none → strLR b = .tup [.d (.sl 1 []), .d (.int .i64 1)] := fun h => by unfold strLR; rw [h]
  have hcn := count_ok ⟨b, decide (b.length > 1048576)⟩ (by show b.length ≤ 1000000000; omega)
  have hcl := rcount_len ⟨b, decide (b.length > 1048576)⟩
  obtain ⟨⟨n, r1⟩, hx⟩ : ∃ x, rcount ⟨b, decide (b.length > 1048576)⟩ = x := ⟨_, rfl⟩
  rw [hx] at hcn hcl hlf
  simp only at hcn hcl hlf
  refine acalls_go ttOk zOk foOk Try.func24 rfl Try.ntmps24 rfl false rfl ?_
  conv => whnf
  refine scope_go ttOk zOk foOk (σ := Unit) (fun _ => ([], [])) (fun k _ => k = 0 ∧ listF rtext b = none) (fun _ _ => 0) ?_ ?_
  · rintro k rest hk _ ⟨rfl, hno⟩
    have e := Option.some.inj (show some _ = some rest from hk)
    subst e
    clear hk
    conv => whnf
    rw [hN hno]
    exact ⟨rfl, rfl⟩
  · intro pass
    conv => whnf
    rw [hub]
    repeat' (first | ((with_reducible apply z_wrap); (focus omega); (conv => whnf)) | ((with_reducible first | apply mt_dec | apply mt_eq | apply mt_ne | apply mt_not | apply mt_any) <;> (intro _; conv => whnf)))
    refine ACalls.mono (post := fun av L => av = .d (.int .i64 n) ∧ L = r1.L) ?_ ?_
    · have e : decide ((b.length : Int) > 1048576) = decide (b.length > 1048576) := by congr 1; simp only [eq_iff_iff]; omega
      show ACalls _ _ _ [.cells [.d (.sl 1 (u8s b)), .d (.bool (decide ((b.length : Int) > 1048576)))]] _
      rw [e]
      exact hcn
    rintro _ _ ⟨rfl, rfl⟩
    conv => whnf
    repeat' (first | ((with_reducible apply z_wrap); (focus omega); (conv => whnf)) | ((with_reducible first | apply mt_dec | apply mt_eq | apply mt_ne | apply mt_not | apply mt_any) <;> (intro _; conv => whnf)))
    refine loop_go ttOk zOk foOk (σ := Nat × List ByteArray × Rd) (fun s => ([(1, .fn 25 []), (4, .arr 0), (6, .ptr 1 0), (7, .d (.int .i64 s.1))], [.row 9 1 (strs s.2.1) false, .cells [.d (.sl 1 (u8s s.2.2.b)), .d (.bool s.2.2.bad)]]))
      (fun s => rlist rtext n r1 = (rlist rtext s.1 s.2.2).map (fun p => (s.2.1 ++ p.1, p.2)) ∧ s.2.1.length + s.1 = n ∧ s.2.2.b.length ≤ b.length) (fun s => s.1) [1, 4, 6, 7] ?_ ?_
    · conv => whnf
      exact ⟨(n, [], r1), rfl, rfl, by simp, by simp, hcl.1⟩
    · rintro ⟨k, acc, ⟨rb, rbad⟩⟩ ⟨h1, h2, h3⟩
      simp only at h1 h2 h3
      have hal : (strs acc).length = acc.length := strs_length _
      conv => whnf
      repeat' (first | ((with_reducible apply z_wrap); (focus omega); (conv => whnf)) | ((with_reducible first | apply mt_dec | apply mt_eq | apply mt_ne | apply mt_not | apply mt_any) <;> (intro _; conv => whnf)))
      · rename_i h
        replace h : (k : Int) > 0 := h
        obtain ⟨k, rfl⟩ : ∃ j, k = j + 1 := ⟨k - 1, by omega⟩
        have hone := text_ok ⟨rb, rbad⟩ (by show rb.length ≤ 1000000000; omega)
        have hol := (rtext_len ⟨rb, rbad⟩).1
        rw [rlist_succ] at h1
        obtain ⟨⟨x, ⟨rb', rbad'⟩⟩, hy⟩ : ∃ x, rtext ⟨rb, rbad⟩ = x := ⟨_, rfl⟩
        rw [hy] at hone hol
        rw [hy] at h1
        simp only at hone hol h1
        refine hone.mono ?_
        rintro _ _ ⟨rfl, rfl⟩
        conv => whnf
        refine ⟨by show ((strs acc).length + 1) * 16 ≤ _; omega, ?_⟩
        conv => whnf
        repeat' (first | ((with_reducible apply z_wrap); (focus omega); (conv => whnf)) | ((with_reducible first | apply mt_dec | apply mt_eq | apply mt_ne | apply mt_not | apply mt_any) <;> (intro _; conv => whnf)))
        · rename_i hb1
          replace hb1 : rbad' = true := hb1
          rw [if_pos hb1] at h1
          refine into_of [] ?_
          conv => whnf
          exact ⟨(), rfl, rfl, rfl, by rw [hlf, h1]; rfl⟩
        · rename_i hb1
          replace hb1 : rbad' = false := hb1
          subst hb1
          rw [if_neg (by decide)] at h1
          refine ⟨(k, acc ++ [x], ⟨rb', false⟩), ?_, ?_, ⟨?_, by simp; omega, by show rb'.length ≤ b.length; omega⟩, by show k < k + 1; omega⟩
          · show _ = [_, _, _, (7, AV.d (.int .i64 ((k : Nat) : Int)))]
            rw [show ((k : Nat) : Int) = ((k + 1 : Nat) : Int) - 1 by omega]
          · rw [← strs_apps]; rfl
          · rw [h1, Option.map_map]
            congr 1
            funext p
            simp
      all_goals
        have hul : (u8s rb).length = rb.length := u8s_length _
      · rename_i h hb1 h5
        replace h : ¬ (k : Int) > 0 := h
        replace hb1 : rbad = false := hb1
        replace h5 : (((u8s rb).length : Nat) : Int) = 0 := h5
        obtain rfl : k = 0 := by omega
        have h1' : rlist rtext n r1 = some (acc, ⟨rb, rbad⟩) := by rw [h1]; simp [rlist]
        rw [hR acc (by rw [hlf, h1']; simp only; rw [if_pos ⟨hb1, by omega⟩])]
        exact ⟨rfl, rfl⟩
      · rename_i h hb1 h5
        replace h : ¬ (k : Int) > 0 := h
        replace h5 : ¬ (((u8s rb).length : Nat) : Int) = 0 := h5
        obtain rfl : k = 0 := by omega
        have h1' : rlist rtext n r1 = some (acc, ⟨rb, rbad⟩) := by rw [h1]; simp [rlist]
        refine aw_at (σ := Unit) (fun _ => ([], [])) (fun _ => True) [] ?_ ?_
        · conv => whnf
          exact ⟨(), rfl, rfl, trivial⟩
        · intro _ _
          exact pass 0 _ rfl () ⟨rfl, by rw [hlf, h1']; simp only; rw [if_neg (by rintro ⟨_, h6⟩; omega)]⟩
      · rename_i h hb1
        replace h : ¬ (k : Int) > 0 := h
        replace hb1 : rbad = true := hb1
        obtain rfl : k = 0 := by omega
        have h1' : rlist rtext n r1 = some (acc, ⟨rb, rbad⟩) := by rw [h1]; simp [rlist]
        refine aw_at (σ := Unit) (fun _ => ([], [])) (fun _ => True) [] ?_ ?_
        · conv => whnf
          exact ⟨(), rfl, rfl, trivial⟩
        · intro _ _
          exact pass 0 _ rfl () ⟨rfl, by rw [hlf, h1']; simp only; rw [if_neg (by rintro ⟨h6, _⟩; rw [hb1] at h6; cases h6)]⟩
/-- what the intL list hands back -/
def intLR (b : List UInt8) : AV := match listF rint b with
  | some l => .tup [.d (.sl 1 (nums l)), .d (.int .i64 0)]
  | none => .tup [.d (.sl 1 []), .d (.int .i64 1)]
set_option maxHeartbeats 2000000 in
theorem intL_ok (b : List UInt8) (hb : b.length ≤ 1000000) : ACalls Try.prog 40 [.d (.sl 1 (u8s b)), .fn 41 []] [] (fun av L => av = intLR b ∧ L = []) := by
  have hub : (u8s b).length = b.length := u8s_length _
  have hlf : listF rint b = listF rint b := rfl
  conv at hlf => rhs; unfold listF
  have hR : ∀ l, listF rint b = some l → intLR b = .tup [.d (.sl 1 (nums l)), .d (.int .i64 0)] := fun l h => by unfold intLR; rw [h]
  have hN : listF rint b = none → intLR b = .tup [.d (.sl 1 []), .d (.int .i64 1)] := fun h => by unfold intLR; rw [h]
  have hcn := count_ok ⟨b, decide (b.length > 1048576)⟩ (by show b.length ≤ 1000000000; omega)
  have hcl := rcount_len ⟨b, decide (b.length > 1048576)⟩
  obtain ⟨⟨n, r1⟩, hx⟩ : ∃ x, rcount ⟨b, decide (b.length > 1048576)⟩ = x := ⟨_, rfl⟩
  rw [hx] at hcn hcl hlf
  simp only at hcn hcl hlf
  refine acalls_go ttOk zOk foOk Try.func40 rfl Try.ntmps40 rfl false rfl ?_
  conv => whnf
  refine scope_go ttOk zOk foOk (σ := Unit) (fun _ => ([], [])) (fun k _ => k = 0 ∧ listF rint b = none) (fun _ _ => 0) ?_ ?_
  · rintro k rest hk _ ⟨rfl, hno⟩
    have e := Option.some.inj (show some _ = some rest from hk)
    subst e
    clear hk
    conv => whnf
    rw [hN hno]
    exact ⟨rfl, rfl⟩
  · intro pass
    conv => whnf
    rw [hub]
    repeat' (first | ((with_reducible apply z_wrap); (focus omega); (conv => whnf)) | ((with_reducible first | apply mt_dec | apply mt_eq | apply mt_ne | apply mt_not | apply mt_any) <;> (intro _; conv => whnf)))
    refine ACalls.mono (post := fun av L => av = .d (.int .i64 n) ∧ L = r1.L) ?_ ?_
    · have e : decide ((b.length : Int) > 1048576) = decide (b.length > 1048576) := by congr 1; simp only [eq_iff_iff]; omega
      show ACalls _ _ _ [.cells [.d (.sl 1 (u8s b)), .d (.bool (decide ((b.length : Int) > 1048576)))]] _
      rw [e]
      exact hcn
    rintro _ _ ⟨rfl, rfl⟩
    conv => whnf
    repeat' (first | ((with_reducible apply z_wrap); (focus omega); (conv => whnf)) | ((with_reducible first | apply mt_dec | apply mt_eq | apply mt_ne | apply mt_not | apply mt_any) <;> (intro _; conv => whnf)))
    refine loop_go ttOk zOk foOk (σ := Nat × List Int × Rd) (fun s => ([(1, .fn 41 []), (4, .arr 0), (6, .ptr 1 0), (7, .d (.int .i64 s.1))], [.row 3 1 (nums s.2.1) false, .cells [.d (.sl 1 (u8s s.2.2.b)), .d (.bool s.2.2.bad)]]))
      (fun s => rlist rint n r1 = (rlist rint s.1 s.2.2).map (fun p => (s.2.1 ++ p.1, p.2)) ∧ s.2.1.length + s.1 = n ∧ s.2.2.b.length ≤ b.length) (fun s => s.1) [1, 4, 6, 7] ?_ ?_
    · conv => whnf
      exact ⟨(n, [], r1), rfl, rfl, by simp, by simp, hcl.1⟩
    · rintro ⟨k, acc, ⟨rb, rbad⟩⟩ ⟨h1, h2, h3⟩
      simp only at h1 h2 h3
      have hal : (nums acc).length = acc.length := nums_length _
      conv => whnf
      repeat' (first | ((with_reducible apply z_wrap); (focus omega); (conv => whnf)) | ((with_reducible first | apply mt_dec | apply mt_eq | apply mt_ne | apply mt_not | apply mt_any) <;> (intro _; conv => whnf)))
      · rename_i h
        replace h : (k : Int) > 0 := h
        obtain ⟨k, rfl⟩ : ∃ j, k = j + 1 := ⟨k - 1, by omega⟩
        have hone := number_ok ⟨rb, rbad⟩ (by show rb.length ≤ 1000000000; omega)
        have hol := (rnum_len ⟨rb, rbad⟩).1
        rw [rlist_succ] at h1
        obtain ⟨⟨x, ⟨rb', rbad'⟩⟩, hy⟩ : ∃ x, rint ⟨rb, rbad⟩ = x := ⟨_, rfl⟩
        have hy1 : ((rnum ⟨rb, rbad⟩).1 : Int) = x := congrArg Prod.fst hy
        have hy2 : (rnum ⟨rb, rbad⟩).2 = ⟨rb', rbad'⟩ := congrArg Prod.snd hy
        rw [hy1, hy2] at hone
        rw [hy2] at hol
        rw [hy] at h1
        simp only at hone hol h1
        refine hone.mono ?_
        rintro _ _ ⟨rfl, rfl⟩
        conv => whnf
        refine ⟨by show ((nums acc).length + 1) * 8 ≤ _; omega, ?_⟩
        conv => whnf
        repeat' (first | ((with_reducible apply z_wrap); (focus omega); (conv => whnf)) | ((with_reducible first | apply mt_dec | apply mt_eq | apply mt_ne | apply mt_not | apply mt_any) <;> (intro _; conv => whnf)))
        · rename_i hb1
          replace hb1 : rbad' = true := hb1
          rw [if_pos hb1] at h1
          refine into_of [] ?_
          conv => whnf
          exact ⟨(), rfl, rfl, rfl, by rw [hlf, h1]; rfl⟩
        · rename_i hb1
          replace hb1 : rbad' = false := hb1
          subst hb1
          rw [if_neg (by decide)] at h1
          refine ⟨(k, acc ++ [x], ⟨rb', false⟩), ?_, ?_, ⟨?_, by simp; omega, by show rb'.length ≤ b.length; omega⟩, by show k < k + 1; omega⟩
          · show _ = [_, _, _, (7, AV.d (.int .i64 ((k : Nat) : Int)))]
            rw [show ((k : Nat) : Int) = ((k + 1 : Nat) : Int) - 1 by omega]
          · rw [← nums_apps]; rfl
          · rw [h1, Option.map_map]
            congr 1
            funext p
            simp
      all_goals
        have hul : (u8s rb).length = rb.length := u8s_length _
      · rename_i h hb1 h5
        replace h : ¬ (k : Int) > 0 := h
        replace hb1 : rbad = false := hb1
        replace h5 : (((u8s rb).length : Nat) : Int) = 0 := h5
        obtain rfl : k = 0 := by omega
        have h1' : rlist rint n r1 = some (acc, ⟨rb, rbad⟩) := by rw [h1]; simp [rlist]
        rw [hR acc (by rw [hlf, h1']; simp only; rw [if_pos ⟨hb1, by omega⟩])]
        exact ⟨rfl, rfl⟩
      · rename_i h hb1 h5
        replace h : ¬ (k : Int) > 0 := h
        replace h5 : ¬ (((u8s rb).length : Nat) : Int) = 0 := h5
        obtain rfl : k = 0 := by omega
        have h1' : rlist rint n r1 = some (acc, ⟨rb, rbad⟩) := by rw [h1]; simp [rlist]
        refine aw_at (σ := Unit) (fun _ => ([], [])) (fun _ => True) [] ?_ ?_
        · conv => whnf
          exact ⟨(), rfl, rfl, trivial⟩
        · intro _ _
          exact pass 0 _ rfl () ⟨rfl, by rw [hlf, h1']; simp only; rw [if_neg (by rintro ⟨_, h6⟩; omega)]⟩
      · rename_i h hb1
        replace h : ¬ (k : Int) > 0 := h
        replace hb1 : rbad = true := hb1
        obtain rfl : k = 0 := by omega
        have h1' : rlist rint n r1 = some (acc, ⟨rb, rbad⟩) := by rw [h1]; simp [rlist]
        refine aw_at (σ := Unit) (fun _ => ([], [])) (fun _ => True) [] ?_ ?_
        · conv => whnf
          exact ⟨(), rfl, rfl, trivial⟩
        · intro _ _
          exact pass 0 _ rfl () ⟨rfl, by rw [hlf, h1']; simp only; rw [if_neg (by rintro ⟨h6, _⟩; rw [hb1] at h6; cases h6)]⟩
theorem get_ok (b : List UInt8) (hb : b.length ≤ 1000000) : ACalls Try.prog 12 [.d (.sl 1 (u8s b))] [] (fun av L => av = strLR b ∧ L = []) := by
  have h := strL_ok b hb
  unfold strLR at h ⊢
  refine acalls_go ttOk zOk foOk Try.func12 rfl Try.ntmps12 rfl false rfl ?_
  conv => whnf
  refine h.mono ?_
  rintro _ _ ⟨rfl, rfl⟩
  rcases listF rtext b with _ | l
  all_goals
    conv => whnf
    exact ⟨rfl, rfl⟩
theorem getNums_ok (b : List UInt8) (hb : b.length ≤ 1000000) : ACalls Try.prog 27 [.d (.sl 1 (u8s b))] [] (fun av L => av = intLR b ∧ L = []) := by
  have h := intL_ok b hb
  unfold intLR at h ⊢
  refine acalls_go ttOk zOk foOk Try.func27 rfl Try.ntmps27 rfl false rfl ?_
  conv => whnf
  refine h.mono ?_
  rintro _ _ ⟨rfl, rfl⟩
  rcases listF rint b with _ | l
  all_goals
    conv => whnf
    exact ⟨rfl, rfl⟩
end Go.Proofs.Ytkaepgfmpljlmaa

namespace Go.Proofs.Ytkaepgfmpljlmaa
open Go.Ab Go.RowKit Go.MapKept
attribute [local irreducible] ACalls AW ADraw Into fltB fnear
set_option maxRecDepth 100000
/-! ## laying texts and numbers -/
def ntext (n : Int) : ByteArray := ⟨(numF 9 n.toNat).toArray⟩
theorem ntext_size (n : Int) : (ntext n).size ≤ 10 := by
  have := (numF_len 9 n.toNat).2
  show (List.toArray _).size ≤ 10
  simp; omega
def pos64 (l : List Int) : Prop := ∀ n ∈ l, 0 ≤ n ∧ n < 9223372036854775808
set_option maxHeartbeats 1000000 in
theorem texts_ok (l : List Int) (hl : l.length ≤ 1000000) (hp : pos64 l) : ACalls Try.prog 19 [.d (.sl 1 (nums l))] [] (fun av L => av = .arr 0 ∧ L = [.row 9 1 (strs (l.map ntext)) false]) := by
  have hnl := nums_length l
  refine acalls_go ttOk zOk foOk Try.func19 rfl Try.ntmps19 rfl true rfl ?_
  conv => whnf
  refine loop_go ttOk zOk foOk (σ := Nat) (fun k => ([(2, .arr 0), (5, .d (.sl 1 (nums l))), (6, .d (.int .i64 l.length)), (7, .d (.int .i64 k))], [.row 9 1 (strs ((l.take k).map ntext)) false])) (fun k => k ≤ l.length) (fun k => l.length - k) [2, 5, 6, 7] ?_ ?_
  · conv => whnf
    exact ⟨0, by rw [hnl]; rfl, rfl, Nat.zero_le _⟩
  · rintro k hk
    conv => whnf
    repeat' (first | ((with_reducible apply z_wrap); (focus omega); (conv => whnf)) | ((with_reducible first | apply mt_dec | apply mt_eq | apply mt_ne | apply mt_not | apply mt_any) <;> (intro _; conv => whnf)))
    · rename_i h
      refine Exists.elim (⟨_, List.getElem?_eq_getElem (by omega)⟩ : ∃ a, l[k]? = some a) fun a ha => ?_
      have hk2 : (strs ((l.take k).map ntext)).length = k := by rw [strs_length, List.length_map, List.length_take]; omega
      obtain ⟨h0, h1⟩ := hp a (List.mem_of_getElem? ha)
      refine ⟨by omega, [.int .i64 a], nums_at ha, ?_⟩
      obtain ⟨n, rfl⟩ : ∃ n : Nat, a = (n : Int) := ⟨a.toNat, by omega⟩
      have hnum := num_ok [] (by simp) n (by omega)
      conv => whnf
      repeat' (first | ((with_reducible apply z_wrap); (focus omega); (conv => whnf)) | ((with_reducible first | apply mt_dec | apply mt_eq | apply mt_ne | apply mt_not | apply mt_any) <;> (intro _; conv => whnf)))
      (refine Or.inr ?_; (conv => whnf))
      refine hnum.mono ?_
      rintro _ _ ⟨rfl, rfl⟩
      conv => whnf
      refine ⟨numF 9 n, rfl, ?_⟩
      conv => whnf
      refine ⟨by show ((strs ((l.take k).map ntext)).length + 1) * 16 ≤ _; omega, ?_⟩
      conv => whnf
      repeat' (first | ((with_reducible apply z_wrap); (focus omega); (conv => whnf)) | ((with_reducible first | apply mt_dec | apply mt_eq | apply mt_ne | apply mt_not | apply mt_any) <;> (intro _; conv => whnf)))
      refine ⟨k + 1, rfl, ?_, by omega, by omega⟩
      rw [take_snoc ha, List.map_append, ← strs_apps]
      rfl
    · rename_i h
      rw [List.take_of_length_le (by omega)]
      exact ⟨rfl, rfl⟩
/-- numbers' bytes, none below 0 -/
def numsF : List UInt8 → List Int → List UInt8
  | b, [] => b
  | b, n :: r => numsF (if b.length ≤ 1048576 then b ++ numF 9 n.toNat else b) r
def numsO (l : List Int) : Option (List UInt8) := if (numsF (numF 9 l.length) l).length > 1048576 then none else some (numsF (numF 9 l.length) l)
theorem numsF_snoc (b : List UInt8) (l : List Int) (n : Int) : numsF b (l ++ [n]) = if (numsF b l).length ≤ 1048576 then numsF b l ++ numF 9 n.toNat else numsF b l := by
  induction l generalizing b with
  | nil => rfl
  | cons x r ih => exact ih _
def numsR (l : List Int) : AV := match numsO l with
  | some b => .tup [.d (.sl 1 (u8s b)), .d (.int .i64 0)]
  | none => .tup [.d (.sl 1 []), .d (.int .i64 2)]
theorem numsF_len (b : List UInt8) (l : List Int) (h : b.length ≤ 1048586) : (numsF b l).length ≤ 1048586 := by
  induction l generalizing b with
  | nil => exact h
  | cons x r ih =>
    unfold numsF
    refine ih _ ?_
    have := (numF_len 9 x.toNat).2
    split
    · simp; omega
    · exact h
set_option maxHeartbeats 1000000 in
theorem nums_ok (l : List Int) (hl : l.length ≤ 1000000) (hp : pos64 l) : ACalls Try.prog 33 [.d (.sl 1 (nums l))] [] (fun av L => av = numsR l ∧ L = []) := by
  have hnl := nums_length l
  have hn0 := num_ok [] (by simp) l.length (by omega)
  have hf0 := (numF_len 9 l.length).2
  refine acalls_go ttOk zOk foOk Try.func33 rfl Try.ntmps33 rfl false rfl ?_
  conv => whnf
  rw [hnl]
  repeat' (first | ((with_reducible apply z_wrap); (focus omega); (conv => whnf)) | ((with_reducible first | apply mt_dec | apply mt_eq | apply mt_ne | apply mt_not | apply mt_any) <;> (intro _; conv => whnf)))
  (refine Or.inr ?_; (conv => whnf))
  refine hn0.mono ?_
  rintro _ _ ⟨rfl, rfl⟩
  conv => whnf
  rw [hnl]
  refine loop_go ttOk zOk foOk (σ := Nat) (fun k => ([(4, .arr 0), (10, .d (.sl 1 (nums l))), (11, .d (.int .i64 l.length)), (12, .d (.int .i64 k))], [rowU (numsF (numF 9 l.length) (l.take k))])) (fun k => k ≤ l.length) (fun k => l.length - k) [4, 10, 11, 12] ?_ ?_
  · conv => whnf
    exact ⟨0, rfl, rfl, Nat.zero_le _⟩
  · rintro k hk
    have hfl := numsF_len (numF 9 l.length) (l.take k) (by omega)
    obtain ⟨b, hb⟩ : ∃ b, numsF (numF 9 l.length) (l.take k) = b := ⟨_, rfl⟩
    rw [hb] at hfl ⊢
    have hub : (u8s b).length = b.length := u8s_length _
    conv => whnf
    repeat' (first | ((with_reducible apply z_wrap); (focus omega); (conv => whnf)) | ((with_reducible first | apply mt_dec | apply mt_eq | apply mt_ne | apply mt_not | apply mt_any) <;> (intro _; conv => whnf)))
    · rename_i h
      replace h : (k : Int) < l.length := h
      refine Exists.elim (⟨_, List.getElem?_eq_getElem (by omega)⟩ : ∃ a, l[k]? = some a) fun a ha => ?_
      obtain ⟨h0, h1⟩ := hp a (List.mem_of_getElem? ha)
      obtain ⟨n, rfl⟩ : ∃ n : Nat, a = (n : Int) := ⟨a.toNat, by omega⟩
      have hnum := num_ok b (by omega) n (by omega)
      have hs := numsF_snoc (numF 9 l.length) (l.take k) n
      rw [← take_snoc ha, hb, Int.toNat_natCast] at hs
      refine ⟨by omega, [.int .i64 n], nums_at ha, ?_⟩
      conv => whnf
      repeat' (first | ((with_reducible apply z_wrap); (focus omega); (conv => whnf)) | ((with_reducible first | apply mt_dec | apply mt_eq | apply mt_ne | apply mt_not | apply mt_any) <;> (intro _; conv => whnf)))
      · rename_i h3
        replace h3 : (((u8s b).length : Nat) : Int) ≤ 1048576 := h3
        rw [if_pos (by omega)] at hs
        (refine Or.inr ?_; (conv => whnf))
        refine hnum.mono ?_
        rintro _ _ ⟨rfl, rfl⟩
        conv => whnf
        repeat' (first | ((with_reducible apply z_wrap); (focus omega); (conv => whnf)) | ((with_reducible first | apply mt_dec | apply mt_eq | apply mt_ne | apply mt_not | apply mt_any) <;> (intro _; conv => whnf)))
        exact ⟨k + 1, rfl, by rw [hs]; rfl, by omega, by omega⟩
      · rename_i h3
        replace h3 : ¬ (((u8s b).length : Nat) : Int) ≤ 1048576 := h3
        rw [if_neg (by omega)] at hs
        exact ⟨k + 1, rfl, by rw [hs]; rfl, by omega, by omega⟩
    all_goals
      rename_i h h3
      replace h : ¬ (k : Int) < l.length := h
      rw [List.take_of_length_le (by omega)] at hb
      unfold numsR numsO
      rw [hb]
    · replace h3 : (((u8s b).length : Nat) : Int) > 1048576 := h3
      rw [if_pos (by omega)]
      exact ⟨rfl, rfl⟩
    · replace h3 : ¬ (((u8s b).length : Nat) : Int) > 1048576 := h3
      rw [if_neg (by omega)]
      exact ⟨rfl, rfl⟩
/-- numbers as a text -/
def ltext (l : List Int) : ByteArray := ⟨((numsO l).getD []).toArray⟩
theorem ltext_size (l : List Int) : (ltext l).size ≤ 1048586 := by
  show (List.toArray _).size ≤ _
  unfold numsO
  split
  · simp
  · rename_i h; simp; omega
theorem list_ok (l : List Int) (hl : l.length ≤ 1000000) (hp : pos64 l) : ACalls Try.prog 20 [.d (.sl 1 (nums l))] [] (fun av L => av = .d (.str (ltext l)) ∧ L = []) := by
  have h := nums_ok l hl hp
  unfold numsR at h
  unfold ltext
  refine acalls_go ttOk zOk foOk Try.func20 rfl Try.ntmps20 rfl false rfl ?_
  conv => whnf
  refine h.mono ?_
  rintro _ _ ⟨rfl, rfl⟩
  rcases hn : numsO l with _ | b
  · conv => whnf
    refine ⟨[], rfl, ?_⟩
    conv => whnf
    exact ⟨rfl, rfl⟩
  · conv => whnf
    refine ⟨b, rfl, ?_⟩
    conv => whnf
    exact ⟨rfl, rfl⟩
end Go.Proofs.Ytkaepgfmpljlmaa

namespace Go.Proofs.Ytkaepgfmpljlmaa
open Go.Ab Go.RowKit Go.MapKept
attribute [local irreducible] ACalls AW ADraw Into fltB fnear
set_option maxRecDepth 100000
/-! ## texts' bytes -/
def putF : List UInt8 → List ByteArray → Option (List UInt8)
  | b, [] => if b.length ≤ 1048576 then some b else none
  | b, s :: r => if ((s.size : Nat) : Int) > 1048576 - ((b ++ numF 9 s.size).length : Int) then none else putF (b ++ numF 9 s.size ++ s.data.toList) r
theorem putF_cons (b : List UInt8) (s : ByteArray) (r : List ByteArray) : putF b (s :: r) = if ((s.size : Nat) : Int) > 1048576 - ((b ++ numF 9 s.size).length : Int) then none else putF (b ++ numF 9 s.size ++ s.data.toList) r := rfl
def putO (l : List ByteArray) : Option (List UInt8) := putF (numF 9 l.length) l
def putR (l : List ByteArray) : AV := match putO l with
  | some b => .tup [.d (.sl 1 (u8s b)), .d (.int .i64 0)]
  | none => .tup [.d (.sl 1 []), .d (.int .i64 2)]
theorem putR_some {l : List ByteArray} {b : List UInt8} (h : putO l = some b) : putR l = .tup [.d (.sl 1 (u8s b)), .d (.int .i64 0)] := by unfold putR; rw [h]
theorem putR_none {l : List ByteArray} (h : putO l = none) : putR l = .tup [.d (.sl 1 []), .d (.int .i64 2)] := by unfold putR; rw [h]
set_option maxHeartbeats 1000000 in
theorem put_ok (l : List ByteArray) (hl : l.length ≤ 1000000) (hs : ∀ s ∈ l, s.size ≤ 140737488355328) : ACalls Try.prog 21 [.d (.sl 1 (strs l))] [] (fun av L => av = putR l ∧ L = []) := by
  have hnl := strs_length l
  have hn0 := num_ok [] (by simp) l.length (by omega)
  have hf0 := (numF_len 9 l.length).2
  refine acalls_go ttOk zOk foOk Try.func21 rfl Try.ntmps21 rfl false rfl ?_
  conv => whnf
  refine scope_go ttOk zOk foOk (σ := Unit) (fun _ => ([], [])) (fun k _ => k = 0 ∧ putO l = none) (fun _ _ => 0) ?_ ?_
  · rintro k rest hk _ ⟨rfl, hno⟩
    have e := Option.some.inj (show some _ = some rest from hk)
    subst e
    clear hk
    conv => whnf
    rw [putR_none hno]
    exact ⟨rfl, rfl⟩
  · intro pass
    conv => whnf
    rw [hnl]
    repeat' (first | ((with_reducible apply z_wrap); (focus omega); (conv => whnf)) | ((with_reducible first | apply mt_dec | apply mt_eq | apply mt_ne | apply mt_not | apply mt_any) <;> (intro _; conv => whnf)))
    (refine Or.inr ?_; (conv => whnf))
    refine hn0.mono ?_
    rintro _ _ ⟨rfl, rfl⟩
    conv => whnf
    repeat' (first | ((with_reducible apply z_wrap); (focus omega); (conv => whnf)) | ((with_reducible first | apply mt_dec | apply mt_eq | apply mt_ne | apply mt_not | apply mt_any) <;> (intro _; conv => whnf)))
    rw [hnl]
    refine loop_go ttOk zOk foOk (σ := Nat × List UInt8) (fun s => ([(4, .arr 0), (10, .d (.sl 1 (strs l))), (11, .d (.int .i64 l.length)), (12, .d (.int .i64 s.1))], [rowU s.2])) (fun s => s.1 ≤ l.length ∧ s.2.length ≤ 1048576 + 10 ∧ putO l = putF s.2 (l.drop s.1)) (fun s => l.length - s.1) [4, 10, 11, 12] ?_ ?_
    · conv => whnf
      exact ⟨(0, numF 9 l.length), rfl, rfl, Nat.zero_le _, by show (numF 9 l.length).length ≤ _; omega, rfl⟩
    · rintro ⟨k, b⟩ ⟨h1, h2, h3⟩
      simp only at h1 h2 h3
      have hub : (u8s b).length = b.length := u8s_length _
      conv => whnf
      repeat' (first | ((with_reducible apply z_wrap); (focus omega); (conv => whnf)) | ((with_reducible first | apply mt_dec | apply mt_eq | apply mt_ne | apply mt_not | apply mt_any) <;> (intro _; conv => whnf)))
      · rename_i h
        replace h : (k : Int) < l.length := h
        refine Exists.elim (⟨_, List.getElem?_eq_getElem (by omega)⟩ : ∃ a, l[k]? = some a) fun a ha => ?_
        have hdr : l.drop k = a :: l.drop (k + 1) := by
          obtain ⟨hlt, hce⟩ := List.getElem?_eq_some_iff.1 ha
          rw [← hce]; exact List.drop_eq_getElem_cons hlt
        have hsa := hs a (List.mem_of_getElem? ha)
        have hnum := num_ok b (by omega) a.size (by omega)
        rw [hdr, putF_cons] at h3
        obtain ⟨c, hc⟩ : ∃ c, b ++ numF 9 a.size = c := ⟨_, rfl⟩
        have hcl : c.length ≤ 1048576 + 20 := by have := (numF_len 9 a.size).2; rw [← hc]; simp; omega
        rw [hc] at hnum h3
        have huc : (u8s c).length = c.length := u8s_length _
        refine ⟨by omega, [.str a], strs_at ha, ?_⟩
        conv => whnf
        repeat' (first | ((with_reducible apply z_wrap); (focus omega); (conv => whnf)) | ((with_reducible first | apply mt_dec | apply mt_eq | apply mt_ne | apply mt_not | apply mt_any) <;> (intro _; conv => whnf)))
        (refine Or.inr ?_; (conv => whnf))
        refine hnum.mono ?_
        rintro _ _ ⟨rfl, rfl⟩
        conv => whnf
        intro z hz
        replace hz : z = 1048576 - (c.length : Int) := by
          rw [hz]
          show IntKind.i64.wrap (1048576 - (((u8s c).length : Nat) : Int)) = _
          rw [huc, wrapI (by omega)]
        subst hz
        conv => whnf
        repeat' (first | ((with_reducible apply z_wrap); (focus omega); (conv => whnf)) | ((with_reducible first | apply mt_dec | apply mt_eq | apply mt_ne | apply mt_not | apply mt_any) <;> (intro _; conv => whnf)))
        · rename_i h4
          rw [if_pos h4] at h3
          refine into_of [] ?_
          conv => whnf
          exact ⟨(), rfl, rfl, rfl, h3⟩
        · rename_i h4
          rw [if_neg h4] at h3
          have hal : a.data.toList.length = a.size := by simp
          refine ⟨by show ((u8s c).length + a.size) * 1 ≤ _; omega, ?_⟩
          conv => whnf
          repeat' (first | ((with_reducible apply z_wrap); (focus omega); (conv => whnf)) | ((with_reducible first | apply mt_dec | apply mt_eq | apply mt_ne | apply mt_not | apply mt_any) <;> (intro _; conv => whnf)))
          refine ⟨(k + 1, c ++ a.data.toList), rfl, ?_, ⟨by show k + 1 ≤ l.length; omega, by show (c ++ a.data.toList).length ≤ _; rw [List.length_append, hal]; omega, h3⟩, by show l.length - (k + 1) < l.length - k; omega⟩
          rw [rowU, u8s_app]
      all_goals
        rename_i h h4
        replace h : ¬ (k : Int) < l.length := h
        rw [List.drop_of_length_le (by omega)] at h3
        unfold putF at h3
      · replace h4 : (((u8s b).length : Nat) : Int) ≤ 1048576 := h4
        rw [if_pos (by omega)] at h3
        rw [putR_some h3]
        exact ⟨rfl, rfl⟩
      · replace h4 : ¬ (((u8s b).length : Nat) : Int) ≤ 1048576 := h4
        rw [if_neg (by omega)] at h3
        refine aw_at (σ := Unit) (fun _ => ([], [])) (fun _ => True) [] ?_ ?_
        · conv => whnf
          exact ⟨(), rfl, rfl, trivial⟩
        · intro _ _
          exact pass 0 _ rfl () ⟨rfl, h3⟩
end Go.Proofs.Ytkaepgfmpljlmaa

namespace Go.Proofs.Ytkaepgfmpljlmaa
open Go.Ab Go.RowKit Go.MapKept
attribute [local irreducible] ACalls AW ADraw Into fltB fnear
set_option maxRecDepth 100000
/-! ## what may be: numbers, digests, cursors (texts of law 18) -/
def risingI (l : List Int) : Prop := l.Pairwise (· < ·)
theorem rising_nodup {l : List Int} (h : risingI l) : l.Nodup := h.imp fun h => by omega
theorem sub_len {α : Type} [DecidableEq α] : ∀ {l m : List α}, l.Nodup → (∀ x ∈ l, x ∈ m) → l.length ≤ m.length
  | [], m, _, _ => Nat.zero_le _
  | x :: r, m, hn, h => by
    have hn' := List.nodup_cons.1 hn
    have hx := h x (by simp)
    have := sub_len (l := r) (m := m.erase x) hn'.2 (fun y hy => (List.mem_erase_of_ne (fun e => hn'.1 (by rw [← e]; exact hy))).2 (h y (by simp [hy])))
    rw [List.length_erase_of_mem hx] at this
    have hp := List.length_pos_of_mem hx
    simp only [List.length_cons]
    omega
theorem tmod_pos {a b : Int} (ha : 0 ≤ a) {z : Int} (hz : z = a.tmod b) : z = a % b := by rw [hz, Int.tmod_eq_emod_of_nonneg ha]
theorem digest_ok (n : Int) : ACalls Try.prog 45 [.d (.int .i64 n)] [] (fun av L => av = .d (.bool (decide (1 ≤ n ∧ n ≤ 65536))) ∧ L = []) := by
  refine acalls_go ttOk zOk foOk Try.func45 rfl Try.ntmps45 rfl false rfl ?_
  conv => whnf
  repeat' (first | ((with_reducible apply rd_intro); (focus (intro K hK; (conv => whnf); first | exact hK | (intro z hz; rw [wrapI (by omega)] at hz; subst hz; exact hK))); (conv => whnf)) | ((with_reducible apply gd_and); (focus ((conv => whnf) <;> first | rfl | (intro K hK; (conv => whnf); first | exact hK | (intro z hz; rw [wrapI (by omega)] at hz; subst hz; exact hK)))); (conv => whnf)) | ((with_reducible apply z_wrap); (focus omega); (conv => whnf)) | ((with_reducible first | apply mt_dec | apply mt_eq | apply mt_ne | apply mt_not | apply mt_any) <;> (intro _; conv => whnf)))
  · rename_i h1
    exact ⟨boolEq (by simp; omega), rfl⟩
  · rename_i h1
    exact ⟨by rw [decide_eq_false (by omega)]; rfl, rfl⟩
theorem rising_snoc {l : List Int} {x : Int} : risingI (l ++ [x]) ↔ risingI l ∧ ∀ y ∈ l, y < x := by
  unfold risingI
  rw [List.pairwise_append]
  simp
theorem rising_last {l : List Int} {j : Nat} {y : Int} (h : risingI (l.take (j + 1))) (hy : l[j]? = some y) : ∀ z ∈ l.take (j + 1), z ≤ y := by
  rw [List.take_add_one, hy] at h ⊢
  intro z hz
  have := (rising_snoc (l := l.take j) (x := y)).1 h
  rcases List.mem_append.1 hz with hz | hz
  · have := this.2 z hz; omega
  · simp at hz; omega
def riseB (l : List Int) (a b : Int) : Prop := risingI l ∧ ∀ x ∈ l, a ≤ x ∧ x ≤ b
theorem riseB_take {l : List Int} {a b : Int} (h : riseB l a b) (j : Nat) : riseB (l.take j) a b := ⟨h.1.sublist (List.take_sublist ..), fun x hx => h.2 x (List.mem_of_mem_take hx)⟩
theorem riseB_succ {l : List Int} {a b x : Int} {j : Nat} (hx : l[j]? = some x) : riseB (l.take (j + 1)) a b ↔ riseB (l.take j) a b ∧ a ≤ x ∧ x ≤ b ∧ ∀ y ∈ l.take j, y < x := by
  unfold riseB
  rw [List.take_add_one, hx, Option.toList_some, rising_snoc]
  constructor
  · rintro ⟨⟨h1, h2⟩, h3⟩
    exact ⟨⟨h1, fun y hy => h3 y (by simp [hy])⟩, (h3 x (by simp)).1, (h3 x (by simp)).2, h2⟩
  · rintro ⟨⟨h1, h2⟩, h3, h4, h5⟩
    refine ⟨⟨h1, h5⟩, fun y hy => ?_⟩
    rcases List.mem_append.1 hy with hy | hy
    · exact h2 y hy
    · rw [List.mem_singleton.1 hy]; exact ⟨h3, h4⟩
theorem take_pred {l : List Int} {j : Nat} (h0 : 0 < j) (hj : j < l.length) : ∃ y, l[j - 1]? = some y ∧ y ∈ l.take j ∧ (risingI (l.take j) → ∀ z ∈ l.take j, z ≤ y) := by
  obtain ⟨m, rfl⟩ : ∃ m, j = m + 1 := ⟨j - 1, by omega⟩
  obtain ⟨y, hy⟩ : ∃ y, l[m]? = some y := ⟨_, List.getElem?_eq_getElem (by omega)⟩
  refine ⟨y, hy, ?_, fun h => rising_last h hy⟩
  rw [List.take_add_one, hy]; simp
open Classical in
theorem crising_ok (l : List Int) (hl : few l) (a b : Int) : ACalls Try.prog 49 [.d (.sl 1 (nums l)), .d (.int .i64 a), .d (.int .i64 b)] [] (fun av L => av = .d (.bool (decide (riseB l a b))) ∧ L = []) := by
  have hll := nums_length l
  unfold few at hl
  refine acalls_go ttOk zOk foOk Try.func49 rfl Try.ntmps49 rfl false rfl ?_
  conv => whnf
  refine loop_go ttOk zOk foOk (σ := Nat) (fun j => ([(0, .d (.sl 1 (nums l))), (1, .d (.int .i64 a)), (2, .d (.int .i64 b)), (9, .d (.sl 1 (nums l))), (10, .d (.int .i64 l.length)), (11, .d (.int .i64 j))], [])) (fun j => j ≤ l.length ∧ riseB (l.take j) a b) (fun j => l.length - j) [0, 1, 2, 9, 10, 11] ?_ ?_
  · conv => whnf
    exact ⟨0, by rw [hll]; rfl, rfl, Nat.zero_le _, by simp [riseB, risingI]⟩
  · rintro j ⟨hj, hr⟩
    conv => whnf
    repeat' (first | ((with_reducible apply rd_intro); (focus (intro K hK; (conv => whnf); first | exact hK | (intro z hz; rw [wrapI (by omega)] at hz; subst hz; exact hK))); (conv => whnf)) | ((with_reducible apply gd_and); (focus ((conv => whnf) <;> first | rfl | (intro K hK; (conv => whnf); first | exact hK | (intro z hz; rw [wrapI (by omega)] at hz; subst hz; exact hK)))); (conv => whnf)) | ((with_reducible apply z_wrap); (focus omega); (conv => whnf)) | ((with_reducible first | apply mt_dec | apply mt_eq | apply mt_ne | apply mt_not | apply mt_any) <;> (intro _; conv => whnf)))
    · rename_i h
      obtain ⟨x, hx⟩ : ∃ x, l[j]? = some x := ⟨_, List.getElem?_eq_getElem (by omega)⟩
      have hs := riseB_succ (a := a) (b := b) hx
      have hbad : ¬ (a ≤ x ∧ x ≤ b ∧ ∀ y ∈ l.take j, y < x) → ¬ riseB l a b := fun h1 h2 => h1 ((hs.1 (riseB_take h2 (j + 1))).2)
      refine ⟨by omega, [.int .i64 x], nums_at hx, ?_⟩
      conv => whnf
      repeat' (first | ((with_reducible apply rd_intro); (focus (intro K hK; (conv => whnf); first | exact hK | (intro z hz; rw [wrapI (by omega)] at hz; subst hz; exact hK))); (conv => whnf)) | ((with_reducible apply gd_and); (focus ((conv => whnf) <;> first | rfl | (intro K hK; (conv => whnf); first | exact hK | (intro z hz; rw [wrapI (by omega)] at hz; subst hz; exact hK)))); (conv => whnf)) | ((with_reducible apply z_wrap); (focus omega); (conv => whnf)) | ((with_reducible first | apply mt_dec | apply mt_eq | apply mt_ne | apply mt_not | apply mt_any) <;> (intro _; conv => whnf)))
      · rename_i h2
        exact ⟨by rw [decide_eq_false (hbad fun h3 => by omega)]; rfl, rfl⟩
      · rename_i h2 h3
        exact ⟨by rw [decide_eq_false (hbad fun h4 => by omega)]; rfl, rfl⟩
      · rename_i h2 h3 h4
        obtain ⟨y, hy, hym, hle⟩ := take_pred (l := l) (j := j) (by omega) (by omega)
        refine ⟨by omega, [.int .i64 y], by rw [show ((j : Int) - 1).toNat = j - 1 by omega]; exact nums_at hy, ?_⟩
        conv => whnf
        repeat' (first | ((with_reducible apply rd_intro); (focus (intro K hK; (conv => whnf); first | exact hK | (intro z hz; rw [wrapI (by omega)] at hz; subst hz; exact hK))); (conv => whnf)) | ((with_reducible apply gd_and); (focus ((conv => whnf) <;> first | rfl | (intro K hK; (conv => whnf); first | exact hK | (intro z hz; rw [wrapI (by omega)] at hz; subst hz; exact hK)))); (conv => whnf)) | ((with_reducible apply z_wrap); (focus omega); (conv => whnf)) | ((with_reducible first | apply mt_dec | apply mt_eq | apply mt_ne | apply mt_not | apply mt_any) <;> (intro _; conv => whnf)))
        · rename_i h5
          exact ⟨by rw [decide_eq_false (hbad fun h6 => by have := h6.2.2 y hym; omega)]; rfl, rfl⟩
        · rename_i h5
          exact ⟨j + 1, rfl, rfl, ⟨by omega, hs.2 ⟨hr, by omega, by omega, fun z hz => by have := hle hr.1 z hz; omega⟩⟩, by omega⟩
      · rename_i h2 h3 h4
        have hj0 : j = 0 := by omega
        subst hj0
        exact ⟨1, rfl, rfl, ⟨by omega, hs.2 ⟨hr, by omega, by omega, by simp⟩⟩, by omega⟩
    · rename_i h
      rw [List.take_of_length_le (by omega)] at hr
      exact ⟨by rw [decide_eq_true hr]; rfl, rfl⟩
open Classical in
theorem digests_ok (l : List Int) (hl : few l) : ACalls Try.prog 44 [.d (.sl 1 (nums l))] [] (fun av L => av = .d (.bool (decide (riseB l 1 65536))) ∧ L = []) := by
  refine acalls_go ttOk zOk foOk Try.func44 rfl Try.ntmps44 rfl false rfl ?_
  conv => whnf
  refine (crising_ok l hl 1 65536).mono ?_
  rintro _ _ ⟨rfl, rfl⟩
  conv => whnf
  exact ⟨rfl, rfl⟩
structure Cursor where
  round : Int
  done : List Int
  count : Int
def Cursor.cs (c : Cursor) : List DV := [.int .i64 c.round, .sl 1 (nums c.done), .int .i64 c.count]
def Cursor.cells (c : Cursor) : List AV := c.cs.map AV.d
def Cursor.av (c : Cursor) : AV := .agg c.cells
structure curMay (c : Cursor) : Prop where
  round : 0 ≤ c.round ∧ c.round ≤ 1099511627776 ∧ c.round % 2 = 0
  done : riseB c.done 1 65536
  count : 0 ≤ c.count ∧ c.count ≤ 1099511627776
theorem rise_len2 {l : List Int} (h : riseB l 1 65536) : l.length ≤ 65536 := by
  have := sub_len (m := (List.range 65536).map fun n : Nat => (n : Int) + 1) (rising_nodup h.1) fun x hx => by
    have := h.2 x hx
    exact List.mem_map.2 ⟨(x - 1).toNat, by simp; omega, by omega⟩
  simpa using this
theorem rising_take_succ {l : List Int} {j : Nat} {y x : Int} (hy : l[j]? = some y) (hx : l[j + 1]? = some x) : risingI (l.take (j + 2)) ↔ risingI (l.take (j + 1)) ∧ y < x := by
  rw [show l.take (j + 2) = l.take (j + 1) ++ [x] by rw [List.take_add_one, hx]; rfl, rising_snoc]
  constructor
  · rintro ⟨h1, h2⟩
    exact ⟨h1, h2 y (by rw [List.take_add_one, hy]; simp)⟩
  · rintro ⟨h1, h2⟩
    exact ⟨h1, fun z hz => by have := rising_last h1 hy z hz; omega⟩
open Classical in
theorem rRising_ok (l : List Int) (hl : few l) : ACalls Try.prog 35 [.d (.sl 1 (nums l))] [] (fun av L => av = .d (.bool (decide (risingI l))) ∧ L = []) := by
  have hll := nums_length l
  unfold few at hl
  refine acalls_go ttOk zOk foOk Try.func35 rfl Try.ntmps35 rfl false rfl ?_
  conv => whnf
  refine loop_go ttOk zOk foOk (σ := Nat) (fun j => ([(0, .d (.sl 1 (nums l))), (3, .d (.int .i64 ((j : Int) + 1)))], [])) (fun j => j ≤ l.length ∧ risingI (l.take (j + 1))) (fun j => l.length - j) [0, 3] ?_ ?_
  · conv => whnf
    refine ⟨0, rfl, rfl, Nat.zero_le _, ?_⟩
    cases l with
    | nil => simp [risingI]
    | cons a t => simp [risingI]
  · rintro j ⟨hj, hr⟩
    conv => whnf
    repeat' (first | ((with_reducible apply rd_intro); (focus (intro K hK; (conv => whnf); first | exact hK | (intro z hz; rw [wrapI (by omega)] at hz; subst hz; exact hK))); (conv => whnf)) | ((with_reducible apply gd_and); (focus ((conv => whnf) <;> first | rfl | (intro K hK; (conv => whnf); first | exact hK | (intro z hz; rw [wrapI (by omega)] at hz; subst hz; exact hK)))); (conv => whnf)) | ((with_reducible apply z_wrap); (focus omega); (conv => whnf)) | ((with_reducible first | apply mt_dec | apply mt_eq | apply mt_ne | apply mt_not | apply mt_any) <;> (intro _; conv => whnf)))
    · rename_i h
      obtain ⟨y, hy⟩ : ∃ y, l[j]? = some y := ⟨_, List.getElem?_eq_getElem (by omega)⟩
      obtain ⟨x, hx⟩ : ∃ x, l[j + 1]? = some x := ⟨_, List.getElem?_eq_getElem (by omega)⟩
      have hs := rising_take_succ hy hx
      ((with_reducible refine draw_pl ttOk zOk foOk mixedOk pl35x4 ?_ ?_); (focus kernel_rfl); (conv => whnf))
      repeat' (first | ((with_reducible apply rd_intro); (focus (intro K hK; (conv => whnf); first | exact hK | (intro z hz; rw [wrapI (by omega)] at hz; subst hz; exact hK))); (conv => whnf)) | ((with_reducible apply gd_and); (focus ((conv => whnf) <;> first | rfl | (intro K hK; (conv => whnf); first | exact hK | (intro z hz; rw [wrapI (by omega)] at hz; subst hz; exact hK)))); (conv => whnf)) | ((with_reducible apply z_wrap); (focus omega); (conv => whnf)) | ((with_reducible first | apply mt_dec | apply mt_eq | apply mt_ne | apply mt_not | apply mt_any) <;> (intro _; conv => whnf)))
      ((with_reducible apply rd_intro); (focus (intro K hK; (conv => whnf); exact ⟨by omega, [.int .i64 x], (by rw [show ((j : Int) + 1).toNat = j + 1 by omega]; exact nums_at hx), hK⟩)); (conv => whnf))
      repeat' (first | ((with_reducible apply rd_intro); (focus (intro K hK; (conv => whnf); first | exact hK | (intro z hz; rw [wrapI (by omega)] at hz; subst hz; exact hK))); (conv => whnf)) | ((with_reducible apply gd_and); (focus ((conv => whnf) <;> first | rfl | (intro K hK; (conv => whnf); first | exact hK | (intro z hz; rw [wrapI (by omega)] at hz; subst hz; exact hK)))); (conv => whnf)) | ((with_reducible apply z_wrap); (focus omega); (conv => whnf)) | ((with_reducible first | apply mt_dec | apply mt_eq | apply mt_ne | apply mt_not | apply mt_any) <;> (intro _; conv => whnf)))
      ((with_reducible apply rd_intro); (focus (intro K hK; (conv => whnf); exact ⟨by omega, [.int .i64 y], (by rw [show ((j : Int) + 1 - 1).toNat = j by omega]; exact nums_at hy), hK⟩)); (conv => whnf))
      repeat' (first | ((with_reducible apply rd_intro); (focus (intro K hK; (conv => whnf); first | exact hK | (intro z hz; rw [wrapI (by omega)] at hz; subst hz; exact hK))); (conv => whnf)) | ((with_reducible apply gd_and); (focus ((conv => whnf) <;> first | rfl | (intro K hK; (conv => whnf); first | exact hK | (intro z hz; rw [wrapI (by omega)] at hz; subst hz; exact hK)))); (conv => whnf)) | ((with_reducible apply z_wrap); (focus omega); (conv => whnf)) | ((with_reducible first | apply mt_dec | apply mt_eq | apply mt_ne | apply mt_not | apply mt_any) <;> (intro _; conv => whnf)))
      · rename_i h2
        exact ⟨by rw [decide_eq_false (fun h3 => by have := (hs.1 (h3.sublist (List.take_sublist ..))).2; omega)]; rfl, rfl⟩
      · rename_i h2
        exact ⟨j + 1, rfl, rfl, ⟨by omega, hs.2 ⟨hr, by omega⟩⟩, by omega⟩
    · rename_i h
      rw [List.take_of_length_le (by omega)] at hr
      exact ⟨by rw [decide_eq_true hr]; rfl, rfl⟩
open Classical in
theorem rBetween_ok (l : List Int) (hl : few l) (a b : Int) : ACalls Try.prog 47 [.d (.sl 1 (nums l)), .d (.int .i64 a), .d (.int .i64 b)] [] (fun av L => av = .d (.bool (decide (∀ x ∈ l, a ≤ x ∧ x ≤ b))) ∧ L = []) := by
  have hll := nums_length l
  unfold few at hl
  refine acalls_go ttOk zOk foOk Try.func47 rfl Try.ntmps47 rfl false rfl ?_
  conv => whnf
  refine loop_go ttOk zOk foOk (σ := Nat) (fun j => ([(0, .d (.sl 1 (nums l))), (1, .d (.int .i64 a)), (2, .d (.int .i64 b)), (7, .d (.int .i64 j))], [])) (fun j => j ≤ l.length ∧ ∀ x ∈ l.take j, a ≤ x ∧ x ≤ b) (fun j => l.length - j) [0, 1, 2, 7] ?_ ?_
  · conv => whnf
    exact ⟨0, rfl, rfl, Nat.zero_le _, by simp⟩
  · rintro j ⟨hj, hr⟩
    conv => whnf
    repeat' (first | ((with_reducible apply rd_intro); (focus (intro K hK; (conv => whnf); first | exact hK | (intro z hz; rw [wrapI (by omega)] at hz; subst hz; exact hK))); (conv => whnf)) | ((with_reducible apply gd_and); (focus ((conv => whnf) <;> first | rfl | (intro K hK; (conv => whnf); first | exact hK | (intro z hz; rw [wrapI (by omega)] at hz; subst hz; exact hK)))); (conv => whnf)) | ((with_reducible apply z_wrap); (focus omega); (conv => whnf)) | ((with_reducible first | apply mt_dec | apply mt_eq | apply mt_ne | apply mt_not | apply mt_any) <;> (intro _; conv => whnf)))
    · rename_i h
      obtain ⟨x, hx⟩ : ∃ x, l[j]? = some x := ⟨_, List.getElem?_eq_getElem (by omega)⟩
      refine ⟨by omega, [.int .i64 x], nums_at hx, ?_⟩
      conv => whnf
      repeat' (first | ((with_reducible apply rd_intro); (focus (intro K hK; (conv => whnf); first | exact hK | (intro z hz; rw [wrapI (by omega)] at hz; subst hz; exact hK))); (conv => whnf)) | ((with_reducible apply gd_and); (focus ((conv => whnf) <;> first | rfl | (intro K hK; (conv => whnf); first | exact hK | (intro z hz; rw [wrapI (by omega)] at hz; subst hz; exact hK)))); (conv => whnf)) | ((with_reducible apply z_wrap); (focus omega); (conv => whnf)) | ((with_reducible first | apply mt_dec | apply mt_eq | apply mt_ne | apply mt_not | apply mt_any) <;> (intro _; conv => whnf)))
      · rename_i h2
        exact ⟨by rw [decide_eq_false (fun h3 => by have := h3 x (List.mem_of_getElem? hx); omega)]; rfl, rfl⟩
      · rename_i h2
        refine ⟨by omega, [.int .i64 x], nums_at hx, ?_⟩
        conv => whnf
        repeat' (first | ((with_reducible apply rd_intro); (focus (intro K hK; (conv => whnf); first | exact hK | (intro z hz; rw [wrapI (by omega)] at hz; subst hz; exact hK))); (conv => whnf)) | ((with_reducible apply gd_and); (focus ((conv => whnf) <;> first | rfl | (intro K hK; (conv => whnf); first | exact hK | (intro z hz; rw [wrapI (by omega)] at hz; subst hz; exact hK)))); (conv => whnf)) | ((with_reducible apply z_wrap); (focus omega); (conv => whnf)) | ((with_reducible first | apply mt_dec | apply mt_eq | apply mt_ne | apply mt_not | apply mt_any) <;> (intro _; conv => whnf)))
        · rename_i h3
          exact ⟨by rw [decide_eq_false (fun h4 => by have := h4 x (List.mem_of_getElem? hx); omega)]; rfl, rfl⟩
        · rename_i h3
          refine ⟨j + 1, rfl, rfl, ⟨by omega, fun z hz => ?_⟩, by omega⟩
          rw [List.take_add_one, hx] at hz
          rcases List.mem_append.1 hz with hz | hz
          · exact hr z hz
          · simp at hz; omega
    · rename_i h
      rw [List.take_of_length_le (by omega)] at hr
      exact ⟨by rw [decide_eq_true hr]; rfl, rfl⟩
open Classical in
theorem rDigests_ok (l : List Int) (hl : few l) : ACalls Try.prog 34 [.d (.sl 1 (nums l))] [] (fun av L => av = .d (.bool (decide (∀ x ∈ l, 1 ≤ x ∧ x ≤ 65536))) ∧ L = []) := by
  refine acalls_go ttOk zOk foOk Try.func34 rfl Try.ntmps34 rfl false rfl ?_
  conv => whnf
  refine (rBetween_ok l hl 1 65536).mono ?_
  rintro _ _ ⟨rfl, rfl⟩
  conv => whnf
  exact ⟨rfl, rfl⟩
noncomputable def isM (c : Cursor) : Bool := @decide (curMay c) (Classical.propDecidable _)
theorem isM_yes {c : Cursor} (h : curMay c) : isM c = true := by unfold isM; exact @decide_eq_true _ (Classical.propDecidable _) h
theorem isM_no {c : Cursor} (h : ¬ curMay c) : isM c = false := by unfold isM; exact @decide_eq_false _ (Classical.propDecidable _) h
theorem isM_of {c : Cursor} {b : Bool} (h : b = true ↔ curMay c) : b = isM c := by
  cases b with
  | true => rw [isM_yes (h.1 rfl)]
  | false => rw [isM_no (fun h2 => by cases h.2 h2)]
theorem curMay_full (c : Cursor) (hf : few c.done) : ACalls Try.prog 30 [c.av] [] (fun av L => av = .d (.bool (isM c)) ∧ L = []) := by
  have hdg := digests_ok c.done hf
  refine acalls_go ttOk zOk foOk Try.func30 rfl Try.ntmps30 rfl false rfl ?_
  conv => whnf
  repeat' (first | ((with_reducible apply rd_intro); (focus (intro K hK; (conv => whnf); first | exact hK | (intro z hz; rw [wrapI (by omega)] at hz; subst hz; exact hK))); (conv => whnf)) | ((with_reducible apply gd_and); (focus ((conv => whnf) <;> first | rfl | (intro K hK; (conv => whnf); first | exact hK | (intro z hz; rw [wrapI (by omega)] at hz; subst hz; exact hK)))); (conv => whnf)) | ((with_reducible apply z_wrap); (focus omega); (conv => whnf)) | ((with_reducible first | apply mt_dec | apply mt_eq | apply mt_ne | apply mt_not | apply mt_any) <;> (intro _; conv => whnf)))
  · rename_i h1 h2
    refine ⟨by decide, ?_⟩
    intro z hz
    have hz2 : z = c.round % 2 := tmod_pos (by omega) hz
    clear hz
    subst hz2
    conv => whnf
    repeat' (first | ((with_reducible apply rd_intro); (focus (intro K hK; (conv => whnf); first | exact hK | (intro z hz; rw [wrapI (by omega)] at hz; subst hz; exact hK))); (conv => whnf)) | ((with_reducible apply gd_and); (focus ((conv => whnf) <;> first | rfl | (intro K hK; (conv => whnf); first | exact hK | (intro z hz; rw [wrapI (by omega)] at hz; subst hz; exact hK)))); (conv => whnf)) | ((with_reducible apply z_wrap); (focus omega); (conv => whnf)) | ((with_reducible first | apply mt_dec | apply mt_eq | apply mt_ne | apply mt_not | apply mt_any) <;> (intro _; conv => whnf)))
    · rename_i h3
      refine hdg.mono ?_
      rintro _ _ ⟨rfl, rfl⟩
      by_cases h4 : riseB c.done 1 65536
      · rw [@decide_eq_true _ (Classical.propDecidable _) h4]
        conv => whnf
        repeat' (first | ((with_reducible apply rd_intro); (focus (intro K hK; (conv => whnf); first | exact hK | (intro z hz; rw [wrapI (by omega)] at hz; subst hz; exact hK))); (conv => whnf)) | ((with_reducible apply gd_and); (focus ((conv => whnf) <;> first | rfl | (intro K hK; (conv => whnf); first | exact hK | (intro z hz; rw [wrapI (by omega)] at hz; subst hz; exact hK)))); (conv => whnf)) | ((with_reducible apply z_wrap); (focus omega); (conv => whnf)) | ((with_reducible first | apply mt_dec | apply mt_eq | apply mt_ne | apply mt_not | apply mt_any) <;> (intro _; conv => whnf)))
        · rename_i h5
          refine ⟨congrArg (fun b => AV.d (.bool b)) (isM_of ?_), rfl⟩
          rw [decide_eq_true_iff]
          exact ⟨fun h6 => ⟨⟨by omega, by omega, h3⟩, h4, h5, h6⟩, fun h => h.count.2⟩
        · rename_i h5
          exact ⟨by rw [isM_no fun h => h5 h.count.1]; rfl, rfl⟩
      · rw [@decide_eq_false _ (Classical.propDecidable _) h4]
        conv => whnf
        exact ⟨by rw [isM_no fun h => h4 h.done]; rfl, rfl⟩
    · rename_i h3
      exact ⟨by rw [isM_no fun h => h3 h.round.2.2]; rfl, rfl⟩
  · rename_i h1 h2
    exact ⟨by rw [isM_no fun h => h2 h.round.2.1]; rfl, rfl⟩
  · rename_i h1
    exact ⟨by rw [isM_no fun h => h1 h.round.1]; rfl, rfl⟩
theorem rNum_ok (n : Int) : ACalls Try.prog 36 [.d (.int .i64 n)] [] (fun av L => av = .d (.bool (decide (0 ≤ n ∧ n ≤ 1099511627776))) ∧ L = []) := by
  refine acalls_go ttOk zOk foOk Try.func36 rfl Try.ntmps36 rfl false rfl ?_
  conv => whnf
  repeat' (first | ((with_reducible apply rd_intro); (focus (intro K hK; (conv => whnf); first | exact hK | (intro z hz; rw [wrapI (by omega)] at hz; subst hz; exact hK))); (conv => whnf)) | ((with_reducible apply gd_and); (focus ((conv => whnf) <;> first | rfl | (intro K hK; (conv => whnf); first | exact hK | (intro z hz; rw [wrapI (by omega)] at hz; subst hz; exact hK)))); (conv => whnf)) | ((with_reducible apply z_wrap); (focus omega); (conv => whnf)) | ((with_reducible first | apply mt_dec | apply mt_eq | apply mt_ne | apply mt_not | apply mt_any) <;> (intro _; conv => whnf)))
  · rename_i h1
    exact ⟨boolEq (by simp; omega), rfl⟩
  · rename_i h1
    exact ⟨by rw [decide_eq_false (by omega)]; rfl, rfl⟩
theorem rCurMay_full (c : Cursor) (hf : few c.done) : ACalls Try.prog 22 [c.av] [] (fun av L => av = .d (.bool (isM c)) ∧ L = []) := by
  have hdg := rDigests_ok c.done hf
  have hri := rRising_ok c.done hf
  have hnu := rNum_ok c.count
  refine acalls_go ttOk zOk foOk Try.func22 rfl Try.ntmps22 rfl false rfl ?_
  conv => whnf
  repeat' (first | ((with_reducible apply rd_intro); (focus (intro K hK; (conv => whnf); first | exact hK | (intro z hz; rw [wrapI (by omega)] at hz; subst hz; exact hK))); (conv => whnf)) | ((with_reducible apply gd_and); (focus ((conv => whnf) <;> first | rfl | (intro K hK; (conv => whnf); first | exact hK | (intro z hz; rw [wrapI (by omega)] at hz; subst hz; exact hK)))); (conv => whnf)) | ((with_reducible apply z_wrap); (focus omega); (conv => whnf)) | ((with_reducible first | apply mt_dec | apply mt_eq | apply mt_ne | apply mt_not | apply mt_any) <;> (intro _; conv => whnf)))
  · rename_i h1 h2
    refine ⟨by decide, ?_⟩
    intro z hz
    have hz2 : z = c.round % 2 := tmod_pos (by omega) hz
    clear hz
    subst hz2
    conv => whnf
    repeat' (first | ((with_reducible apply rd_intro); (focus (intro K hK; (conv => whnf); first | exact hK | (intro z hz; rw [wrapI (by omega)] at hz; subst hz; exact hK))); (conv => whnf)) | ((with_reducible apply gd_and); (focus ((conv => whnf) <;> first | rfl | (intro K hK; (conv => whnf); first | exact hK | (intro z hz; rw [wrapI (by omega)] at hz; subst hz; exact hK)))); (conv => whnf)) | ((with_reducible apply z_wrap); (focus omega); (conv => whnf)) | ((with_reducible first | apply mt_dec | apply mt_eq | apply mt_ne | apply mt_not | apply mt_any) <;> (intro _; conv => whnf)))
    · rename_i h3
      refine hdg.mono ?_
      rintro _ _ ⟨rfl, rfl⟩
      by_cases h4 : ∀ x ∈ c.done, 1 ≤ x ∧ x ≤ 65536
      · rw [decide_eq_true h4]
        conv => whnf
        repeat' (first | ((with_reducible apply rd_intro); (focus (intro K hK; (conv => whnf); first | exact hK | (intro z hz; rw [wrapI (by omega)] at hz; subst hz; exact hK))); (conv => whnf)) | ((with_reducible apply gd_and); (focus ((conv => whnf) <;> first | rfl | (intro K hK; (conv => whnf); first | exact hK | (intro z hz; rw [wrapI (by omega)] at hz; subst hz; exact hK)))); (conv => whnf)) | ((with_reducible apply z_wrap); (focus omega); (conv => whnf)) | ((with_reducible first | apply mt_dec | apply mt_eq | apply mt_ne | apply mt_not | apply mt_any) <;> (intro _; conv => whnf)))
        refine hri.mono ?_
        rintro _ _ ⟨rfl, rfl⟩
        by_cases h5 : risingI c.done
        · rw [@decide_eq_true _ (Classical.propDecidable _) h5]
          conv => whnf
          repeat' (first | ((with_reducible apply rd_intro); (focus (intro K hK; (conv => whnf); first | exact hK | (intro z hz; rw [wrapI (by omega)] at hz; subst hz; exact hK))); (conv => whnf)) | ((with_reducible apply gd_and); (focus ((conv => whnf) <;> first | rfl | (intro K hK; (conv => whnf); first | exact hK | (intro z hz; rw [wrapI (by omega)] at hz; subst hz; exact hK)))); (conv => whnf)) | ((with_reducible apply z_wrap); (focus omega); (conv => whnf)) | ((with_reducible first | apply mt_dec | apply mt_eq | apply mt_ne | apply mt_not | apply mt_any) <;> (intro _; conv => whnf)))
          refine hnu.mono ?_
          rintro _ _ ⟨rfl, rfl⟩
          conv => whnf
          refine ⟨congrArg (fun b => AV.d (.bool b)) (isM_of ?_), rfl⟩
          rw [decide_eq_true_iff]
          exact ⟨fun h6 => ⟨⟨by omega, by omega, h3⟩, ⟨h5, h4⟩, h6⟩, fun h => h.count⟩
        · rw [@decide_eq_false _ (Classical.propDecidable _) h5]
          conv => whnf
          exact ⟨by rw [isM_no fun h => h5 h.done.1]; rfl, rfl⟩
      · rw [decide_eq_false h4]
        conv => whnf
        exact ⟨by rw [isM_no fun h => h4 h.done.2]; rfl, rfl⟩
    · rename_i h3
      exact ⟨by rw [isM_no fun h => h3 h.round.2.2]; rfl, rfl⟩
  · rename_i h1 h2
    exact ⟨by rw [isM_no fun h => h2 h.round.2.1]; rfl, rfl⟩
  · rename_i h1
    exact ⟨by rw [isM_no fun h => h1 h.round.1]; rfl, rfl⟩
theorem eqNumbers_ok (xs ys : List Int) (hm : few xs) : ACalls Try.prog 28 [.d (.sl 1 (nums xs)), .d (.sl 1 (nums ys))] [] (fun av L => av = .d (.bool (decide (xs = ys))) ∧ L = []) := by
  have hx := nums_length xs
  have hy := nums_length ys
  unfold few at hm
  refine acalls_go ttOk zOk foOk Try.func28 rfl Try.ntmps28 rfl false rfl ?_
  conv => whnf
  rw [hx, hy]
  repeat' (first | ((with_reducible apply rd_intro); (focus (intro K hK; (conv => whnf); first | exact hK | (intro z hz; rw [wrapI (by omega)] at hz; subst hz; exact hK))); (conv => whnf)) | ((with_reducible apply gd_and); (focus ((conv => whnf) <;> first | rfl | (intro K hK; (conv => whnf); first | exact hK | (intro z hz; rw [wrapI (by omega)] at hz; subst hz; exact hK)))); (conv => whnf)) | ((with_reducible apply z_wrap); (focus omega); (conv => whnf)) | ((with_reducible first | apply mt_dec | apply mt_eq | apply mt_ne | apply mt_not | apply mt_any) <;> (intro _; conv => whnf)))
  · rename_i h
    rw [decide_eq_false (fun e => h (by rw [e]))]
    exact ⟨rfl, rfl⟩
  · rename_i h
    have hl : xs.length = ys.length := by omega
    refine loop_go ttOk zOk foOk (σ := Nat) (fun k => ([(0, .d (.sl 1 (nums xs))), (1, .d (.sl 1 (nums ys))), (5, .d (.int .i64 k))], [])) (fun k => k ≤ xs.length ∧ xs.take k = ys.take k) (fun k => xs.length - k) [0, 1, 5] ?_ ?_
    · conv => whnf
      exact ⟨0, rfl, rfl, by simp⟩
    · rintro k ⟨hk, he⟩
      conv => whnf
      rw [hx]
      repeat' (first | ((with_reducible apply rd_intro); (focus (intro K hK; (conv => whnf); first | exact hK | (intro z hz; rw [wrapI (by omega)] at hz; subst hz; exact hK))); (conv => whnf)) | ((with_reducible apply gd_and); (focus ((conv => whnf) <;> first | rfl | (intro K hK; (conv => whnf); first | exact hK | (intro z hz; rw [wrapI (by omega)] at hz; subst hz; exact hK)))); (conv => whnf)) | ((with_reducible apply z_wrap); (focus omega); (conv => whnf)) | ((with_reducible first | apply mt_dec | apply mt_eq | apply mt_ne | apply mt_not | apply mt_any) <;> (intro _; conv => whnf)))
      · rename_i h
        refine Exists.elim (⟨_, List.getElem?_eq_getElem (by omega)⟩ : ∃ a, xs[k]? = some a) fun a ha => ?_
        refine Exists.elim (⟨_, List.getElem?_eq_getElem (by omega)⟩ : ∃ b, ys[k]? = some b) fun b hb => ?_
        ((with_reducible refine draw_pl ttOk zOk foOk mixedOk pl28x6 ?_ ?_); (focus kernel_rfl); (conv => whnf))
        repeat' (first | ((with_reducible apply rd_intro); (focus (intro K hK; (conv => whnf); first | exact hK | (intro z hz; rw [wrapI (by omega)] at hz; subst hz; exact hK))); (conv => whnf)) | ((with_reducible apply gd_and); (focus ((conv => whnf) <;> first | rfl | (intro K hK; (conv => whnf); first | exact hK | (intro z hz; rw [wrapI (by omega)] at hz; subst hz; exact hK)))); (conv => whnf)) | ((with_reducible apply z_wrap); (focus omega); (conv => whnf)) | ((with_reducible first | apply mt_dec | apply mt_eq | apply mt_ne | apply mt_not | apply mt_any) <;> (intro _; conv => whnf)))
        ((with_reducible apply rd_intro); (focus (intro K hK; (conv => whnf); exact ⟨by omega, [.int .i64 a], nums_at ha, hK⟩)); (conv => whnf))
        repeat' (first | ((with_reducible apply rd_intro); (focus (intro K hK; (conv => whnf); first | exact hK | (intro z hz; rw [wrapI (by omega)] at hz; subst hz; exact hK))); (conv => whnf)) | ((with_reducible apply gd_and); (focus ((conv => whnf) <;> first | rfl | (intro K hK; (conv => whnf); first | exact hK | (intro z hz; rw [wrapI (by omega)] at hz; subst hz; exact hK)))); (conv => whnf)) | ((with_reducible apply z_wrap); (focus omega); (conv => whnf)) | ((with_reducible first | apply mt_dec | apply mt_eq | apply mt_ne | apply mt_not | apply mt_any) <;> (intro _; conv => whnf)))
        ((with_reducible apply rd_intro); (focus (intro K hK; (conv => whnf); exact ⟨by omega, [.int .i64 b], nums_at hb, hK⟩)); (conv => whnf))
        repeat' (first | ((with_reducible apply rd_intro); (focus (intro K hK; (conv => whnf); first | exact hK | (intro z hz; rw [wrapI (by omega)] at hz; subst hz; exact hK))); (conv => whnf)) | ((with_reducible apply gd_and); (focus ((conv => whnf) <;> first | rfl | (intro K hK; (conv => whnf); first | exact hK | (intro z hz; rw [wrapI (by omega)] at hz; subst hz; exact hK)))); (conv => whnf)) | ((with_reducible apply z_wrap); (focus omega); (conv => whnf)) | ((with_reducible first | apply mt_dec | apply mt_eq | apply mt_ne | apply mt_not | apply mt_any) <;> (intro _; conv => whnf)))
        · rename_i h
          rw [decide_eq_false (fun e => by subst e; rw [ha] at hb; cases hb; exact h rfl)]
          exact ⟨rfl, rfl⟩
        · rename_i h
          exact ⟨k + 1, rfl, rfl, ⟨by omega, (take_succ_eq ha hb he).2 (by omega)⟩, by omega⟩
      · rename_i h
        obtain rfl : k = xs.length := by omega
        rw [decide_eq_true (by rw [List.take_length, hl, List.take_length] at he; exact he)]
        exact ⟨rfl, rfl⟩
end Go.Proofs.Ytkaepgfmpljlmaa
