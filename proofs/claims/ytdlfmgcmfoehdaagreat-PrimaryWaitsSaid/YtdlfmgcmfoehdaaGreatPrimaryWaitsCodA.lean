/- Part of the proof of PrimaryWaits: the contracts of the functions. -/
import Derived.Test.YtdlfmgcmfoehdaaGreatPrimaryWaitsRowA
import Derived.Test.YtdlfmgcmfoehdaaGreatProg

set_option linter.unusedVariables false
set_option linter.unusedSimpArgs false
namespace Go.Proofs.YtdlfmgcmfoehdaaGreat
open Go.Ab Go.RowKit

def ttab : List (Nat × TI) := [
  (3, ⟨(.int .i64), (.int .i64 0), 1, 8, false, false⟩),
  (4, ⟨(.bool), (.bool false), 1, 1, false, false⟩),
  (22, ⟨(.slice 3), (.slice none 0 0), 1, 24, false, false⟩),
  (41, ⟨(.struct #[(Field.mk "Header" 24 0 false "" "" 0), (Field.mk "Digest" 3 4 false "" "" 64), (Field.mk "Signers" 22 5 false "" "" 72)]), (.agg #[.int .i64 0, .int .i64 0, .slice none 0 0, .slice none 0 0, .int .i64 0, .slice none 0 0]), 6, 96, false, false⟩),
  (26, ⟨(.slice 41), (.slice none 0 0), 1, 24, false, false⟩),
  (28, ⟨(.struct #[(Field.mk "Nodes" 3 0 false "" "" 0), (Field.mk "Low" 3 1 false "" "" 8), (Field.mk "Certs" 26 2 false "" "" 16)]), (.agg #[.int .i64 0, .int .i64 0, .slice none 0 0]), 3, 40, false, false⟩),
  (24, ⟨(.struct #[(Field.mk "Author" 3 0 false "" "" 0), (Field.mk "Round" 3 1 false "" "" 8), (Field.mk "Batches" 22 2 false "" "" 16), (Field.mk "Parents" 22 3 false "" "" 40)]), (.agg #[.int .i64 0, .int .i64 0, .slice none 0 0, .slice none 0 0]), 4, 64, false, false⟩),
  (5, ⟨(.int .u8), (.int .u8 0), 1, 1, false, false⟩),
  (9, ⟨(.string), (.string (ByteArray.mk #[])), 1, 16, false, false⟩),
  (2, ⟨(.int .i64), (.int .i64 0), 1, 8, false, false⟩),
  (12, ⟨(.int .u64), (.int .u64 0), 1, 8, false, false⟩),
  (21, ⟨(.int .i32), (.int .i32 0), 1, 4, false, false⟩),
  (23, ⟨(.struct #[(Field.mk "Author" 3 0 false "" "" 0), (Field.mk "Round" 3 1 false "" "" 8), (Field.mk "Batches" 22 2 false "" "" 16), (Field.mk "Parents" 22 3 false "" "" 40)]), (.agg #[.int .i64 0, .int .i64 0, .slice none 0 0, .slice none 0 0]), 4, 64, false, false⟩),
  (25, ⟨(.slice 65), (.slice none 0 0), 1, 24, false, false⟩),
  (27, ⟨(.struct #[(Field.mk "Nodes" 3 0 false "" "" 0), (Field.mk "Low" 3 1 false "" "" 8), (Field.mk "Certs" 26 2 false "" "" 16)]), (.agg #[.int .i64 0, .int .i64 0, .slice none 0 0]), 3, 40, false, false⟩),
  (29, ⟨(.struct #[(Field.mk "ID" 3 0 false "" "" 0), (Field.mk "Nodes" 3 1 false "" "" 8), (Field.mk "Round" 3 2 false "" "" 16), (Field.mk "Age" 3 3 false "" "" 24), (Field.mk "Said" 3 4 false "" "" 32), (Field.mk "Mine" 24 5 false "" "" 40), (Field.mk "Digest" 3 9 false "" "" 104), (Field.mk "Acks" 22 10 false "" "" 112), (Field.mk "Votes" 25 11 false "" "" 136), (Field.mk "Dag" 28 12 false "" "" 160), (Field.mk "Late" 26 15 false "" "" 200)]), (.agg #[.int .i64 0, .int .i64 0, .int .i64 0, .int .i64 0, .int .i64 0, .int .i64 0, .int .i64 0, .slice none 0 0, .slice none 0 0, .int .i64 0, .slice none 0 0, .slice none 0 0, .int .i64 0, .int .i64 0, .slice none 0 0, .slice none 0 0]), 16, 224, false, false⟩),
  (30, ⟨(.struct #[(Field.mk "ID" 3 0 false "" "" 0), (Field.mk "Nodes" 3 1 false "" "" 8), (Field.mk "Round" 3 2 false "" "" 16), (Field.mk "Age" 3 3 false "" "" 24), (Field.mk "Said" 3 4 false "" "" 32), (Field.mk "Mine" 24 5 false "" "" 40), (Field.mk "Digest" 3 9 false "" "" 104), (Field.mk "Acks" 22 10 false "" "" 112), (Field.mk "Votes" 25 11 false "" "" 136), (Field.mk "Dag" 28 12 false "" "" 160), (Field.mk "Late" 26 15 false "" "" 200)]), (.agg #[.int .i64 0, .int .i64 0, .int .i64 0, .int .i64 0, .int .i64 0, .int .i64 0, .int .i64 0, .slice none 0 0, .slice none 0 0, .int .i64 0, .slice none 0 0, .slice none 0 0, .int .i64 0, .int .i64 0, .slice none 0 0, .slice none 0 0]), 16, 224, false, false⟩),
  (31, ⟨(.slice 56), (.slice none 0 0), 1, 24, false, false⟩),
  (32, ⟨(.struct #[(Field.mk "P" 30 0 false "" "" 0), (Field.mk "L" 31 16 false "" "" 224)]), (.agg #[.int .i64 0, .int .i64 0, .int .i64 0, .int .i64 0, .int .i64 0, .int .i64 0, .int .i64 0, .slice none 0 0, .slice none 0 0, .int .i64 0, .slice none 0 0, .slice none 0 0, .int .i64 0, .int .i64 0, .slice none 0 0, .slice none 0 0, .slice none 0 0]), 17, 248, false, false⟩),
  (33, ⟨(.struct #[(Field.mk "P" 30 0 false "" "" 0), (Field.mk "L" 31 16 false "" "" 224)]), (.agg #[.int .i64 0, .int .i64 0, .int .i64 0, .int .i64 0, .int .i64 0, .int .i64 0, .int .i64 0, .slice none 0 0, .slice none 0 0, .int .i64 0, .slice none 0 0, .slice none 0 0, .int .i64 0, .int .i64 0, .slice none 0 0, .slice none 0 0, .slice none 0 0]), 17, 248, false, false⟩),
  (36, ⟨(.int .i64), (.int .i64 0), 1, 8, false, false⟩),
  (40, ⟨(.struct #[(Field.mk "Header" 24 0 false "" "" 0), (Field.mk "Digest" 3 4 false "" "" 64), (Field.mk "Signers" 22 5 false "" "" 72)]), (.agg #[.int .i64 0, .int .i64 0, .slice none 0 0, .slice none 0 0, .int .i64 0, .slice none 0 0]), 6, 96, false, false⟩),
  (42, ⟨(.slice 49), (.slice none 0 0), 1, 24, false, false⟩),
  (45, ⟨(.slice 164), (.slice none 0 0), 1, 24, false, false⟩),
  (46, ⟨(.struct #[(Field.mk "Author" 3 0 false "" "" 0), (Field.mk "N" 3 1 false "" "" 8), (Field.mk "Txs" 45 2 false "" "" 16)]), (.agg #[.int .i64 0, .int .i64 0, .slice none 0 0]), 3, 40, false, false⟩),
  (47, ⟨(.struct #[(Field.mk "Author" 3 0 false "" "" 0), (Field.mk "N" 3 1 false "" "" 8), (Field.mk "Txs" 45 2 false "" "" 16)]), (.agg #[.int .i64 0, .int .i64 0, .slice none 0 0]), 3, 40, false, false⟩),
  (48, ⟨(.struct #[(Field.mk "Kind" 3 0 false "" "" 0), (Field.mk "From" 3 1 false "" "" 8), (Field.mk "To" 3 2 false "" "" 16), (Field.mk "Digest" 3 3 false "" "" 24), (Field.mk "Batch" 47 4 false "" "" 32), (Field.mk "Header" 24 7 false "" "" 72), (Field.mk "Cert" 41 11 false "" "" 136), (Field.mk "Digests" 22 17 false "" "" 232)]), (.agg #[.int .i64 0, .int .i64 0, .int .i64 0, .int .i64 0, .int .i64 0, .int .i64 0, .slice none 0 0, .int .i64 0, .int .i64 0, .slice none 0 0, .slice none 0 0, .int .i64 0, .int .i64 0, .slice none 0 0, .slice none 0 0, .int .i64 0, .slice none 0 0, .slice none 0 0]), 18, 256, false, false⟩),
  (49, ⟨(.struct #[(Field.mk "Kind" 3 0 false "" "" 0), (Field.mk "From" 3 1 false "" "" 8), (Field.mk "To" 3 2 false "" "" 16), (Field.mk "Digest" 3 3 false "" "" 24), (Field.mk "Batch" 47 4 false "" "" 32), (Field.mk "Header" 24 7 false "" "" 72), (Field.mk "Cert" 41 11 false "" "" 136), (Field.mk "Digests" 22 17 false "" "" 232)]), (.agg #[.int .i64 0, .int .i64 0, .int .i64 0, .int .i64 0, .int .i64 0, .int .i64 0, .slice none 0 0, .int .i64 0, .int .i64 0, .slice none 0 0, .slice none 0 0, .int .i64 0, .int .i64 0, .slice none 0 0, .slice none 0 0, .int .i64 0, .slice none 0 0, .slice none 0 0]), 18, 256, false, false⟩),
  (55, ⟨(.struct #[(Field.mk "Do" 3 0 false "" "" 0), (Field.mk "D" 3 1 false "" "" 8), (Field.mk "H" 24 2 false "" "" 16), (Field.mk "M" 49 6 false "" "" 80), (Field.mk "Fit" 4 24 false "" "" 336), (Field.mk "L" 22 25 false "" "" 344)]), (.agg #[.int .i64 0, .int .i64 0, .int .i64 0, .int .i64 0, .slice none 0 0, .slice none 0 0, .int .i64 0, .int .i64 0, .int .i64 0, .int .i64 0, .int .i64 0, .int .i64 0, .slice none 0 0, .int .i64 0, .int .i64 0, .slice none 0 0, .slice none 0 0, .int .i64 0, .int .i64 0, .slice none 0 0, .slice none 0 0, .int .i64 0, .slice none 0 0, .slice none 0 0, .bool false, .slice none 0 0]), 26, 368, false, false⟩),
  (56, ⟨(.struct #[(Field.mk "Do" 3 0 false "" "" 0), (Field.mk "D" 3 1 false "" "" 8), (Field.mk "H" 24 2 false "" "" 16), (Field.mk "M" 49 6 false "" "" 80), (Field.mk "Fit" 4 24 false "" "" 336), (Field.mk "L" 22 25 false "" "" 344)]), (.agg #[.int .i64 0, .int .i64 0, .int .i64 0, .int .i64 0, .slice none 0 0, .slice none 0 0, .int .i64 0, .int .i64 0, .int .i64 0, .int .i64 0, .int .i64 0, .int .i64 0, .slice none 0 0, .int .i64 0, .int .i64 0, .slice none 0 0, .slice none 0 0, .int .i64 0, .int .i64 0, .slice none 0 0, .slice none 0 0, .int .i64 0, .slice none 0 0, .slice none 0 0, .bool false, .slice none 0 0]), 26, 368, false, false⟩),
  (64, ⟨(.struct #[(Field.mk "Round" 3 0 false "" "" 0), (Field.mk "Author" 3 1 false "" "" 8), (Field.mk "Digest" 3 2 false "" "" 16)]), (.agg #[.int .i64 0, .int .i64 0, .int .i64 0]), 3, 24, false, false⟩),
  (65, ⟨(.struct #[(Field.mk "Round" 3 0 false "" "" 0), (Field.mk "Author" 3 1 false "" "" 8), (Field.mk "Digest" 3 2 false "" "" 16)]), (.agg #[.int .i64 0, .int .i64 0, .int .i64 0]), 3, 24, false, false⟩),
  (66, ⟨(.slice 77), (.slice none 0 0), 1, 24, false, false⟩),
  (67, ⟨(.struct #[(Field.mk "N" 3 0 false "" "" 0), (Field.mk "L" 66 1 false "" "" 8)]), (.agg #[.int .i64 0, .slice none 0 0]), 2, 32, false, false⟩),
  (68, ⟨(.struct #[(Field.mk "N" 3 0 false "" "" 0), (Field.mk "L" 66 1 false "" "" 8)]), (.agg #[.int .i64 0, .slice none 0 0]), 2, 32, false, false⟩),
  (69, ⟨(.pointer 73), (.pointer none), 1, 8, false, false⟩),
  (70, ⟨(.slice 30), (.slice none 0 0), 1, 24, false, false⟩),
  (71, ⟨(.slice 24), (.slice none 0 0), 1, 24, false, false⟩),
  (72, ⟨(.struct #[(Field.mk "p" 70 0 false "" "drover/droverlaw20" 0), (Field.mk "way" 42 1 false "" "drover/droverlaw20" 24), (Field.mk "book" 71 2 false "" "drover/droverlaw20" 48)]), (.agg #[.slice none 0 0, .slice none 0 0, .slice none 0 0]), 3, 72, false, false⟩),
  (73, ⟨(.struct #[(Field.mk "p" 70 0 false "" "drover/droverlaw20" 0), (Field.mk "way" 42 1 false "" "drover/droverlaw20" 24), (Field.mk "book" 71 2 false "" "drover/droverlaw20" 48)]), (.agg #[.slice none 0 0, .slice none 0 0, .slice none 0 0]), 3, 72, false, true⟩),
  (76, ⟨(.struct #[(Field.mk "Do" 3 0 false "" "" 0), (Field.mk "Node" 3 1 false "" "" 8), (Field.mk "K" 3 2 false "" "" 16)]), (.agg #[.int .i64 0, .int .i64 0, .int .i64 0]), 3, 24, false, false⟩),
  (77, ⟨(.struct #[(Field.mk "Do" 3 0 false "" "" 0), (Field.mk "Node" 3 1 false "" "" 8), (Field.mk "K" 3 2 false "" "" 16)]), (.agg #[.int .i64 0, .int .i64 0, .int .i64 0]), 3, 24, false, false⟩),
  (103, ⟨(.int .u64), (.int .u64 0), 1, 8, false, false⟩),
  (117, ⟨(.pointer 119), (.pointer none), 1, 8, false, false⟩),
  (118, ⟨(.struct #[(Field.mk "Primary" 30 0 true "" "" 0), (Field.mk "out" 42 16 false "" "drover/primary" 224)]), (.agg #[.int .i64 0, .int .i64 0, .int .i64 0, .int .i64 0, .int .i64 0, .int .i64 0, .int .i64 0, .slice none 0 0, .slice none 0 0, .int .i64 0, .slice none 0 0, .slice none 0 0, .int .i64 0, .int .i64 0, .slice none 0 0, .slice none 0 0, .slice none 0 0]), 17, 248, false, false⟩),
  (119, ⟨(.struct #[(Field.mk "Primary" 30 0 true "" "" 0), (Field.mk "out" 42 16 false "" "drover/primary" 224)]), (.agg #[.int .i64 0, .int .i64 0, .int .i64 0, .int .i64 0, .int .i64 0, .int .i64 0, .int .i64 0, .slice none 0 0, .slice none 0 0, .int .i64 0, .slice none 0 0, .slice none 0 0, .int .i64 0, .int .i64 0, .slice none 0 0, .slice none 0 0, .slice none 0 0]), 17, 248, false, true⟩),
  (138, ⟨(.complex .f64), (.complex .f64 0 0), 1, 16, false, false⟩),
  (140, ⟨(.map 3 3), (.map none), 1, 8, false, false⟩),
  (156, ⟨(.float .f64), (.float .f64 0), 1, 8, false, false⟩),
  (163, ⟨(.struct #[(Field.mk "Sender" 3 0 false "" "" 0), (Field.mk "Seq" 3 1 false "" "" 8), (Field.mk "Key" 9 2 false "" "" 16), (Field.mk "Val" 9 3 false "" "" 32)]), (.agg #[.int .i64 0, .int .i64 0, .string (ByteArray.mk #[]), .string (ByteArray.mk #[])]), 4, 48, false, false⟩),
  (164, ⟨(.struct #[(Field.mk "Sender" 3 0 false "" "" 0), (Field.mk "Seq" 3 1 false "" "" 8), (Field.mk "Key" 9 2 false "" "" 16), (Field.mk "Val" 9 3 false "" "" 32)]), (.agg #[.int .i64 0, .int .i64 0, .string (ByteArray.mk #[]), .string (ByteArray.mk #[])]), 4, 48, false, false⟩),
  (169, ⟨(.slice 22), (.slice none 0 0), 1, 24, false, false⟩),
  (181, ⟨(.int .i64), (.int .i64 0), 1, 8, false, false⟩),
  (187, ⟨(.int .u32), (.int .u32 0), 1, 4, false, false⟩),
  (189, ⟨(.int .u64), (.int .u64 0), 1, 8, false, false⟩),
  (203, ⟨(.int .u64), (.int .u64 0), 1, 8, false, false⟩),
  (207, ⟨(.pointer 3), (.pointer none), 1, 8, false, false⟩),
  (213, ⟨(.pointer 203), (.pointer none), 1, 8, false, false⟩),
  (227, ⟨(.pointer 5), (.pointer none), 1, 8, false, false⟩)]
noncomputable def tt : TypeId → Option TI := tget ttab
theorem ttOk : TTok Tryz.prog tt := TTok_of (by
  unfold ttab ttAll; refine ⟨⟨by kernel_rfl, by kernel_rfl⟩, ⟨by kernel_rfl, by kernel_rfl⟩, ⟨by kernel_rfl, by kernel_rfl⟩, ⟨by kernel_rfl, by kernel_rfl⟩, ⟨by kernel_rfl, by kernel_rfl⟩, ⟨by kernel_rfl, by kernel_rfl⟩, ⟨by kernel_rfl, by kernel_rfl⟩, ⟨by kernel_rfl, by kernel_rfl⟩, ⟨by kernel_rfl, by kernel_rfl⟩, ⟨by kernel_rfl, by kernel_rfl⟩, ⟨by kernel_rfl, by kernel_rfl⟩, ⟨by kernel_rfl, by kernel_rfl⟩, ⟨by kernel_rfl, by kernel_rfl⟩, ⟨by kernel_rfl, by kernel_rfl⟩, ⟨by kernel_rfl, by kernel_rfl⟩, ⟨by kernel_rfl, by kernel_rfl⟩, ⟨by kernel_rfl, by kernel_rfl⟩, ⟨by kernel_rfl, by kernel_rfl⟩, ⟨by kernel_rfl, by kernel_rfl⟩, ⟨by kernel_rfl, by kernel_rfl⟩, ⟨by kernel_rfl, by kernel_rfl⟩, ⟨by kernel_rfl, by kernel_rfl⟩, ⟨by kernel_rfl, by kernel_rfl⟩, ⟨by kernel_rfl, by kernel_rfl⟩, ⟨by kernel_rfl, by kernel_rfl⟩, ⟨by kernel_rfl, by kernel_rfl⟩, ⟨by kernel_rfl, by kernel_rfl⟩, ⟨by kernel_rfl, by kernel_rfl⟩, ⟨by kernel_rfl, by kernel_rfl⟩, ⟨by kernel_rfl, by kernel_rfl⟩, ⟨by kernel_rfl, by kernel_rfl⟩, ⟨by kernel_rfl, by kernel_rfl⟩, ⟨by kernel_rfl, by kernel_rfl⟩, ⟨by kernel_rfl, by kernel_rfl⟩, ⟨by kernel_rfl, by kernel_rfl⟩, ⟨by kernel_rfl, by kernel_rfl⟩, ⟨by kernel_rfl, by kernel_rfl⟩, ⟨by kernel_rfl, by kernel_rfl⟩, ⟨by kernel_rfl, by kernel_rfl⟩, ⟨by kernel_rfl, by kernel_rfl⟩, ⟨by kernel_rfl, by kernel_rfl⟩, ⟨by kernel_rfl, by kernel_rfl⟩, ⟨by kernel_rfl, by kernel_rfl⟩, ⟨by kernel_rfl, by kernel_rfl⟩, ⟨by kernel_rfl, by kernel_rfl⟩, ⟨by kernel_rfl, by kernel_rfl⟩, ⟨by kernel_rfl, by kernel_rfl⟩, ⟨by kernel_rfl, by kernel_rfl⟩, ⟨by kernel_rfl, by kernel_rfl⟩, ⟨by kernel_rfl, by kernel_rfl⟩, ⟨by kernel_rfl, by kernel_rfl⟩, ⟨by kernel_rfl, by kernel_rfl⟩, ⟨by kernel_rfl, by kernel_rfl⟩, ⟨by kernel_rfl, by kernel_rfl⟩, ⟨by kernel_rfl, by kernel_rfl⟩, ⟨by kernel_rfl, by kernel_rfl⟩, ⟨by kernel_rfl, by kernel_rfl⟩, ⟨by kernel_rfl, by kernel_rfl⟩, ⟨by kernel_rfl, by kernel_rfl⟩, trivial⟩)
theorem zOk : ZOok tt := ZOok_of (by kernel_rfl)
def ftab : List Nat := [3, 4, 5, 6, 7, 8, 9, 10, 11, 12, 13, 14, 15, 16, 17, 18, 19, 20, 21, 22, 23, 24, 25, 26, 27, 28, 29, 30, 31, 32, 33, 34, 35, 36, 37, 38, 39, 40, 41, 42, 43, 44, 45, 46, 47, 48, 49, 50, 51, 52, 53, 54, 55, 56, 57, 58, 59, 60, 61, 62, 63, 64, 65, 66, 67, 68, 69, 70, 71, 72, 73, 74, 75, 76, 77, 78, 79, 80, 81, 82, 83, 84, 85, 86, 87, 88, 89, 90, 91, 92, 93, 94, 95, 96, 97, 98, 99, 100, 101, 102, 103, 104, 105, 106, 107, 108, 109, 110, 111, 112, 113, 114, 115, 116, 117, 118, 119, 120, 121, 122, 123, 124, 125, 126, 127, 128, 129, 130, 131, 132, 133, 134, 135, 136, 137, 138, 139, 140, 141, 142, 143, 144, 145, 146, 147, 148, 149, 150, 151, 152, 153, 154, 156, 157, 158, 159, 161, 162, 163, 164, 165, 166, 167, 168, 169, 170, 171, 172, 173, 174, 175, 176, 177, 178, 179, 181, 182, 183, 184, 185, 186, 187, 188, 189, 190, 191, 192, 193, 194, 195, 196, 197, 198, 199, 200, 201, 202, 203, 204, 205, 206, 207]
noncomputable def fo : FuncId → Bool := fun g => memB g ftab
theorem foOk : FOok Tryz.prog fo := FOok_of (by kernel_rfl)
end Go.Proofs.YtdlfmgcmfoehdaaGreat

namespace Go.Proofs.YtdlfmgcmfoehdaaGreat
open Go.Ab
def pl12x5 : Plan := ⟨[[], [0], [], [], [3, 2, 0, 1], [1, 0, 2, 3, 4], [4, 3, 2, 0, 1, 5], [4, 3, 2, 0, 1, 5], [5, 1, 0, 2, 3, 4, 6], [6, 8, 5, 1, 0, 2, 3, 4, 7]], [0, 2, 3], [(1, []), (4, [5, 6, 7]), (8, [9])]⟩
def pl20x3 : Plan := ⟨[[], [0], [], [], [3, 2, 0, 1], [1, 0, 2, 3, 4], [1, 0, 2, 3, 4], [1, 0, 2, 3, 4], [1, 0, 2, 3, 4], [8, 7, 6, 4, 3, 2, 0, 1, 5], [5, 7, 8, 9, 4, 3, 2, 0, 1, 6], [6, 9, 8, 5, 10, 4, 3, 2, 0, 1, 7], [7, 10, 5, 9, 6, 11, 4, 3, 2, 0, 1, 8]], [0, 2, 3], [(1, []), (4, [5, 6, 7, 8]), (9, [10, 11, 12])]⟩
def pl40x10 : Plan := ⟨[[], [0], [0, 1], [1, 0, 2], [], [4], [4, 5], [5, 4, 6], [2, 0, 1, 3], [3, 1, 0, 2, 8, 6, 4, 5, 7]], [0, 1, 2, 3, 4, 5, 6, 7], [(8, [9])]⟩
def pl41x1 : Plan := ⟨[[], [0], [0, 1], [], [3], [1, 0, 2, 3, 4], [], [6], [4, 3, 2, 0, 1, 5, 6, 7], [7, 6, 4, 3, 2, 1, 0], [5, 8, 0, 1, 2, 3, 4, 6, 7, 9], [8, 10, 9, 7, 6, 5, 4, 3, 2, 1, 0], [0, 1, 2, 3, 4, 5, 6, 7, 9, 10, 8, 11], [12, 11, 10, 9, 8, 7, 6, 5, 4, 3, 2, 1, 0], [0, 1, 2, 3, 4, 5, 6, 7, 8, 9, 10, 11, 12, 13]], [0, 1, 3, 4, 6, 7], [(2, [9]), (5, []), (8, []), (10, [11]), (12, [13]), (14, [])]⟩
def pl41x2 : Plan := ⟨[[], [0], [0, 1], [], [3], [1, 0, 2, 3, 4], [4, 3, 2, 1, 0], [5, 0, 1, 2, 3, 4, 6], [7, 6, 5, 4, 3, 2, 1, 0], [0, 1, 2, 3, 4, 5, 6, 7, 8]], [0, 1, 3, 4], [(2, [6]), (5, []), (7, [8]), (9, [])]⟩
def pl61x1 : Plan := ⟨[[], [0], [0, 1], [1, 0, 2], [1, 0, 2], [4, 2, 0, 1, 3], [3, 4, 5, 1, 0, 2], [2, 0, 1, 5, 4, 3, 6], [6, 3, 4, 5, 1, 0, 2, 7], [7, 2, 0, 1, 5, 4, 3, 6, 8], [8, 6, 3, 4, 5, 1, 0, 2, 7, 9], [9, 7, 2, 0, 1, 5, 4, 3, 6, 8, 10], [10, 8, 6, 3, 4, 5, 1, 0, 2, 7, 9, 11], [11, 9, 7, 2, 0, 1, 5, 4, 3, 6, 8, 10, 12], [12, 10, 8, 6, 3, 4, 5, 1, 0, 2, 7, 9, 11, 13], [10, 8, 6, 3, 4, 5, 1, 0, 2, 7, 9, 11], [11, 9, 7, 2, 0, 1, 5, 4, 3, 6, 8, 10, 15], [15, 16, 13, 11, 9, 7, 2, 0, 1, 5, 4, 3, 6, 8, 10, 12, 14], [14, 12, 13, 16, 15, 17, 10, 8, 6, 3, 4, 5, 1, 0, 2, 7, 9, 11], [11, 9, 8, 10, 17, 15, 16, 13, 12, 14, 18, 6, 3, 4, 5, 1, 0, 2, 7], [7, 2, 0, 1, 5, 4, 3, 6, 18, 14, 12, 13, 16, 15, 17, 10, 8, 9, 11, 19]], [0], [(1, [2, 3, 4]), (5, [6, 7, 8, 9, 10, 11, 12, 13, 14, 15]), (16, [17, 18, 19, 20])]⟩
def pl62x1 : Plan := ⟨[[], [0], [0, 1], [1, 0, 2], [2, 0, 1, 3], [3, 1, 0, 2, 4], [2, 0, 1, 3], [3, 1, 0, 2, 6], [6, 7, 4, 2, 0, 1, 3, 5], [5, 4, 7, 6, 8, 2, 0, 1, 3], [3, 1, 0, 2, 8, 6, 7, 4, 5, 9], [9, 5, 4, 7, 6, 8, 2, 0, 1, 3, 10], [10, 3, 1, 0, 2, 8, 6, 7, 4, 5, 9, 11], [9, 5, 4, 7, 6, 8, 2, 0, 1, 3, 10], [10, 3, 1, 0, 2, 8, 6, 7, 4, 5, 9, 13], [13, 9, 5, 4, 7, 6, 8, 2, 0, 1, 3, 10, 14], [14, 13, 15, 11, 9, 5, 4, 7, 6, 8, 2, 0, 1, 3, 10, 12], [12, 10, 3, 1, 0, 2, 8, 6, 7, 4, 5, 9, 11, 15, 13, 14, 16], [16, 14, 13, 15, 11, 12, 17, 9, 5, 4, 7, 6, 8, 2, 0, 1, 3, 10]], [0], [(1, [2, 3, 4, 5, 6, 7, 8, 9, 10, 11, 12, 13]), (14, [15]), (16, [17, 18])]⟩
def pl62x11 : Plan := ⟨[[], [0], [0, 1], [1, 0, 2], [], [], [5], [5, 6], [6, 5, 7], [2, 0, 1, 3], [3, 1, 0, 2, 9, 4], [4, 9, 2, 0, 1, 3, 10, 7, 5, 6, 8], [8, 6, 5, 7, 10, 3, 1, 0, 2, 9, 4, 11]], [0, 1, 2, 3, 4, 5, 6, 7, 8], [(9, []), (10, [11, 12])]⟩
def pl63x2 : Plan := ⟨[[], [], [1], [1, 2], [2, 1, 3], [3, 1, 2, 4], [4, 2, 1, 3, 5], [5, 3, 1, 2, 4, 6], [7, 6, 5, 4, 3, 2, 1, 0], [0, 1, 2, 3, 4, 5, 6, 7, 8], [8, 7, 6, 5, 4, 3, 2, 1, 0, 9], [9, 0, 1, 2, 3, 4, 5, 6, 7, 8, 10]], [0, 1, 2, 3, 4, 5, 6, 7, 8, 9, 10], [(11, [])]⟩
def pl63x5 : Plan := ⟨[[], [0], [0, 1], [1, 0, 2], [], [4], [4, 5], [5, 4, 6], [2, 0, 1, 3], [3, 1, 0, 2, 8, 6, 4, 5, 7]], [0, 1, 2, 3, 4, 5, 6, 7], [(8, [9])]⟩
def pl63x10 : Plan := ⟨[[], [0], [0, 1], [], [3], [3, 4], [4, 3, 5], [5, 3, 4, 6], [6, 4, 3, 5, 7, 1, 0, 2]], [0, 1, 2, 3, 4, 5, 6, 7, 8], []⟩
def pl63x12 : Plan := ⟨[[], [0], [0, 1], [1, 0, 2], [], [4], [4, 5], [5, 4, 6], [2, 0, 1, 3], [3, 1, 0, 2, 8, 6, 4, 5, 7]], [0, 1, 2, 3, 4, 5, 6, 7], [(8, [9])]⟩
def pl75x7 : Plan := ⟨[[], [], [1], [1, 2, 0], [0, 2, 1, 3], [3, 1, 2, 0, 4], [4, 0, 2, 1, 3, 5], [5, 3, 1, 2, 0, 4, 6], [6, 4, 0, 2, 1, 3, 5, 7], [4, 0, 2, 1, 3, 5], [5, 3, 1, 2, 0, 4, 9], [9, 10, 7, 5, 3, 1, 2, 0, 4, 6, 8], [8, 6, 7, 10, 9, 11, 4, 0, 2, 1, 3, 5], [5, 3, 1, 2, 0, 4, 11, 9, 10, 7, 6, 8, 12], [12, 8, 6, 7, 10, 9, 11, 4, 0, 2, 1, 3, 5, 13], [12, 8, 6, 7, 10, 9, 11, 4, 0, 2, 1, 3, 5, 13], [13, 5, 3, 1, 2, 0, 4, 11, 9, 10, 7, 6, 8, 12, 15], [15, 16, 13, 5, 3, 1, 2, 0, 4, 11, 9, 10, 7, 6, 8, 12, 14], [14, 12, 8, 6, 7, 10, 9, 11, 4, 0, 2, 1, 3, 5, 13, 16, 15, 17], [17, 15, 16, 14, 18, 12, 8, 6, 7, 10, 9, 11, 4, 0, 2, 1, 3, 5, 13], [13, 5, 3, 1, 2, 0, 4, 11, 9, 10, 7, 6, 8, 12, 18, 14, 16, 15, 17, 19], [19, 17, 15, 16, 14, 18, 12, 8, 6, 7, 10, 9, 11, 4, 0, 2, 1, 3, 5, 13, 20], [20, 13, 5, 3, 1, 2, 0, 4, 11, 9, 10, 7, 6, 8, 12, 18, 14, 16, 15, 17, 19, 21], [21, 19, 17, 15, 16, 14, 18, 12, 8, 6, 7, 10, 9, 11, 4, 0, 2, 1, 3, 5, 13, 20, 22], [22, 20, 13, 5, 3, 1, 2, 0, 4, 11, 9, 10, 7, 6, 8, 12, 18, 14, 16, 15, 17, 19, 21, 23], [23, 21, 19, 17, 15, 16, 14, 18, 12, 8, 6, 7, 10, 9, 11, 4, 0, 2, 1, 3, 5, 13, 20, 22, 24], [22, 20, 13, 5, 3, 1, 2, 0, 4, 11, 9, 10, 7, 6, 8, 12, 18, 14, 16, 15, 17, 19, 21, 23], [23, 21, 19, 17, 15, 16, 14, 18, 12, 8, 6, 7, 10, 9, 11, 4, 0, 2, 1, 3, 5, 13, 20, 22, 26], [26, 27, 24, 22, 20, 13, 5, 3, 1, 2, 0, 4, 11, 9, 10, 7, 6, 8, 12, 18, 14, 16, 15, 17, 19, 21, 23, 25], [25, 23, 21, 19, 17, 15, 16, 14, 18, 12, 8, 6, 7, 10, 9, 11, 4, 0, 2, 1, 3, 5, 13, 20, 22, 24, 27, 26, 28], [28, 26, 27, 24, 22, 20, 13, 5, 3, 1, 2, 0, 4, 11, 9, 10, 7, 6, 8, 12, 18, 14, 16, 15, 17, 19, 21, 23, 25, 29], [22, 20, 13, 5, 3, 1, 2, 0, 4, 11, 9, 10, 7, 6, 8, 12, 18, 14, 16, 15, 17, 19, 21, 23], [29, 25, 24, 27, 26, 28, 30, 23, 21, 19, 17, 15, 16, 14, 18, 12, 8, 6, 7, 10, 9, 11, 4, 0, 2, 1, 3, 5, 13, 20, 22, 31], [31, 32, 29, 25, 23, 21, 19, 17, 15, 16, 14, 18, 12, 8, 6, 7, 10, 9, 11, 4, 0, 2, 1, 3, 5, 13, 20, 22, 24, 27, 26, 28, 30], [30, 28, 26, 27, 24, 22, 20, 13, 5, 3, 1, 2, 0, 4, 11, 9, 10, 7, 6, 8, 12, 18, 14, 16, 15, 17, 19, 21, 23, 25, 29, 32, 31, 33], [33, 31, 32, 29, 25, 24, 27, 26, 28, 30, 34, 22, 20, 13, 5, 3, 1, 2, 0, 4, 11, 9, 10, 7, 6, 8, 12, 18, 14, 16, 15, 17, 19, 21, 23], [23, 21, 22, 34, 30, 28, 26, 27, 24, 25, 29, 32, 31, 33, 35, 19, 17, 15, 16, 14, 18, 12, 8, 6, 7, 10, 9, 11, 4, 0, 2, 1, 3, 5, 13, 20]], [0, 1, 2], [(3, [4, 5, 6, 7, 8, 9, 10, 11, 12, 13, 14, 15, 16, 17, 18, 19, 20, 21, 22, 23, 24, 25, 26, 27, 28, 29, 31]), (30, []), (32, []), (33, [34, 35, 36])]⟩
def pl76x4 : Plan := ⟨[[], [], [1, 0], [0, 1, 2], [2, 1, 0, 3], [3, 0, 1, 2, 4], [4, 2, 1, 0, 3, 5], [5, 3, 0, 1, 2, 4, 6], [6, 4, 2, 1, 0, 3, 5, 7], [6, 4, 2, 1, 0, 3, 5, 7], [7, 5, 3, 0, 1, 2, 4, 6, 9], [9, 10, 7, 5, 3, 0, 1, 2, 4, 6, 8], [8, 6, 4, 2, 1, 0, 3, 5, 7, 10, 9, 11], [11, 9, 10, 7, 5, 3, 0, 1, 2, 4, 6, 8, 12], [6, 4, 2, 1, 0, 3, 5, 7], [7, 5, 3, 0, 1, 2, 4, 6, 14], [14, 15, 12, 8, 6, 4, 2, 1, 0, 3, 5, 7, 10, 9, 11, 13], [13, 11, 9, 10, 8, 12, 15, 14, 16, 6, 4, 2, 1, 0, 3, 5, 7], [7, 5, 6, 16, 14, 15, 12, 8, 10, 9, 11, 13, 17, 3, 0, 1, 2, 4]], [0, 1], [(2, [3, 4, 5, 6, 7, 8, 9, 10, 11, 12, 13, 14, 15, 16, 17, 18])]⟩
def pl83x1 : Plan := ⟨[[], [0], [0, 1], [1, 0, 2], [2, 0, 1, 3], [], [5, 3, 1, 0, 2, 4], [4, 2, 0, 1, 3, 5, 6], [6, 5, 3, 1, 0, 2, 4, 7], [6, 5, 3, 1, 0, 2, 4, 7], [], [7, 4, 2, 0, 1, 3, 5, 6, 8, 10], [10, 8, 11, 7, 4, 2, 0, 1, 3, 5, 6, 9]], [0, 1, 2, 3, 4, 5, 6, 7, 8, 9], [(10, []), (11, [12])]⟩
def pl83x9 : Plan := ⟨[[], [], [1], [1, 2], [2, 1, 3], [3, 1, 2, 4], [4, 2, 1, 3, 5], [], [], [5, 3, 1, 2, 4, 6, 8], [8, 6, 4, 2, 1, 3, 5, 9], [9, 8, 10, 7, 5, 3, 1, 2, 4, 6], [11, 10, 9, 8, 7, 6, 5, 4, 3, 2, 1, 0], [0, 1, 2, 3, 4, 5, 6, 7, 8, 9, 10, 11, 12], [12, 11, 10, 9, 8, 7, 6, 5, 4, 3, 2, 1, 0, 13], [13, 0, 1, 2, 3, 4, 5, 6, 7, 8, 9, 10, 11, 12, 14]], [0, 1, 2, 3, 4, 5, 7, 8], [(6, []), (9, []), (10, []), (11, [12, 13, 14]), (15, [])]⟩
def pl83x11 : Plan := ⟨[[], [], [], [], [3], [3, 4], [4, 3, 5], [5, 3, 4, 6], [], [8], [8, 9, 6, 4, 3, 5, 7], [7, 5, 3, 4, 6, 9, 8, 10, 2], [2, 10, 8, 9, 6, 4, 3, 5, 7, 11, 1, 0]], [0, 1, 2, 3, 4, 5, 6, 7, 8, 9], [(10, []), (11, []), (12, [])]⟩
def pl85x1 : Plan := ⟨[[], [0], [0, 1], [], [3], [1, 0, 2, 3, 4], [4, 3, 2, 1, 0], [5, 0, 1, 2, 3, 4, 6], [7, 6, 5, 4, 3, 2, 1, 0], [0, 1, 2, 3, 4, 5, 6, 7, 8]], [0, 1, 3, 4], [(2, [6]), (5, []), (7, [8]), (9, [])]⟩
def pl93x1 : Plan := ⟨[[], [0], [], [2, 0, 1], [1, 0, 2, 3], [], [5], [1, 0, 2, 3, 5, 6], [6, 5, 7, 3, 2, 0, 1, 4], [4, 1, 0, 2, 3, 7, 5, 6, 8]], [0, 1, 2, 5, 6], [(3, [4]), (7, [8, 9])]⟩
def pl98x6 : Plan := ⟨[[], [], [1, 0], [0, 1, 2], [], [], [5, 4], [4, 5, 6], [6, 5, 4, 7, 2, 1, 0, 3]], [0, 1, 2, 3, 4, 5, 6, 7, 8], []⟩
def pl99x2 : Plan := ⟨[[], [0], [0, 1], [0, 1], [3, 1, 0, 2], [2, 0, 1, 3, 4], [4, 3, 1, 0, 2, 5], [0, 1], [1, 0, 7], [7, 8, 5, 2, 0, 1, 3, 4, 6], [6, 4, 3, 2, 5, 8, 7, 9, 0, 1], [1, 0, 9, 7, 8, 5, 2, 3, 4, 6, 10]], [0, 1, 2, 3, 4, 5, 6, 7, 8, 9, 10, 11], []⟩
def pl99x8 : Plan := ⟨[[], [0], [], [], [3], [3, 4, 2, 0, 1], [1, 0, 2, 4, 3, 5], [5, 3, 4, 2, 0, 1, 6]], [0, 2, 3, 4], [(1, []), (5, [6, 7])]⟩
def pl101x0 : Plan := ⟨[[], [0], [0, 1], [1, 0, 2], [2, 0, 1, 3], [3, 1, 0, 2, 4], [4, 2, 0, 1, 3, 5], [5, 3, 1, 0, 2, 4, 6], [6, 4, 2, 0, 1, 3, 5, 7], [7, 5, 3, 1, 0, 2, 4, 6, 8], [8, 6, 4, 2, 0, 1, 3, 5, 7, 9], [9, 7, 5, 3, 1, 0, 2, 4, 6, 8, 10], [10, 8, 6, 4, 2, 0, 1, 3, 5, 7, 9, 11], [5, 3, 1, 0, 2, 4, 6], [6, 4, 2, 0, 1, 3, 5, 13], [13, 5, 3, 1, 0, 2, 4, 6, 14], [14, 6, 4, 2, 0, 1, 3, 5, 13, 15], [15, 13, 5, 3, 1, 0, 2, 4, 6, 14, 16], [16, 14, 6, 4, 2, 0, 1, 3, 5, 13, 15, 17], [17, 15, 13, 14, 16, 18, 11, 9, 7, 5, 3, 1, 0, 2, 4, 6, 8, 10, 12], [12, 10, 8, 7, 9, 11, 18, 16, 14, 13, 15, 17, 19, 5, 3, 1, 0, 2, 4, 6]], [0, 1, 2, 3, 4, 5, 6, 7, 8, 9, 10, 11, 12, 13, 14, 15, 16, 17], [(18, [19, 20])]⟩
def pl101x1 : Plan := ⟨[[], [0], [0, 1], [1, 0, 2], [2, 0, 1, 3], [], [5], [5, 6], [6, 5, 7], [7, 5, 6, 8], [], [10], [10, 11], [11, 10, 12], [12, 10, 11, 13], [13, 11, 10, 12, 14, 8, 6, 5, 7, 9, 3, 1, 0, 2, 4], [], [4, 2, 0, 1, 3, 9, 7, 5, 6, 8, 14, 12, 10, 11, 13, 15, 16]], [0, 1, 2, 3, 4, 5, 6, 7, 8, 9, 10, 11, 12, 13, 14, 15], [(16, []), (17, [])]⟩
def pl102x5 : Plan := ⟨[[], [0], [0, 1], [1, 0, 2], [], [4], [4, 5], [5, 4, 6], [6, 4, 5, 7], [7, 5, 4, 6, 8, 2, 0, 1, 3], [3, 1, 0, 2, 8, 6, 4, 5, 7, 9], [9, 7, 5, 4, 6, 8, 2, 0, 1, 3, 10], [10, 3, 1, 0, 2, 8, 6, 4, 5, 7, 9, 11], [11, 9, 7, 5, 4, 6, 8, 2, 0, 1, 3, 10, 12], [12, 10, 3, 1, 0, 2, 8, 6, 4, 5, 7, 9, 11, 13], [13, 11, 9, 7, 5, 4, 6, 8, 2, 0, 1, 3, 10, 12, 14], [14, 12, 10, 3, 1, 0, 2, 8, 6, 4, 5, 7, 9, 11, 13, 15], [15, 13, 11, 12, 14, 16, 9, 7, 5, 4, 6, 8, 2, 0, 1, 3, 10], [10, 3, 1, 0, 2, 8, 6, 4, 5, 7, 9, 16, 14, 12, 11, 13, 15, 17], [17, 15, 13, 11, 12, 14, 16, 9, 7, 5, 4, 6, 8, 2, 0, 1, 3, 10, 18], [18, 10, 3, 1, 0, 2, 8, 6, 4, 5, 7, 9, 16, 14, 12, 11, 13, 15, 17, 19], [19, 17, 15, 13, 11, 12, 14, 16, 9, 7, 5, 4, 6, 8, 2, 0, 1, 3, 10, 18, 20], [20, 18, 10, 3, 1, 0, 2, 8, 6, 4, 5, 7, 9, 16, 14, 12, 11, 13, 15, 17, 19, 21], [21, 19, 17, 15, 13, 11, 12, 14, 16, 9, 7, 5, 4, 6, 8, 2, 0, 1, 3, 10, 18, 20, 22], [22, 20, 18, 10, 3, 1, 0, 2, 8, 6, 4, 5, 7, 9, 16, 14, 12, 11, 13, 15, 17, 19, 21, 23], [23, 21, 19, 17, 15, 13, 11, 12, 14, 16, 9, 7, 5, 4, 6, 8, 2, 0, 1, 3, 10, 18, 20, 22, 24], [24, 22, 20, 18, 10, 3, 1, 0, 2, 8, 6, 4, 5, 7, 9, 16, 14, 12, 11, 13, 15, 17, 19, 21, 23, 25], [25, 23, 21, 19, 17, 15, 13, 11, 12, 14, 16, 9, 7, 5, 4, 6, 8, 2, 0, 1, 3, 10, 18, 20, 22, 24, 26], [26, 24, 22, 20, 18, 10, 3, 1, 0, 2, 8, 6, 4, 5, 7, 9, 16, 14, 12, 11, 13, 15, 17, 19, 21, 23, 25, 27], [27, 25, 23, 21, 19, 17, 15, 13, 11, 12, 14, 16, 9, 7, 5, 4, 6, 8, 2, 0, 1, 3, 10, 18, 20, 22, 24, 26, 28], [28, 26, 24, 22, 20, 18, 10, 3, 1, 0, 2, 8, 6, 4, 5, 7, 9, 16, 14, 12, 11, 13, 15, 17, 19, 21, 23, 25, 27, 29], [29, 27, 26, 28, 30, 24, 22, 20, 18, 10, 3, 1, 0, 2, 8, 6, 4, 5, 7, 9, 16, 14, 12, 11, 13, 15, 17, 19, 21, 23, 25], [25, 23, 21, 19, 20, 22, 24, 30, 28, 26, 27, 29, 31, 17, 15, 13, 11, 12, 14, 16, 9, 7, 5, 4, 6, 8, 2, 0, 1, 3, 10, 18]], [0, 1, 2, 3, 4, 5, 6, 7, 8], [(9, [10, 11, 12, 13, 14, 15, 16, 17, 18, 19, 20, 21, 22, 23, 24, 25, 26, 27, 28, 29]), (30, [31, 32])]⟩
def pl112x1 : Plan := ⟨[[], [0], [], [2, 0, 1], [1, 0, 2, 3], [3, 2, 0, 1, 4], [4, 1, 0, 2, 3, 5], [5, 3, 2, 0, 1, 4, 6], [6, 5, 7, 3, 2, 0, 1, 4], [4, 1, 0, 2, 3, 7, 5, 6, 8], [8, 6, 5, 7, 3, 2, 0, 1, 4, 9], [9, 4, 1, 0, 2, 3, 7, 5, 6, 8, 10], [8, 6, 5, 7, 3, 2, 0, 1, 4, 9], [12, 10, 8, 6, 5, 7, 3, 2, 0, 1, 4, 9, 11], [11, 10, 12, 13, 8, 6, 5, 7, 3, 2, 0, 1, 4, 9], [9, 4, 1, 0, 2, 3, 7, 5, 6, 8, 13, 12, 10, 11, 14], [14, 11, 10, 12, 13, 8, 6, 5, 7, 3, 2, 0, 1, 4, 9, 15], [15, 9, 4, 1, 0, 2, 3, 7, 5, 6, 8, 13, 12, 10, 11, 14, 16], [16, 14, 11, 10, 12, 13, 8, 6, 5, 7, 3, 2, 0, 1, 4, 9, 15, 17], [14, 11, 10, 12, 13, 8, 6, 5, 7, 3, 2, 0, 1, 4, 9, 15], [15, 9, 4, 1, 0, 2, 3, 7, 5, 6, 8, 13, 12, 10, 11, 14, 19], [19, 20, 17, 15, 9, 4, 1, 0, 2, 3, 7, 5, 6, 8, 13, 12, 10, 11, 14, 16, 18], [18, 16, 17, 20, 19, 21, 14, 11, 10, 12, 13, 8, 6, 5, 7, 3, 2, 0, 1, 4, 9, 15], [15, 9, 4, 1, 0, 2, 3, 7, 5, 6, 8, 13, 12, 10, 11, 14, 21, 19, 20, 17, 16, 18, 22]], [0, 1, 2], [(3, [4, 5, 6]), (7, [8, 9, 10, 11, 12]), (13, [14, 15, 16, 17, 18, 19]), (20, [21, 22, 23])]⟩
def pl122x2 : Plan := ⟨[[], [0], [0, 1], [], [3], [1, 0, 2, 3, 4], [4, 3, 2, 1, 0], [5, 0, 1, 2, 3, 4, 6], [7, 6, 5, 4, 3, 2, 1, 0], [0, 1, 2, 3, 4, 5, 6, 7, 8]], [0, 1, 3, 4], [(2, [6]), (5, []), (7, [8]), (9, [])]⟩
def pl122x3 : Plan := ⟨[[], [], [1], [1, 2], [2, 1, 3], [], [5], [5, 6, 3, 1, 2, 4], [7, 6, 5, 4, 3, 2, 1, 0], [0, 1, 2, 3, 4, 5, 6, 7, 8], [8, 7, 6, 5, 4, 3, 2, 1, 0, 9]], [0, 1, 2, 3, 4, 5], [(6, []), (7, [8, 9]), (10, [])]⟩
def pl124x1 : Plan := ⟨[[], [0], [], [2], [2, 3, 0, 1], [1, 0, 3, 2, 4], [4, 2, 3, 0, 1, 5], [4, 2, 3, 0, 1, 5], [5, 1, 0, 3, 2, 4, 6], [6, 8, 5, 1, 0, 3, 2, 4, 7]], [0, 1, 2], [(3, []), (4, [5, 6, 7, 8, 9])]⟩
def pl124x4 : Plan := ⟨[[], [0], [0, 1], [1, 0, 2], [0, 1], [4, 2, 0, 1, 3], [3, 1, 0, 2, 4, 5], [5, 4, 2, 0, 1, 3, 6], [0, 1], [1, 0, 8], [8, 9, 6, 3, 1, 0, 2, 4, 5, 7], [7, 5, 4, 2, 3, 6, 9, 8, 10, 0, 1], [1, 0, 10, 8, 9, 6, 3, 2, 4, 5, 7, 11]], [0, 1, 2, 3, 4, 5, 6, 7, 8, 9, 10, 11, 12], []⟩
def pl124x10 : Plan := ⟨[[], [0], [0, 1], [], [], [1, 0, 2, 4], [4, 2, 0, 1, 5], [5, 4, 6, 3, 1, 0, 2], [7, 6, 5, 4, 3, 2, 1, 0], [0, 1, 2, 3, 4, 5, 6, 7, 8]], [0, 1, 3, 4], [(2, []), (5, []), (6, []), (7, [8]), (9, [])]⟩
def pl125x5 : Plan := ⟨[[], [0], [0, 1], [1, 0, 2], [2, 0, 1, 3], [], [5, 3, 1, 0, 2, 4], [4, 2, 0, 1, 3, 5, 6], [6, 5, 3, 1, 0, 2, 4, 7], [6, 5, 3, 1, 0, 2, 4, 7], [], [7, 4, 2, 0, 1, 3, 5, 6, 8, 10], [10, 8, 11, 7, 4, 2, 0, 1, 3, 5, 6, 9]], [0, 1, 2, 3, 4, 5, 6, 7, 8, 9], [(10, []), (11, [12])]⟩
def pl129x1 : Plan := ⟨[[], [0], [0, 1], [], [3], [1, 0, 2, 3, 4], [4, 3, 2, 1, 0], [5, 0, 1, 2, 3, 4, 6], [7, 6, 5, 4, 3, 2, 1, 0], [0, 1, 2, 3, 4, 5, 6, 7, 8]], [0, 1, 3, 4], [(2, [6]), (5, []), (7, [8]), (9, [])]⟩
def pl182x1 : Plan := ⟨[[], [], [], [2], [], [4, 2, 3], [3, 2, 4, 5, 1], [1, 5, 4, 2, 3, 6, 0], [0, 6, 3, 2, 4, 5, 1, 7], [7, 1, 5, 4, 2, 3, 6, 0, 8], [7, 1, 5, 4, 2, 3, 6, 0, 8], [], [8, 0, 6, 3, 2, 4, 5, 1, 7, 9, 11], [11, 9, 12, 8, 0, 6, 3, 2, 4, 5, 1, 7, 10]], [0, 1, 2, 3, 4, 5, 6, 7, 8, 9, 10], [(11, []), (12, [13])]⟩
def pl183x1 : Plan := ⟨[[], [], [1, 0], [], [3], [0, 1, 2, 3, 4], [4, 3, 5, 0, 1, 2], [2, 1, 0, 5, 3, 4, 6]], [0, 1, 3, 4], [(2, []), (5, [6, 7])]⟩
end Go.Proofs.YtdlfmgcmfoehdaaGreat

namespace Go.Proofs.YtdlfmgcmfoehdaaGreat
open Go.Ab Go.RowKit
theorem mixedOk : Tryz.prog.follows .mixedOrders = true := by kernel_rfl
def nums (l : List Int) : List (List DV) := l.map fun n => [.int .i64 n]
theorem nums_length (l : List Int) : (nums l).length = l.length := List.length_map ..
theorem nums_at {l : List Int} {k : Nat} {a : Int} (h : l[k]? = some a) : (nums l)[k]? = some [.int .i64 a] := by simp [nums, h]
theorem nums_apps (l m : List Int) : nums l ++ nums m = nums (l ++ m) := by simp [nums]
/-- a certificate -/
structure Cert where
  author : Int
  round : Int
  bats : List Int
  pars : List Int
  digest : Int
  sigs : List Int
def Cert.cs (c : Cert) : List DV := [.int .i64 c.author, .int .i64 c.round, .sl 1 (nums c.bats), .sl 1 (nums c.pars), .int .i64 c.digest, .sl 1 (nums c.sigs)]
def Cert.cells (c : Cert) : List AV := c.cs.map AV.d
def Cert.av (c : Cert) : AV := .agg c.cells
/-- a header -/
def Cert.hcells (c : Cert) : List AV := [.d (.int .i64 c.author), .d (.int .i64 c.round), .d (.sl 1 (nums c.bats)), .d (.sl 1 (nums c.pars))]
def Cert.hav (c : Cert) : AV := .agg c.hcells
structure Dag where
  nodes : Int
  low : Int
  certs : List Cert
def certsD (l : List Cert) : List (List DV) := l.map Cert.cs
theorem certsD_length (l : List Cert) : (certsD l).length = l.length := List.length_map ..
theorem certsD_at {l : List Cert} {k : Nat} {c : Cert} (h : l[k]? = some c) : (certsD l)[k]? = some c.cs := by simp [certsD, h]
def Dag.cells (d : Dag) : List AV := [.d (.int .i64 d.nodes), .d (.int .i64 d.low), .d (.sl 6 (certsD d.certs))]
def Dag.av (d : Dag) : AV := .agg d.cells
structure Cursor where
  round : Int
  done : List Int
  count : Int
def Cursor.cs (c : Cursor) : List DV := [.int .i64 c.round, .sl 1 (nums c.done), .int .i64 c.count]
def Cursor.cells (c : Cursor) : List AV := c.cs.map AV.d
def Cursor.av (c : Cursor) : AV := .agg c.cells
structure AskG where
  d : Dag
  cs : List Cursor
  is : List Int
def AskG.cells (p : AskG) : List AV := p.d.cells ++ [.d (.sl 3 (p.cs.map Cursor.cs)), .d (.sl 1 (nums p.is))]
def AskG.av (p : AskG) : AV := .agg p.cells
def i64 (n : Int) : Prop := -9223372036854775808 ≤ n ∧ n < 9223372036854775808
def few {α : Type} (l : List α) : Prop := l.length ≤ 140737488355328
structure Cert.ok (c : Cert) : Prop where
  author : i64 c.author
  round : i64 c.round
  bats : few c.bats ∧ ∀ n ∈ c.bats, i64 n
  pars : few c.pars ∧ ∀ n ∈ c.pars, i64 n
  digest : i64 c.digest
  sigs : few c.sigs ∧ ∀ n ∈ c.sigs, i64 n
structure Dag.ok (d : Dag) : Prop where
  nodes : i64 d.nodes
  low : i64 d.low
  certs : few d.certs ∧ ∀ c ∈ d.certs, c.ok
structure Cursor.ok (c : Cursor) : Prop where
  round : i64 c.round
  done : few c.done ∧ ∀ n ∈ c.done, i64 n
  count : i64 c.count
structure AskG.ok (p : AskG) : Prop where
  d : p.d.ok
  cs : few p.cs ∧ ∀ c ∈ p.cs, c.ok
  is : few p.is ∧ ∀ n ∈ p.is, i64 n
end Go.Proofs.YtdlfmgcmfoehdaaGreat

namespace Go.Proofs.YtdlfmgcmfoehdaaGreat
open Go.Ab Go.RowKit Go.MapKept
attribute [local irreducible] ACalls AW ADraw Into fltB fnear
set_option maxRecDepth 100000
/-! ## places -/
def plb (r a : Int) : DV := .cplx .f64 (fnear .f64 r) (fnear .f64 a)
theorem placeOf_ok (r a : Int) : ACalls Tryz.prog 146 [.d (.int .i64 r), .d (.int .i64 a)] [] (fun av L => av = .d (plb r a) ∧ L = []) := by
  refine acalls_go ttOk zOk foOk Tryz.func146 rfl Tryz.ntmps146 rfl false rfl ?_
  conv => whnf
  exact ⟨rfl, rfl⟩
theorem dagPlace_ok (c : Cert) : ACalls Tryz.prog 113 [c.av] [] (fun av L => av = .d (plb c.round c.author) ∧ L = []) := by
  refine acalls_go ttOk zOk foOk Tryz.func113 rfl Tryz.ntmps113 rfl false rfl ?_
  conv => whnf
  refine (placeOf_ok c.round c.author).mono ?_
  rintro _ _ ⟨rfl, rfl⟩
  conv => whnf
  exact ⟨rfl, rfl⟩
theorem isNaN_ok {x : Int} (hx : isF x) : ACalls Tryz.prog 199 [.d (.flt .f64 (fnear .f64 x))] [] (fun av L => av = .d (.bool false) ∧ L = []) := by
  refine acalls_go ttOk zOk foOk Tryz.func199 rfl Tryz.ntmps199 rfl false rfl ?_
  conv => whnf
  rw [flt_neq hx hx, decide_eq_false (fun h => h rfl)]
  exact ⟨rfl, rfl⟩
def cmpI (x y : Int) : Int := if x < y then -1 else if x > y then 1 else 0
theorem compare_ok {x y : Int} (hx : isF x) (hy : isF y) : ACalls Tryz.prog 177 [.d (.flt .f64 (fnear .f64 x)), .d (.flt .f64 (fnear .f64 y))] [] (fun av L => av = .d (.int .i64 (cmpI x y)) ∧ L = []) := by
  refine acalls_go ttOk zOk foOk Tryz.func177 rfl Tryz.ntmps177 rfl false rfl ?_
  conv => whnf
  ((with_reducible refine (isNaN_ok hx).mono ?_); rintro _ _ ⟨rfl, rfl⟩; (conv => whnf))
  ((with_reducible refine (isNaN_ok hy).mono ?_); rintro _ _ ⟨rfl, rfl⟩; (conv => whnf))
  rw [flt_lss hx hy]
  ((with_reducible refine mt_dec (fun _ => ?_) (fun _ => ?_)) <;> (conv => whnf))
  · rename_i h
    exact ⟨by rw [cmpI, if_pos h]; rfl, rfl⟩
  rename_i h
  rw [flt_gtr hx hy]
  ((with_reducible refine mt_dec (fun _ => ?_) (fun _ => ?_)) <;> (conv => whnf))
  · rename_i h2
    exact ⟨by rw [cmpI, if_neg h, if_pos h2]; rfl, rfl⟩
  · rename_i h2
    exact ⟨by rw [cmpI, if_neg h, if_neg h2]; rfl, rfl⟩
theorem or_ok (x y : Int) : ACalls Tryz.prog 176 [.d (.sl 1 [[.int .i64 x], [.int .i64 y]])] [] (fun av L => av = .d (.int .i64 (if x ≠ 0 then x else y)) ∧ L = []) := by
  refine acalls_go ttOk zOk foOk Tryz.func176 rfl Tryz.ntmps176 rfl false rfl ?_
  conv => whnf
  refine loop_go ttOk zOk foOk (σ := Nat) (fun j => ([(3, .d (.int .i64 0)), (6, .d (.sl 1 [[.int .i64 x], [.int .i64 y]])), (7, .d (.int .i64 2)), (8, .d (.int .i64 j))], [])) (fun j => j ≤ 2 ∧ (1 ≤ j → x = 0) ∧ (2 ≤ j → y = 0)) (fun j => 2 - j) [3, 6, 7, 8] ?_ ?_
  · conv => whnf
    exact ⟨0, rfl, rfl, by omega, by omega, by omega⟩
  · rintro j ⟨h1, h2, h3⟩
    conv => whnf
    repeat' (first | ((with_reducible apply z_wrap); (focus omega); (conv => whnf)) | ((with_reducible first | apply mt_dec | apply mt_eq | apply mt_ne | apply mt_not | apply mt_any) <;> (intro _; conv => whnf)))
    · rename_i h
      rcases (show j = 0 ∨ j = 1 by omega) with rfl | rfl
      · refine ⟨by omega, [.int .i64 x], rfl, ?_⟩
        conv => whnf
        repeat' (first | ((with_reducible apply z_wrap); (focus omega); (conv => whnf)) | ((with_reducible first | apply mt_dec | apply mt_eq | apply mt_ne | apply mt_not | apply mt_any) <;> (intro _; conv => whnf)))
        · rename_i h
          exact ⟨by rw [if_pos h], rfl⟩
        · rename_i h
          exact ⟨1, rfl, rfl, ⟨by omega, fun _ => h, by omega⟩, by omega⟩
      · obtain rfl := h2 (by omega)
        refine ⟨by omega, [.int .i64 y], rfl, ?_⟩
        conv => whnf
        repeat' (first | ((with_reducible apply z_wrap); (focus omega); (conv => whnf)) | ((with_reducible first | apply mt_dec | apply mt_eq | apply mt_ne | apply mt_not | apply mt_any) <;> (intro _; conv => whnf)))
        · exact ⟨rfl, rfl⟩
        · rename_i h
          exact ⟨2, rfl, rfl, ⟨by omega, by omega, fun _ => h⟩, by omega⟩
    · obtain rfl := h2 (by omega)
      obtain rfl := h3 (by omega)
      exact ⟨rfl, rfl⟩
def cmpP (c : Cert) (r a : Int) : Int := if cmpI c.round r ≠ 0 then cmpI c.round r else cmpI c.author a
theorem findf_ok (c : Cert) (r a : Int) (h1 : isF c.round) (h2 : isF c.author) (hr : isF r) (ha : isF a) : ACalls Tryz.prog 175 [c.av, .d (plb r a)] [] (fun av L => av = .d (.int .i64 (cmpP c r a)) ∧ L = []) := by
  refine acalls_go ttOk zOk foOk Tryz.func175 rfl Tryz.ntmps175 rfl false rfl ?_
  conv => whnf
  (refine (dagPlace_ok c).mono ?_; rintro _ _ ⟨rfl, rfl⟩; (conv => whnf))
  repeat' (first | ((with_reducible apply z_wrap); (focus omega); (conv => whnf)) | ((with_reducible first | apply mt_dec | apply mt_eq | apply mt_ne | apply mt_not | apply mt_any) <;> (intro _; conv => whnf)))
  ((with_reducible refine (compare_ok h1 hr).mono ?_); rintro _ _ ⟨rfl, rfl⟩; (conv => whnf))
  repeat' (first | ((with_reducible apply z_wrap); (focus omega); (conv => whnf)) | ((with_reducible first | apply mt_dec | apply mt_eq | apply mt_ne | apply mt_not | apply mt_any) <;> (intro _; conv => whnf)))
  ((with_reducible refine (compare_ok h2 ha).mono ?_); rintro _ _ ⟨rfl, rfl⟩; (conv => whnf))
  repeat' (first | ((with_reducible apply z_wrap); (focus omega); (conv => whnf)) | ((with_reducible first | apply mt_dec | apply mt_eq | apply mt_ne | apply mt_not | apply mt_any) <;> (intro _; conv => whnf)))
  (refine Or.inl ?_; (conv => whnf))
  ((with_reducible refine (or_ok (cmpI c.round r) (cmpI c.author a)).mono ?_); rintro _ _ ⟨rfl, rfl⟩; (conv => whnf))
  exact ⟨rfl, rfl⟩
theorem placeLess_ok {r a r' a' : Int} (hr : isF r) (ha : isF a) (hr' : isF r') (ha' : isF a') : ACalls Tryz.prog 110 [.d (plb r a), .d (plb r' a')] [] (fun av L => av = .d (.bool (decide (r < r' ∨ r = r' ∧ a < a'))) ∧ L = []) := by
  refine acalls_go ttOk zOk foOk Tryz.func110 rfl Tryz.ntmps110 rfl false rfl ?_
  conv => whnf
  rw [flt_lss hr hr']
  ((with_reducible refine mt_dec (fun _ => ?_) (fun _ => ?_)) <;> (conv => whnf))
  · rename_i h
    rw [decide_eq_true (show r < r' ∨ r = r' ∧ a < a' from .inl h)]
    exact ⟨rfl, rfl⟩
  rename_i h
  rw [flt_eql hr hr']
  ((with_reducible refine mt_dec (fun _ => ?_) (fun _ => ?_)) <;> (conv => whnf))
  · rename_i h2
    rw [flt_lss ha ha']
    exact ⟨boolEq (by simp only [decide_eq_true_iff]; exact ⟨fun h3 => .inr ⟨h2, h3⟩, fun h3 => h3.elim (fun h4 => absurd h4 h) (·.2)⟩), rfl⟩
  · rename_i h2
    rw [decide_eq_false (show ¬ (r < r' ∨ r = r' ∧ a < a') from fun h4 => h4.elim h (fun h5 => h2 h5.1))]
    exact ⟨rfl, rfl⟩
end Go.Proofs.YtdlfmgcmfoehdaaGreat

namespace Go.Proofs.YtdlfmgcmfoehdaaGreat
open Go.Ab Go.RowKit Go.MapKept
attribute [local irreducible] ACalls AW ADraw Into fltB fnear
set_option maxRecDepth 100000
def Cert.before (c : Cert) (r a : Int) : Bool := decide (c.round < r ∨ c.round = r ∧ c.author < a)
def pos (l : List Cert) (r a : Int) : Nat := (l.filter fun c => c.before r a).length
def sortedC (l : List Cert) : Prop := l.Pairwise fun x y => x.before y.round y.author = true
def fitC (l : List Cert) : Prop := ∀ c ∈ l, isF c.round ∧ isF c.author
def atC (l : List Cert) (r a : Int) : Option Cert := l.find? fun c => decide (c.round = r ∧ c.author = a)
theorem before_iff {c : Cert} {r a : Int} : c.before r a = true ↔ c.round < r ∨ c.round = r ∧ c.author < a := by simp [Cert.before]
theorem pos_le (l : List Cert) (r a : Int) : pos l r a ≤ l.length := List.length_filter_le ..
theorem pos_iff {r a : Int} : ∀ {l : List Cert} {m : Nat} {c : Cert}, sortedC l → l[m]? = some c → (c.before r a = true ↔ m < pos l r a)
  | [], m, c, _, h => by simp at h
  | x :: t, m, c, hs, h => by
    have hs' := List.pairwise_cons.1 hs
    cases hx : x.before r a with
    | true =>
      have hp : pos (x :: t) r a = pos t r a + 1 := by simp [pos, hx]
      cases m with
      | zero =>
        simp only [List.getElem?_cons_zero, Option.some.injEq] at h
        subst h
        rw [hp]; simp [hx]
      | succ m =>
        rw [List.getElem?_cons_succ] at h
        rw [pos_iff hs'.2 h, hp]; omega
    | false =>
      have hall : ∀ y ∈ t, y.before r a = false := by
        intro y hy
        have h1 := before_iff.1 (hs'.1 y hy)
        cases hb : y.before r a with
        | false => rfl
        | true =>
          have h2 := before_iff.1 hb
          have : x.before r a = true := before_iff.2 (by omega)
          rw [hx] at this; cases this
      have hp : pos (x :: t) r a = 0 := by
        unfold pos
        rw [List.filter_eq_nil_iff.2]
        · rfl
        · intro y hy
          rcases List.mem_cons.1 hy with rfl | hy
          · simp [hx]
          · simp [hall y hy]
      have hc : c.before r a = false := by
        cases m with
        | zero =>
          simp only [List.getElem?_cons_zero, Option.some.injEq] at h
          subst h; exact hx
        | succ m =>
          rw [List.getElem?_cons_succ] at h
          exact hall c (List.mem_of_getElem? h)
      rw [hp, hc]; simp
theorem atC_pos {l : List Cert} {r a : Int} (hs : sortedC l) : atC l r a = (l[pos l r a]?).filter fun c => decide (c.round = r ∧ c.author = a) := by
  obtain ⟨k, hk⟩ : ∃ k, pos l r a = k := ⟨_, rfl⟩
  cases hc : atC l r a with
  | none =>
    unfold atC at hc
    rw [List.find?_eq_none] at hc
    cases hg : l[pos l r a]? with
    | none => rfl
    | some c =>
      have := hc c (List.mem_of_getElem? hg)
      simp only [Option.filter, this]
      rfl
  | some c =>
    have hc1 : decide (c.round = r ∧ c.author = a) = true := by
      have := List.find?_some hc; simpa using this
    have hcm : c ∈ l := List.mem_of_find?_eq_some hc
    obtain ⟨m, hm⟩ := List.getElem?_of_mem hcm
    have hc2 := of_decide_eq_true hc1
    have hnb : ¬ m < pos l r a := fun h => by
      have := before_iff.1 ((pos_iff hs hm).2 h)
      omega
    have heq : m = pos l r a := by
      rcases Nat.lt_or_ge (pos l r a) m with h | h
      · exfalso
        have hlt : m < l.length := by
          rcases Nat.lt_or_ge m l.length with h2 | h2
          · exact h2
          · rw [List.getElem?_eq_none h2] at hm; cases hm
        obtain ⟨x, hx⟩ : ∃ x, l[pos l r a]? = some x := ⟨_, List.getElem?_eq_getElem (by omega)⟩
        have hb : x.before c.round c.author = true := by
          have := List.pairwise_iff_getElem.1 hs (pos l r a) m (by omega) hlt h
          rw [List.getElem?_eq_getElem (by omega)] at hx hm
          cases hx; cases hm; exact this
        rw [hc2.1, hc2.2] at hb
        have := (pos_iff hs hx).1 hb
        omega
      · omega
    rw [← heq, hm]
    simp only [Option.filter, hc1]
    rfl
theorem cmpP_neg {c : Cert} {r a : Int} : cmpP c r a < 0 ↔ c.before r a = true := by
  rw [before_iff]
  unfold cmpP cmpI
  split <;> split <;> (try split) <;> (try split) <;> omega
theorem cmpP_zero {c : Cert} {r a : Int} : cmpP c r a = 0 ↔ c.round = r ∧ c.author = a := by
  unfold cmpP cmpI
  split <;> split <;> (try split) <;> (try split) <;> omega
theorem half {i j : Nat} {z z1 z2 : Int} (hi : i ≤ 140737488355328) (hj : j ≤ 140737488355328) (h1 : z = IntKind.u64.wrap ((i : Int) + j)) (h2 : z1 = ishr .u64 z 1) (h3 : z2 = IntKind.i64.wrap z1) : z2 = ((i + j) / 2 : Nat) := by
  have e1 : IntKind.u64.wrap ((i : Int) + j) = (i : Int) + j := by
    simp only [IntKind.wrap, IntKind.signed, IntKind.bits]
    simp
    omega
  have e2 : z1 = (((i + j) / 2 : Nat) : Int) := by
    rw [h2, h1, e1]
    have : ishr .u64 ((i : Int) + j) 1 = ((i : Int) + j).fdiv 2 := rfl
    rw [this, Int.fdiv_eq_ediv_of_nonneg _ (by decide)]
    omega
  rw [h3, e2, wrapI (by omega)]
set_option maxHeartbeats 4000000 in
theorem bsearch_ok (l : List Cert) (r a : Int) (hl : few l) (hs : sortedC l) (hf : fitC l) (hr : isF r) (ha : isF a) : ACalls Tryz.prog 174 [.d (.sl 6 (certsD l)), .d (plb r a), .fn 175 []] [] (fun av L => av = .tup [.d (.int .i64 (pos l r a)), .d (.bool (atC l r a).isSome)] ∧ L = []) := by
  have hcl := certsD_length l
  unfold few at hl
  refine acalls_go ttOk zOk foOk Tryz.func174 rfl Tryz.ntmps174 rfl false rfl ?_
  conv => whnf
  refine loop_go ttOk zOk foOk (σ := Nat × Nat) (fun s => ([(0, .d (.sl 6 (certsD l))), (1, .d (plb r a)), (2, .fn 175 []), (8, .d (.int .i64 l.length)), (9, .d (.int .i64 s.1)), (10, .d (.int .i64 s.2))], [])) (fun s => s.1 ≤ pos l r a ∧ pos l r a ≤ s.2 ∧ s.2 ≤ l.length) (fun s => s.2 - s.1) [0, 1, 2, 8, 9, 10] ?_ ?_
  · conv => whnf
    exact ⟨(0, l.length), by rw [hcl]; rfl, rfl, Nat.zero_le _, pos_le l r a, Nat.le_refl _⟩
  · rintro ⟨i, j⟩ ⟨h1, h2, h3⟩
    simp only at h1 h2 h3
    conv => whnf
    repeat' (first | ((with_reducible apply z_wrap); (focus omega); (conv => whnf)) | ((with_reducible first | apply mt_dec | apply mt_eq | apply mt_ne | apply mt_not | apply mt_any) <;> (intro _; conv => whnf)))
    · rename_i hij
      intro z hz
      conv => whnf
      refine ⟨by decide, ?_⟩
      intro z1 hz1
      conv => whnf
      intro z2 hz2
      have hh := half (by omega) (by omega) hz hz1 hz2
      subst hh
      clear hz hz1 hz2
      obtain ⟨h, hh⟩ : ∃ h, (i + j) / 2 = h := ⟨_, rfl⟩
      rw [hh]
      obtain ⟨c, hc⟩ : ∃ c, l[h]? = some c := ⟨_, List.getElem?_eq_getElem (by omega)⟩
      obtain ⟨f1, f2⟩ := hf c (List.mem_of_getElem? hc)
      conv => whnf
      refine ⟨by omega, c.cs, certsD_at hc, ?_⟩
      conv => whnf
      repeat' (first | ((with_reducible apply z_wrap); (focus omega); (conv => whnf)) | ((with_reducible first | apply mt_dec | apply mt_eq | apply mt_ne | apply mt_not | apply mt_any) <;> (intro _; conv => whnf)))
      refine (findf_ok c r a f1 f2 hr ha).mono ?_
      rintro _ _ ⟨rfl, rfl⟩
      have hp := pos_iff (r := r) (a := a) hs hc
      rw [← cmpP_neg] at hp
      conv => whnf
      repeat' (first | ((with_reducible apply z_wrap); (focus omega); (conv => whnf)) | ((with_reducible first | apply mt_dec | apply mt_eq | apply mt_ne | apply mt_not | apply mt_any) <;> (intro _; conv => whnf)))
      · rename_i hn
        exact ⟨(h + 1, j), rfl, rfl, ⟨by have := hp.1 hn; show h + 1 ≤ _; omega, h2, h3⟩, by show j - (h + 1) < j - i; omega⟩
      · rename_i hn
        exact ⟨(i, h), rfl, rfl, ⟨h1, by show _ ≤ h; rcases Nat.lt_or_ge h (pos l r a) with h4 | h4; exact absurd (hp.2 h4) hn; exact h4, by show h ≤ _; omega⟩, by show h - i < j - i; omega⟩
    · rename_i hij hlt
      replace hij : ¬ (i : Int) < j := hij
      replace hlt : (i : Int) < l.length := hlt
      obtain rfl : i = pos l r a := by omega
      obtain ⟨c, hc⟩ : ∃ c, l[pos l r a]? = some c := ⟨_, List.getElem?_eq_getElem (by omega)⟩
      obtain ⟨f1, f2⟩ := hf c (List.mem_of_getElem? hc)
      rw [atC_pos hs]
      refine ⟨by omega, c.cs, certsD_at hc, ?_⟩
      conv => whnf
      repeat' (first | ((with_reducible apply z_wrap); (focus omega); (conv => whnf)) | ((with_reducible first | apply mt_dec | apply mt_eq | apply mt_ne | apply mt_not | apply mt_any) <;> (intro _; conv => whnf)))
      refine (findf_ok c r a f1 f2 hr ha).mono ?_
      rintro _ _ ⟨rfl, rfl⟩
      conv => whnf
      refine ⟨?_, rfl⟩
      have e : (Option.filter (fun c : Cert => decide (c.round = r ∧ c.author = a)) l[pos l r a]?).isSome = (cmpP c r a == 0) := by
        rw [hc, Bool.eq_iff_iff, beq_iff_eq, cmpP_zero]
        by_cases hd : c.round = r ∧ c.author = a <;> simp [Option.filter, hd]
      rw [e]
    · rename_i hij hlt
      replace hij : ¬ (i : Int) < j := hij
      replace hlt : ¬ (i : Int) < l.length := hlt
      obtain rfl : i = pos l r a := by omega
      rw [atC_pos hs, List.getElem?_eq_none (by omega)]
      exact ⟨rfl, rfl⟩
theorem find_ok (l : List Cert) (r a : Int) (hl : few l) (hs : sortedC l) (hf : fitC l) (hr : isF r) (ha : isF a) : ACalls Tryz.prog 134 [.d (.sl 6 (certsD l)), .d (plb r a)] [] (fun av L => av = .tup [.d (.int .i64 (pos l r a)), .d (.bool (atC l r a).isSome)] ∧ L = []) := by
  refine acalls_go ttOk zOk foOk Tryz.func134 rfl Tryz.ntmps134 rfl false rfl ?_
  conv => whnf
  (refine (bsearch_ok l r a hl hs hf hr ha).mono ?_; rintro _ _ ⟨rfl, rfl⟩; (conv => whnf))
  exact ⟨rfl, rfl⟩
end Go.Proofs.YtdlfmgcmfoehdaaGreat
